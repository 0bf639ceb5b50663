import Derived.Test.YtfndjkoiappemaaGreatPc1
import Derived.Test.YtfndjkoiappemaaGreatW7
import Derived.Test.YtfndjkoiappemaaGreatW3
open List (exists_cons_of_length_eq_add_one getElem?_eq_getElem getElem?_map getElem_mem length_cons length_nil map_cons map_id' take_of_length_le)
open Int (toNat_natCast)
open Option (map_some)
open Bool (decide_and)
set_option maxRecDepth 100000
set_option maxHeartbeats 1000000
section
namespace Go.Proofs.CN
open Gp
theorem Yr (x:sV):∀v∈e16 x,jr v=true:=by
 obtain⟨x0,x1,x2,x3,x4,x5,x6,x7,x8,x9,h,u,I,J,N,O,⟨⟩⟩:=x;intro v hv;have:(e16 (x0,x1,x2,x3,x4,x5,x6,x7,x8,x9,h,u,I,J,N,O,())).all jr=true:=rfl;exact List.all_eq_true.1 this v hv
theorem acu {w:World} {s:iq} {xs:List sV} (hs:mY 16 e16 w s xs) (hl:s.len<=2^40):
  jI s w λr w'=>Ext w w'/\iW 16 e16 w' r xs/\∀b,iq.at r b->w.heap.size<=b:=by
 apply Aj;have hlen:=hs.len
 cases ha:s.a with
 |none=>
  have hc:=hs.cells;rw[ha] at hc;have h0:xs.flatMap e16=[]:=hc;have u:=jU e16 16 tY xs;rw[h0] at u;have:xs=[]:=by
   cases xs with
   |nil=>rfl
   |cons _ _=>simp only[length_cons,length_nil] at u;omega
  subst this;simp only[Option.isNone_none,cond_true];exact⟨Ext.refl _,iW.nil,λb ⟨o,hb⟩=>by cases hb⟩
 |some a=>
  simp only[Option.isNone_some,cond_false];refine iI λt w1 rt et zt f1=> ?_;have hb:iW 16 e16 w1 ⟨some ⟨t,0,none⟩,0,0⟩ ([]:List sV):=iW.row (xs:=[]) rt;refine iV tY hb (hs.ext f1) rfl (by omega) Yr (by simp only[length_nil];omega) (by simp only[length_nil];omega) λs' w' h1 h2 h3=> ?_;refine⟨f1.new h2 λb hb ⟨o,he⟩=>by cases he;omega,h1,λb hb=> ?_⟩;rcases h3 b hb with ⟨o,he⟩|h
  ·cases he;omega
  ·omega
def I5 (x:T7):Int:=x.1
def cnt (tl:List T7) (k:Nat):Nat:=tl.countP λy=>I5 y==(k:Int)
def cnts (n:Nat) (tl:List T7):List Int:=(List.range n).map λk=>(cnt tl k:Int)
theorem Gt (n:Nat) (tl:List T7):(cnts n tl).flatMap eI=(List.range n).map λk=>Value.int .i64 (cnt tl k:Int):=by
 unfold cnts;generalize List.range n=l
 induction l with
 |nil=>rfl
 |cons a l ih=>simp only[map_cons,List.flatMap_cons,ih];rfl
theorem aeD {α:Type} {n:Nat} {f:α->List Value} {w:World} {s:iq} {xs:List α} {a:Addr} (hn:∀x,(f x).length=n) (hn0:0<n) (h:mY n f w s xs) (ha:s.a=some a) (hx:0<xs.length):a.block<w.heap.size:=by
 have hc:=h.cells;rw[ha] at hc;have hfl:=jU f n hn xs;have hp:0<xs.length * n:=Nat.mul_pos hx hn0;have h0:=hc.2 0 (by omega);rw[getElem?_eq_getElem (by omega)] at h0;exact cell_lt h0
theorem aeT (tl:List T7) (x:T7) (k:Nat):cnt (tl++[x]) k=cnt tl k+if I5 x=(k:Int) then 1 else 0:=by
 unfold cnt;rw[List.countP_append,List.countP_singleton];congr 1;by_cases h:I5 x=(k:Int)<;>simp[h]
theorem aeU {n:Nat} {tl:List T7} {x:T7} (h0:0<=I5 x):
  ((cnts n tl).flatMap eI).set (I5 x).toNat (.int .i64 ((cnt tl (I5 x).toNat:Int)+1))=(cnts n (tl++[x])).flatMap eI:=by
 rw[Gt,Gt];refine List.ext_getElem? λi=> ?_;rw[List.getElem?_set];by_cases hi:i<n
 ·rw[getElem?_map,getElem?_map,List.getElem?_range hi];simp only[map_some,List.length_map,List.length_range];rw[aeT];by_cases he:(I5 x).toNat=i
  ·subst he;rw[if_pos rfl,if_pos hi,if_pos (by omega)];rfl
  ·rw[if_neg he,if_neg (by omega)];rfl
 ·rw[List.getElem?_eq_none (by simp;omega),List.getElem?_eq_none (by simp;omega)];by_cases he:(I5 x).toNat=i
  ·rw[if_pos he,if_neg (by simp;omega)]
  ·rw[if_neg he]
def Gu (p:sV) (sl:List sV) (pl:List Int) (tl:List T7) (n:Nat) (q:Int):Prop:=
 (sl++[p]).Nodup/\pl.Nodup/\(tl.map qE).Nodup/\(tl.map sS).Nodup/\∀k:Nat,k<n->(cnt tl k:Int)<=q
theorem aeJ {n:Nat} {tl:List T7} {q:Int}:((cnts n tl).any λx=>decide (x>q))=true↔¬∀k:Nat,k<n->(cnt tl k:Int)<=q:=by
 rw[List.any_eq_true];constructor
 ·rintro⟨x,hx,hq⟩ h;obtain⟨k,hk,rfl⟩:=List.mem_map.1 hx;have:=h k (List.mem_range.1 hk);simp only[decide_eq_true_eq] at hq;omega
 ·intro h;by_cases hk:∃k:Nat,k<n/\q<(cnt tl k:Int)
  ·obtain⟨k,h1,h2⟩:=hk;exact⟨_,List.mem_map.2 ⟨k,List.mem_range.2 h1,rfl⟩,by simpa using h2⟩
  ·exact absurd (λk hk'=>by
    by_cases hh:(cnt tl k:Int)<=q
    ·exact hh
    ·exact absurd ⟨k,hk',by omega⟩ hk) h
theorem abl {w:World} {p0 p1 p2 p3 p4 p5 p6 p7 p8 p9 I J N O R U:Int} {sw po:iq} {n18 n19 n20 n21 n22 n23 n24 n25 n26 n27 n28 n29 n30 n31 n32 n33 n34:Int} {st:iq} {sl:List sV} {pl:List Int} {tl:List T7} (ag:mY 16 e16 w sw sl) (aa:mY 1 eI w po pl) (u:mY 7 e7 w st tl) (lsw:sw.len<=2^40) (lpo:po.len<=2^40) (lst:st.len<=2^40)
  (hr:∀x∈tl,0<=I5 x/\I5 x<(sw.len:Int)):
  rQ p0 p1 p2 p3 p4 p5 p6 p7 p8 p9 I J N O R U sw po n18 n19 n20 n21 n22 n23 n24 n25 n26 n27 n28 n29 n30 n31 n32 n33 n34 st w λr w'=>(r=true↔¬Gu (p0,p1,p2,p3,p4,p5,p6,p7,p8,p9,I,J,N,O,R,U,()) sl pl tl sw.len n20)/\Ext w w':=by
 apply P6;have lens:=ag.len;refine iI λa w1 ra ea z1 f1=> ?_;simp -zeta only[sx,ra.drew.cell];intro J4;have hJ4:∀s W,Ext w1 W->iW 16 e16 W s (sl++[(p0,p1,p2,p3,p4,p5,p6,p7,p8,p9,I,J,N,O,R,U,())])->J4 s W:=by
  intro s W hx hb;have ra:=ra.ext hx;have aa:=(aa.ext f1).ext hx;have u:=(u.ext f1).ext hx;have xx:=f1.trans hx;simp -zeta only[J4];intro J7;have hJ7:∀c W',Ext W W'->(c=true↔¬((sl++[(p0,p1,p2,p3,p4,p5,p6,p7,p8,p9,I,J,N,O,R,U,())]).Nodup/\pl.Nodup/\(tl.map qE).Nodup/\(tl.map sS).Nodup))->J7 c W':=by
   intro c W' hx' hc;simp only[J7]
   cases c
   ·have ra:=ra.ext hx';have u:=u.ext hx';have hf:(sl++[(p0,p1,p2,p3,p4,p5,p6,p7,p8,p9,I,J,N,O,R,U,())]).Nodup/\pl.Nodup/\(tl.map qE).Nodup/\(tl.map sS).Nodup:=by
     by_cases h:(sl++[(p0,p1,p2,p3,p4,p5,p6,p7,p8,p9,I,J,N,O,R,U,())]).Nodup/\pl.Nodup/\(tl.map qE).Nodup/\(tl.map sS).Nodup
     ·exact h
     ·exact absurd (hc.2 h) (by simp)
    simp only[cond_false,cond_false,d_,iy,iL,ra.cell];refine F6 (by omega) (by omega) (by omega) (by omega) λm w2 rm em z2 f2=> ?_;have f2:Ext W' w2:=f2;have la1:=ra.lt;have ah:=u;have ra:=ra.ext f2;have u:=u.ext f2;have hlt:=u.len;simp only[sx,toNat_natCast,ra.cell];have rm0:Row w2 m ((cnts sw.len (tl.take 0)).flatMap eI):=by
     have e:(cnts sw.len (tl.take 0)).flatMap eI=iM [Value.int .i64 0] ((sw.len:Int)).toNat:=by
      rw[Gt,toNat_natCast];generalize sw.len=n;rw[List.take_zero];have:∀l:List Nat,(l.map λk=>Value.int .i64 ((cnt [] k:Nat):Int))=iM [Value.int .i64 0] l.length:=by
       intro l
       induction l with
       |nil=>rfl
       |cons a l ih=>simp only[map_cons,length_cons,iM,ih];rfl
      rw[this,List.length_range]
     rw[e];exact rm
    refine iE (λst' V=>∃j:Nat,j<=tl.length/\st'.1=(j:Int)/\Row V m ((cnts sw.len (tl.take j)).flatMap eI)/\iG w2 V (·=m)) (λst' _=>(tl.length - st'.1).toNat) ⟨0,by omega,rfl,rm0,iG.refl _ _⟩ ?_;rintro⟨i,⟨⟩⟩ V ⟨j,hj,hi,rmV,af⟩ next ab
    simp only at hi;subst hi;have lra:=ra.lt;have zW:=hx'.size;have raV:=ra.fr af (by omega);have ai:=u.fr af (λa' ha' hl'=>by
     have:=aeD yO (by omega) ah ha' hl';omega)
    by_cases ac:(j:Int)<(st.len:Int)
    ·simp only[ac,decide_true,cond_true];have hx:=getElem?_eq_getElem (show j<tl.length by omega);have ae:=getElem_mem (show j<tl.length by omega);generalize tl[j]=x at hx ae;have al:=Gp.Cfg.take_snoc hx;have aj:=hr x ae;have Y:=aeU (n:=sw.len) (tl:=tl.take j) (x:=x) aj.1;rw[<- al] at Y;have ak:cnt (tl.take j) (I5 x).toNat<=tl.length:=Nat.le_trans (List.countP_le_length) (by simp;omega);refine SlN_ix yO (by omega) ai (by omega) (by rw[toNat_natCast];exact hx) λa' hc=> ?_;obtain⟨x0,x1,x2,x3,x4,x5,x6,⟨⟩⟩:=x;have c0:V.cell? (a'.add 0)=some (.int .i64 x0):=hc 0 _ rfl;have c1:V.cell? (a'.add 1)=some (.int .i64 x1):=hc 1 _ rfl;have c2:V.cell? (a'.add 2)=some (.int .i64 x2):=hc 2 _ rfl;have c3:V.cell? (a'.add 3)=some (.int .i64 x3):=hc 3 _ rfl;have c4:V.cell? (a'.add 4)=some (.int .i64 x4):=hc 4 _ rfl;have c5:V.cell? (a'.add 5)=some (.int .i64 x5):=hc 5 _ rfl;have c6:V.cell? (a'.add 6)=some (.int .i64 x6):=hc 6 _ rfl;simp only[iy,iF,c0,c1,c2,c3,c4,c5,c6];refine FX rfl rfl λt w3 rt et zt f3=> ?_;have rm3:=rmV.ext f3;have hq0:0<=x0/\x0<(sw.len:Int):=aj;have hg:((cnts sw.len (tl.take j)).flatMap eI)[x0.toNat]? =some (.int .i64 (cnt (tl.take j) x0.toNat:Int)):=by
      rw[Gt,getElem?_map,List.getElem?_range (by omega)];rfl
     have ak:cnt (tl.take j) x0.toNat<=tl.length:=ak;have Y:((cnts sw.len (tl.take j)).flatMap eI).set x0.toNat (.int .i64 ((cnt (tl.take j) x0.toNat:Int)+1))=(cnts sw.len (tl.take (j+1))).flatMap eI:=Y;simp only[List.getElem?_cons_zero,iy,iF,rt.cell,Nat.mul_one,rm3.cell,hg];refine⟨hq0.1,hq0.2,hq0.1,hq0.2,?_⟩;rw[wrap_i64 (by omega) (by omega),wrap_i64 (by omega) (by omega)];refine iK rm3 rfl (by rw[Gt];simp;omega) λw4 rm4 f4 z4=> ?_;rw[Y] at rm4;exact ab _ _ ⟨j+1,by omega,by simp,rm4,(af.ext f3).trans (f4 (·=m) rfl) λ_ _ e=>e⟩ (by simp only;omega)
    ·simp only[ac,decide_false,cond_false];rw[take_of_length_le (by omega)] at rmV;have am:mY 1 eI V ⟨some ⟨m,0,none⟩,sw.len,sw.len⟩ (cnts sw.len tl):=by
      have:=(iW.row (xs:=cnts sw.len tl) (f:=eI) (n:=1) rmV).sl kN (by omega);simpa [cnts] using this
     refine sH (UH am (by simp only;omega) ag3 λW hW=>raV.ext hW) ?_;rintro r w5 ⟨rfl,f5⟩;have e5:Ext W' V:=f2.new af λb hb e=>by omega
     refine⟨?_,((xx.trans hx').trans e5).trans f5⟩;rw[aeJ];exact⟨λh hh=>h hh.2.2.2.2,λh hh=>h ⟨hf.1,hf.2.1,hf.2.2.1,hf.2.2.2,hh⟩⟩
   ·simp only[cond_true];exact⟨⟨λ_ h=>hc.1 rfl ⟨h.1,h.2.1,h.2.2.1,h.2.2.2.1⟩,λ_=>by trivial⟩,xx.trans hx'⟩
  refine AP (Jz (hb.sl tY (by omega)) ?_ rfl ZW) ?_
  ·rw[hb.len];simp only[List.length_append,length_cons,length_nil];omega
  rintro v w2 ⟨f2,C,hi,hC⟩;rw[map_id'] at hi;refine Gh (ahL hi hC) ?_;rintro r w3 ⟨h1,f3⟩
  cases r
  ·have f3:=f2.trans f3;have n1:(sl++[(p0,p1,p2,p3,p4,p5,p6,p7,p8,p9,I,J,N,O,R,U,())]).Nodup:=by
    by_cases h:(sl++[(p0,p1,p2,p3,p4,p5,p6,p7,p8,p9,I,J,N,O,R,U,())]).Nodup
    ·exact h
    ·exact absurd (h1.2 h) (by simp)
   have ra:=ra.ext f3;have aa:=aa.ext f3;have u:=u.ext f3;simp -zeta only[cond_false,cond_false,d_,iy,iL,ra.cell];refine Hy (Yv aa (by simp only;omega) rfl abw) ?_;rintro v w4 ⟨f4,C,hi,hC⟩;rw[map_id'] at hi;refine LG (aiX hi hC) ?_;rintro r w5 ⟨h2,f5⟩;have f5:=f4.trans f5
   cases r
   ·have n2:pl.Nodup:=by
     by_cases h:pl.Nodup
     ·exact h
     ·exact absurd (h2.2 h) (by simp)
    have ra:=ra.ext f5;have u:=u.ext f5;simp -zeta only[cond_false,cond_false,d_,iy,iL,ra.cell];refine yh (EG u (by simp only;omega) rfl afi) ?_;rintro v w6 ⟨f6,C,hi,hC⟩;refine Ez (aiZ hi hC) ?_;rintro r w7 ⟨h3,f7⟩;have f7:=f6.trans f7
    cases r
    ·have n3:(tl.map qE).Nodup:=by
      by_cases h:(tl.map qE).Nodup
      ·exact h
      ·exact absurd (h3.2 h) (by simp)
     have ra:=ra.ext f7;have u:=u.ext f7;simp -zeta only[cond_false,cond_false,d_,iy,iL,ra.cell];refine yj (EH u (by simp only;omega) rfl afj) ?_;rintro v w8 ⟨f8,C,hi,hC⟩;refine EC (aiY hi hC) ?_;rintro r w9 ⟨h4,f9⟩;refine hJ7 _ _ ((((f3.trans f5).trans f7).trans f8).trans f9) (h4.trans ⟨λh hh=>h hh.2.2.2,λh hh=>h ⟨n1,n2,n3,hh⟩⟩)
    ·simp -zeta only[cond_true];exact hJ7 _ _ ((f3.trans f5).trans f7) ⟨λ_ h=>h3.1 rfl h.2.2.1,λ_=>rfl⟩
   ·simp -zeta only[cond_true];exact hJ7 _ _ (f3.trans f5) ⟨λ_ h=>h2.1 rfl h.2.1,λ_=>rfl⟩
  ·simp -zeta only[cond_true];exact hJ7 _ _ (f2.trans f3) ⟨λ_ h=>h1.1 rfl h.1,λ_=>rfl⟩
 have hd:=Ext.drew w1;refine⟨?_,?_⟩
 ·refine rG (acu ((ag.ext f1).ext hd) lsw) ?_;rintro r w2 ⟨f2,hb,hb2⟩;have e2:=hd.trans f2;have ra2:=ra.ext e2;simp only[sx,zo,Di,ra2.cell,true_and];refine iI λt w3 rt et zt f3=> ?_;have ra3:=ra2.ext f3;simp only[sx,zo,Di,ra3.cell,true_and];have ht:mY 16 e16 w3 ⟨some ⟨t,0,none⟩,1,1⟩ [((p0,p1,p2,p3,p4,p5,p6,p7,p8,p9,I,J,N,O,R,U,()):sV)]:=(iW.row (xs:=[((p0,p1,p2,p3,p4,p5,p6,p7,p8,p9,I,J,N,O,R,U,()):sV)]) (f:=e16) (n:=16) rt).sl tY (by omega);refine iV tY (hb.ext f3) ht rfl (by omega) Yr (by simp only[length_cons,length_nil];omega) (by simp only[length_cons,length_nil];omega) λs' w' h1 h2 h3=> ?_;have hz:w1.heap.size<=w1.drew.heap.size:=hd.size;exact hJ4 _ _ (((e2.trans f3).fr h2).new λb hb' hs=>by have:=hb2 b hs;omega) h1
 ·refine iI λt w2 rt et zt f2=> ?_;have e2:=hd.trans f2;have ra2:=ra.ext e2;simp only[sx,zo,Di,ra2.cell,true_and];refine rG (acu ((ag.ext f1).ext e2) lsw) ?_;rintro r w3 ⟨f3,hb,hb2⟩;have e3:=e2.trans f3;have ra3:=ra2.ext f3;simp only[sx,zo,Di,ra3.cell,true_and];have ht:mY 16 e16 w3 ⟨some ⟨t,0,none⟩,1,1⟩ [((p0,p1,p2,p3,p4,p5,p6,p7,p8,p9,I,J,N,O,R,U,()):sV)]:=((iW.row (xs:=[((p0,p1,p2,p3,p4,p5,p6,p7,p8,p9,I,J,N,O,R,U,()):sV)]) (f:=e16) (n:=16) rt).sl tY (by omega)).ext f3;refine iV tY hb ht rfl (by omega) Yr (by simp only[length_cons,length_nil];omega) (by simp only[length_cons,length_nil];omega) λs' w' h1 h2 h3=> ?_;have hz:w1.heap.size<=w2.heap.size:=e2.size;exact hJ4 _ _ ((e3.fr h2).new λb hb' hs=>by have:=hb2 b hs;omega) h1
end Go.Proofs.CN
namespace Go.Proofs.CN
open Gp
def abf (ls lp lt n18 n19 n20 n21 n22 n23 n24 n25 n26 n27 n29 n30 n31 n32 n33 n34:Int):List T3:=
 [(ls,1,64,()),(lp,1,16,()),(lt,0,if n21<64 then n21 else 64,()),(n18,1,65535,()),(n19,n18,65535,()),(n20,1,4096,()),(n21,1,4096,()),(n22,1,4096,()),(n23,0,4096,()),
  (n24,0,67108864,()),(n25,1280,65535,()),(n26,1280,65535,()),(n27,1,255,()),(n29,0,2,()),(n30,120,1048576,()),(n31,7440,1048576,()),(n32,240,1048576,()),(n33,60,1048576,()),(n34,1,1048576,())]
theorem ae5 (x:T3):(e3 x).length=3:=rfl
def okB (b:T3):Prop:=b.2.1<=b.1/\b.1<=b.2.2.1
instance (b:T3):Decidable (okB b):=inferInstanceAs (Decidable (_/\_))
theorem adu {p0 p1 p2 p3 p4 p5 p6 p7 p8 p9 h u I J N O:Int} {sw po:iq} {n18 n19 n20 n21 n22 n23 n24 n25 n26 n27 n28 n29 n30 n31 n32 n33 n34:Int} {st:iq} (w:World):uj p0 p1 p2 p3 p4 p5 p6 p7 p8 p9 h u I J N O sw po n18 n19 n20 n21 n22 n23 n24 n25 n26 n27 n28 n29 n30 n31 n32 n33 n34 st w λr w'=>Ext w w'/\r.len=19/\mY 3 e3 w' r (abf sw.len po.len st.len n18 n19 n20 n21 n22 n23 n24 n25 n26 n27 n29 n30 n31 n32 n33 n34):=by
 apply Rj;refine iI λa w1 ra ea z1 f1=> ?_;simp only[sx,ra.cell];refine iI λb w2 rb eb z2 f2=> ?_;have hb:=iW.row (n:=3) (f:=e3) (xs:=abf sw.len po.len st.len n18 n19 n20 n21 n22 n23 n24 n25 n26 n27 n29 n30 n31 n32 n33 n34) (w:=w2) (b:=b) rb;exact⟨f1.trans f2,by trivial,hb.sl ae5 (by omega)⟩
structure OkP (p:sV) (ls lp lt n18 n19 n20 n21 n22 n23 n24 n25 n26 n27 n28 n29 n30 n31 n32 n33 n34:Int) (n:Nat) (sl:List sV) (pl:List Int) (tl:List T7):Prop where
 nums:∀b∈abf ls lp lt n18 n19 n20 n21 n22 n23 n24 n25 n26 n27 n29 n30 n31 n32 n33 n34,okB b
 mss:aai n28
 parts:Bd p n sl pl tl=true
theorem ac2 {n:Nat} {pl:List Int} {x:T7} (h:GZ n pl x):0<=I5 x/\I5 x<(n:Int):=by
 obtain⟨q0,q1,q2,q3,q4,q5,q6,⟨⟩⟩:=x;have:(0<=q0/\q0<=(n:Int) - 1):=h.2.2.2;show 0<=q0/\q0<(n:Int);omega
theorem abX {p:sV} {n:Nat} {sl:List sV} {pl:List Int} {tl:List T7} (h:Bd p n sl pl tl=true):∀x∈tl,GZ n pl x:=by
 intro x hx;unfold Bd at h;simp only[Bool.and_eq_true,Bool.not_eq_true',List.any_eq_false] at h;have:=h.2.2.2 x hx;simpa using this
theorem aeS {w:World} {p0 p1 p2 p3 p4 p5 p6 p7 p8 p9 u I J N O R:Int} {sw po:iq} {n18 n19 n20 n21 n22 n23 n24 n25 n26 n27 n28 n29 n30 n31 n32 n33 n34:Int} {st:iq} {sl:List sV} {pl:List Int} {tl:List T7} (ai:mY 16 e16 w sw sl) (aj:mY 1 eI w po pl) (ak:mY 7 e7 w st tl) (lsw:sw.len<=2^40) (lpo:po.len<=2^40) (lst:st.len<=2^40):
  vJ p0 p1 p2 p3 p4 p5 p6 p7 p8 p9 u I J N O R sw po n18 n19 n20 n21 n22 n23 n24 n25 n26 n27 n28 n29 n30 n31 n32 n33 n34 st w λr w'=>((¬OkP (p0,p1,p2,p3,p4,p5,p6,p7,p8,p9,u,I,J,N,O,R,()) sw.len po.len st.len n18 n19 n20 n21 n22 n23 n24 n25 n26 n27 n28 n29 n30 n31 n32 n33 n34 sw.len sl pl tl/\r=1)\/
   (OkP (p0,p1,p2,p3,p4,p5,p6,p7,p8,p9,u,I,J,N,O,R,()) sw.len po.len st.len n18 n19 n20 n21 n22 n23 n24 n25 n26 n27 n28 n29 n30 n31 n32 n33 n34 sw.len sl pl tl/\((¬Gu (p0,p1,p2,p3,p4,p5,p6,p7,p8,p9,u,I,J,N,O,R,()) sl pl tl sw.len n20/\r=9)\/(Gu (p0,p1,p2,p3,p4,p5,p6,p7,p8,p9,u,I,J,N,O,R,()) sl pl tl sw.len n20/\r=0))))/\Ext w w':=by
 apply Tz;refine iI λa w1 ra ea z1 f1=> ?_;simp -zeta only[sx,ra.cell];refine QG (adu w1) ?_;rintro bs w2 ⟨f2,hl19,ae⟩;generalize al:abf sw.len po.len st.len n18 n19 n20 n21 n22 n23 n24 n25 n26 n27 n29 n30 n31 n32 n33 n34=bl at ae;have hlb:bs.len=bl.length:=ae.len;refine iE (λst' W=>∃j:Nat,j<=19/\st'.1=(j:Int)/\Ext w2 W/\∀b∈bl.take j,okB b) (λst' _=>(19 - st'.1).toNat) ⟨0,by omega,rfl,Ext.refl _,by simp⟩ ?_;rintro⟨i,⟨⟩⟩ W ⟨j,hj,hi,hx,U⟩ next aa
 simp only at hi;subst hi;have af:=f1.trans f2;have raW:=(ra.ext f2).ext hx;by_cases am:(j:Int)<(bs.len:Int)
 ·simp -zeta only[am,decide_true,cond_true];have ag:=getElem?_eq_getElem (show j<bl.length by omega);have ab:=getElem_mem (show j<bl.length by omega);generalize bl[j]=x at ag ab;have an:=Gp.Cfg.take_snoc ag;refine SlN_ix ae5 (by omega) (ae.ext hx) (by omega) (by rw[toNat_natCast];exact ag) λa' hc=> ?_;obtain⟨x0,x1,x2,⟨⟩⟩:=x;have c0:W.cell? (a'.add 0)=some (.int .i64 x0):=hc 0 _ rfl;have c1:W.cell? (a'.add 1)=some (.int .i64 x1):=hc 1 _ rfl;have c2:W.cell? (a'.add 2)=some (.int .i64 x2):=hc 2 _ rfl;simp -zeta only[iy,iF,c0,c1,c2];refine FX rfl rfl λt w3 rt et zt f3=> ?_;simp -zeta only[sx,rt.cell];refine qm (BG _ _ _ _) ?_;rintro _ w4 ⟨rfl,f4⟩;by_cases Y:x1<=x0/\x0<=x2
  ·simp -zeta only[Y,and_self,decide_true,Bool.not_true,cond_false];rw[wrap_i64 (by omega) (by omega)];refine aa _ _ ⟨j+1,by omega,by simp,(hx.trans f3).trans f4,?_⟩ (by simp only;omega);rw[an];intro b hb;rcases List.mem_append.1 hb with hb|hb
   ·exact U b hb
   ·rw[List.mem_singleton.1 hb];exact Y
  ·simp -zeta only[Y,decide_false,Bool.not_false,cond_true];exact⟨.inl ⟨λh=>Y (h.nums (x0,x1,x2,()) (by rw[al];exact ab)),by trivial⟩,((af.trans hx).trans f3).trans f4⟩
 ·simp -zeta only[am,decide_false,cond_false];rw[take_of_length_le (by omega)] at U;intro ah;have hJ:∀c W',Ext W W'->(c=false↔aai n28/\Bd (p0,p1,p2,p3,p4,p5,p6,p7,p8,p9,u,I,J,N,O,R,()) sw.len sl pl tl=true)->ah c W':=by
   intro c W' hx' hc;have raW:=raW.ext hx';have xx:=(af.trans hx).trans hx';simp only[ah]
   cases c
   ·obtain⟨h1,h2⟩:=hc.1 rfl;have Y:OkP (p0,p1,p2,p3,p4,p5,p6,p7,p8,p9,u,I,J,N,O,R,()) sw.len po.len st.len n18 n19 n20 n21 n22 n23 n24 n25 n26 n27 n28 n29 n30 n31 n32 n33 n34 sw.len sl pl tl:=⟨by rw[al];exact U,h1,h2⟩;simp only[cond_false,cond_false,d_,iy,iL,iF,raW.cell];refine O_ (abl (ai.ext xx) (aj.ext xx) (ak.ext xx) lsw lpo lst λx hx=>ac2 (abX h2 x hx)) ?_;rintro r w5 ⟨h5,f5⟩
    cases r
    ·have ac:Gu (p0,p1,p2,p3,p4,p5,p6,p7,p8,p9,u,I,J,N,O,R,()) sl pl tl sw.len n20:=by
      by_cases h:Gu (p0,p1,p2,p3,p4,p5,p6,p7,p8,p9,u,I,J,N,O,R,()) sl pl tl sw.len n20
      ·exact h
      ·exact absurd (h5.2 h) (by simp)
     exact⟨.inr ⟨Y,.inr ⟨ac,by trivial⟩⟩,xx.trans f5⟩
    ·exact⟨.inr ⟨Y,.inl ⟨h5.1 rfl,by trivial⟩⟩,xx.trans f5⟩
   ·simp only[cond_true];refine⟨.inl ⟨λh=> ?_,by trivial⟩,xx⟩;have:=hc.2 ⟨h.mss,h.parts⟩
    cases this
  clear_value ah;simp -zeta only[d_,iy,iF,raW.cell];refine S_ (agc _ _) ?_;rintro _ w3 ⟨rfl,f3⟩;by_cases hm:aai n28
  ·have raW:=raW.ext f3;rw[decide_eq_true hm,Bool.not_true,cond_false];simp -zeta only[d_,iy,iL,iF,raW.cell];have xx:=(af.trans hx).trans f3;refine SY (afU (ai.ext xx) (aj.ext xx) (ak.ext xx) (Nat.le_trans lsw (by omega)) (Nat.le_trans lpo (by omega)) (Nat.le_trans lst (by omega))) ?_;rintro _ w4 ⟨rfl,f4⟩;exact hJ _ _ (f3.trans f4) (by cases Bd (p0,p1,p2,p3,p4,p5,p6,p7,p8,p9,u,I,J,N,O,R,()) sw.len sl pl tl<;>simp[hm])
  ·rw[decide_eq_false hm,Bool.not_false,cond_true];exact hJ _ _ f3 (by simp[hm])
end Go.Proofs.CN
namespace Go.Proofs.CN
open Gp
theorem mQ {n lo hi:Int} {w:World} {K:Bool->b_} (h:lo<=n/\n<=hi->K true w) (h':¬(lo<=n/\n<=hi)->K false w):jq n lo hi w K:=by
 refine ZH (ajw n lo hi w) ?_;rintro r w' ⟨hr,hw⟩;subst hw;by_cases hb:lo<=n/\n<=hi
 ·rw[decide_eq_true hb] at hr;subst hr;exact h hb
 ·rw[decide_eq_false hb] at hr;subst hr;exact h' hb
def KJ (n20 n21 n22 n23 n24:Int):Prop:=(1<=n20/\n20<=4096)/\(1<=n21/\n21<=4096)/\(1<=n22/\n22<=4096)/\(0<=n23/\n23<=4096)/\(0<=n24/\n24<=67108864)
def Nu (n25 n26 n27 n28 n29:Int):Prop:=(1280<=n25/\n25<=65535)/\(1280<=n26/\n26<=65535)/\(1<=n27/\n27<=255)/\(n28=0\/(536<=n28/\n28<=65535))/\(0<=n29/\n29<=2)
def KP (n30 n31 n32 n33 n34:Int):Prop:=(120<=n30/\n30<=1048576)/\(7440<=n31/\n31<=1048576)/\(240<=n32/\n32<=1048576)/\(60<=n33/\n33<=1048576)/\(1<=n34/\n34<=1048576)
def Ru (n18 n19:Int):Prop:=(1<=n18/\n18<=65535)/\(n18<=n19/\n19<=65535)
structure afN (n18 n19 n20 n21 n22 n23 n24 n25 n26 n27 n28 n29 n30 n31 n32 n33 n34:Int):Prop where
 rooms:KJ n20 n21 n22 n23 n24
 ways:Nu n25 n26 n27 n28 n29
 waits:KP n30 n31 n32 n33 n34
 ports:Ru n18 n19
theorem abS {p0 p1 p2 p3 p4 p5 p6 p7 p8 p9 O R U Y aa ab:Int} {sw po:iq} {n18 n19 n20 n21 n22 n23 n24 n25 n26 n27 n28 n29 n30 n31 n32 n33 n34:Int} {st:iq} (w:World):um p0 p1 p2 p3 p4 p5 p6 p7 p8 p9 O R U Y aa ab sw po n18 n19 n20 n21 n22 n23 n24 n25 n26 n27 n28 n29 n30 n31 n32 n33 n34 st w λr w'=>(r=true↔afN n18 n19 n20 n21 n22 n23 n24 n25 n26 n27 n28 n29 n30 n31 n32 n33 n34)/\Ext w w':=by
 apply Rn;refine iI λa w1 ra ea z1 f1=> ?_;simp -zeta only[sx,ra.cell];intro J4;have hJ4:∀j5,(j5=true↔KJ n20 n21 n22 n23 n24)->J4 j5 w1:=by
  intro j5 h5;simp -zeta only[J4];simp -zeta only[d_,iy,iF,ra.cell];intro J7;have hJ7:∀j8,(j8=true↔Nu n25 n26 n27 n28 n29)->J7 j8 w1:=by
   intro j8 h8;simp -zeta only[J7];simp -zeta only[d_,iy,iF,ra.cell];intro N;have hJ10:∀I,(I=true↔KP n30 n31 n32 n33 n34)->N I w1:=by
    intro I ac;simp -zeta only[N];intro J;have hJ13:∀u,(u=true↔(j5=true/\j8=true/\I=true/\Ru n18 n19))->J u w1:=by
     intro u ae;simp -zeta only[J];refine⟨ae.trans ?_,f1⟩;rw[h5,h8,ac];exact⟨λh=>⟨h.1,h.2.1,h.2.2.1,h.2.2.2⟩,λh=>⟨h.rooms,h.ways,h.waits,h.ports⟩⟩
    clear_value J
    cases j5
    ·rw[cond_false];exact hJ13 _ ⟨λh=>(by cases h),λh=>(by cases h.1)⟩
    cases j8
    ·rw[cond_true,cond_false];exact hJ13 _ ⟨λh=>(by cases h),λh=>(by cases h.2.1)⟩
    cases I
    ·rw[cond_true,cond_true,cond_false];exact hJ13 _ ⟨λh=>(by cases h),λh=>(by cases h.2.2.1)⟩
    rw[cond_true,cond_true,cond_true];have hJ:∀u,(u=true↔Ru n18 n19)->J u w1:=λj h=>hJ13 j ⟨λe=>⟨rfl,rfl,rfl,h.1 e⟩,λe=>h.2 e.2.2.2⟩;clear hJ13;simp -zeta only[d_,iy,iF,ra.cell];refine mQ (λh0=> ?_) (λhn=> ?_);rotate_left
    ·rw[cond_false];exact hJ _ ⟨λh=>(by cases h),λh=>absurd (by unfold Ru at h;omega) hn⟩
    rw[cond_true]
    try simp -zeta only[d_,iy,iF,ra.cell]
    refine mQ (λh1=> ?_) (λhn=> ?_);rotate_left;exact hJ _ ⟨λh=>(by cases h),λh=>absurd (by unfold Ru at h;omega) hn⟩;exact hJ _ ⟨λ_=>(by unfold Ru;omega),λ_=>rfl⟩
   clear_value N;refine mQ (λh0=> ?_) (λhn=> ?_);rotate_left
   ·rw[cond_false];exact hJ10 _ ⟨λh=>(by cases h),λh=>absurd (by unfold KP at h;omega) hn⟩
   rw[cond_true]
   try simp -zeta only[d_,iy,iF,ra.cell]
   refine mQ (λh1=> ?_) (λhn=> ?_);rotate_left
   ·rw[cond_false];exact hJ10 _ ⟨λh=>(by cases h),λh=>absurd (by unfold KP at h;omega) hn⟩
   rw[cond_true]
   try simp -zeta only[d_,iy,iF,ra.cell]
   refine mQ (λh2=> ?_) (λhn=> ?_);rotate_left
   ·rw[cond_false];exact hJ10 _ ⟨λh=>(by cases h),λh=>absurd (by unfold KP at h;omega) hn⟩
   rw[cond_true]
   try simp -zeta only[d_,iy,iF,ra.cell]
   refine mQ (λh3=> ?_) (λhn=> ?_);rotate_left
   ·rw[cond_false];exact hJ10 _ ⟨λh=>(by cases h),λh=>absurd (by unfold KP at h;omega) hn⟩
   rw[cond_true]
   try simp -zeta only[d_,iy,iF,ra.cell]
   refine mQ (λh4=> ?_) (λhn=> ?_);rotate_left;exact hJ10 _ ⟨λh=>(by cases h),λh=>absurd (by unfold KP at h;omega) hn⟩;exact hJ10 _ ⟨λ_=>(by unfold KP;omega),λ_=>rfl⟩
  clear_value J7;refine mQ (λh0=> ?_) (λhn=> ?_);rotate_left
  ·rw[cond_false];exact hJ7 _ ⟨λh=>(by cases h),λh=>absurd (by unfold Nu at h;omega) hn⟩
  rw[cond_true]
  try simp -zeta only[d_,iy,iF,ra.cell]
  refine mQ (λh1=> ?_) (λhn=> ?_);rotate_left
  ·rw[cond_false];exact hJ7 _ ⟨λh=>(by cases h),λh=>absurd (by unfold Nu at h;omega) hn⟩
  rw[cond_true]
  try simp -zeta only[d_,iy,iF,ra.cell]
  refine mQ (λh2=> ?_) (λhn=> ?_);rotate_left
  ·rw[cond_false];exact hJ7 _ ⟨λh=>(by cases h),λh=>absurd (by unfold Nu at h;omega) hn⟩
  rw[cond_true]
  try simp -zeta only[d_,iy,iF,ra.cell]
  by_cases hm:n28=0
  ·rw[show (n28==0)=true by simpa using hm,cond_true]
   try simp -zeta only[sx,ra.cell]
   refine mQ (λh3=> ?_) (λhn=> ?_);rotate_left;exact hJ7 _ ⟨λh=>(by cases h),λh=>absurd (by unfold Nu at h;omega) hn⟩;exact hJ7 _ ⟨λ_=>(by unfold Nu;omega),λ_=>rfl⟩
  rw[show (n28==0)=false by simpa using hm,cond_false]
  try simp -zeta only[sx,ra.cell]
  refine mQ (λh4=> ?_) (λhn=> ?_);rotate_left
  ·rw[cond_false];exact hJ7 _ ⟨λh=>(by cases h),λh=>absurd (by unfold Nu at h;omega) hn⟩
  rw[cond_true]
  try simp -zeta only[d_,iy,iF,ra.cell]
  refine mQ (λh5=> ?_) (λhn=> ?_);rotate_left;exact hJ7 _ ⟨λh=>(by cases h),λh=>absurd (by unfold Nu at h;omega) hn⟩;exact hJ7 _ ⟨λ_=>(by unfold Nu;omega),λ_=>rfl⟩
 clear_value J4;refine mQ (λh0=> ?_) (λhn=> ?_);rotate_left
 ·rw[cond_false];exact hJ4 _ ⟨λh=>(by cases h),λh=>absurd (by unfold KJ at h;omega) hn⟩
 rw[cond_true]
 try simp -zeta only[d_,iy,iF,ra.cell]
 refine mQ (λh1=> ?_) (λhn=> ?_);rotate_left
 ·rw[cond_false];exact hJ4 _ ⟨λh=>(by cases h),λh=>absurd (by unfold KJ at h;omega) hn⟩
 rw[cond_true]
 try simp -zeta only[d_,iy,iF,ra.cell]
 refine mQ (λh2=> ?_) (λhn=> ?_);rotate_left
 ·rw[cond_false];exact hJ4 _ ⟨λh=>(by cases h),λh=>absurd (by unfold KJ at h;omega) hn⟩
 rw[cond_true]
 try simp -zeta only[d_,iy,iF,ra.cell]
 refine mQ (λh3=> ?_) (λhn=> ?_);rotate_left
 ·rw[cond_false];exact hJ4 _ ⟨λh=>(by cases h),λh=>absurd (by unfold KJ at h;omega) hn⟩
 rw[cond_true]
 try simp -zeta only[d_,iy,iF,ra.cell]
 refine mQ (λh4=> ?_) (λhn=> ?_);rotate_left;exact hJ4 _ ⟨λh=>(by cases h),λh=>absurd (by unfold KJ at h;omega) hn⟩;exact hJ4 _ ⟨λ_=>(by unfold KJ;omega),λ_=>rfl⟩
theorem ab1 {w:World} {p0 p1 p2 p3 p4 p5 p6 p7 p8 p9 N O R U Y aa:Int} {sw po:iq} {n18 n19 n20 n21 n22 n23 n24 n25 n26 n27 n28 n29 n30 n31 n32 n33 n34:Int} {st:iq} (x:Int) {pl:List Int} (I:mY 1 eI w po pl) (hl:po.len<=2^62):
  zD p0 p1 p2 p3 p4 p5 p6 p7 p8 p9 N O R U Y aa sw po n18 n19 n20 n21 n22 n23 n24 n25 n26 n27 n28 n29 n30 n31 n32 n33 n34 st x w λr w'=>r=decide (x∈pl)/\Ext w w':=by
 apply WY;refine iI λa w1 ra ea z1 f1=> ?_;have I:=I.ext f1;have hlen:=I.len;refine iE (λst' W=>∃j:Nat,j<=pl.length/\st'.1=(j:Int)/\W=w1/\x∉pl.take j) (λst' _=>(po.len - st'.1).toNat) ⟨0,by omega,rfl,rfl,by simp⟩ ?_;rintro⟨i,⟨⟩⟩ W ⟨j,hj,hi,hw,hm⟩ next u
 simp only at hi;subst hi;subst hw;simp only[sx,ra.cell];by_cases J:(j:Int)<(po.len:Int)
 ·simp only[J,decide_true,cond_true];have hx:=getElem?_eq_getElem (show j<pl.length by omega);refine SlN_ix kN (by omega) I (by omega) (by rw[toNat_natCast];exact hx) λa hc=> ?_;have c0:=hc 0 _ rfl;rw[show a.add 0=a from rfl] at c0;simp only[iy,iF,c0];by_cases he:pl[j]=x
  ·rw[show (pl[j]==x)=true by simpa using he,cond_true];exact⟨(decide_eq_true (by rw[<- he];exact getElem_mem _)).symm,f1⟩
  ·rw[show (pl[j]==x)=false by simpa using he,cond_false];rw[wrap_i64 (by omega) (by omega)];refine u _ _ ⟨j+1,by omega,by simp,rfl,?_⟩ (by simp only;omega);rw[Gp.Cfg.take_snoc hx,List.mem_append,List.mem_singleton];exact λh=>h.elim hm λe=>he e.symm
 ·simp only[J,decide_false,cond_false];rw[take_of_length_le (by omega)] at hm;exact⟨(decide_eq_false hm).symm,f1⟩
theorem aec {w:World} {p0 p1 p2 p3 p4 p5 p6 p7 p8 p9 R U Y aa ab ac:Int} {sw po:iq} {n18 n19 n20 n21 n22 n23 n24 n25 n26 n27 n28 n29 n30 n31 n32 n33 n34:Int} {st:iq} {q0 q1 q2 q3 q4 q5 q6:Int} {pl:List Int} (hsl:sw.len<=2^62) (ae:mY 1 eI w po pl) (af:po.len<=2^62):
  vP p0 p1 p2 p3 p4 p5 p6 p7 p8 p9 R U Y aa ab ac sw po n18 n19 n20 n21 n22 n23 n24 n25 n26 n27 n28 n29 n30 n31 n32 n33 n34 st q0 q1 q2 q3 q4 q5 q6 w λr w'=>(r=true↔GZ sw.len pl (q0,q1,q2,q3,q4,q5,q6,()))/\Ext w w':=by
 apply TJ;refine iI λa w1 ra ea z1 f1=>iI λb w2 rb eb z2 f2=> ?_;have ra:=ra.ext f2;have x2:=f1.trans f2;clear f1 f2;simp -zeta only[sx,rb.cell];intro J7;have hJ7:∀j8,(j8=true↔(q1=1\/q1=6\/q1=17))->J7 j8:=by
  intro j8 h8;simp -zeta only[J7]
  try simp -zeta only[sx,rb.cell]
  intro J9;have hJ9:∀u,(u=true↔((0<=q3/\q3<=65535)/\(0<=q6/\q6<=65535)))->J9 u w2:=by
   intro u ag;simp -zeta only[J9];intro J;have hJ12:∀N W,Ext w2 W->(N=true↔(j8=true/\u=true/\q4=q1/\(0<=q0/\q0<=(sw.len:Int) - 1)/\nY q2/\q5∈pl))->J N W:=by
    intro N W hx ah;simp -zeta only[J];refine⟨ah.trans ?_,x2.trans hx⟩;rw[h8,ag];exact⟨λ⟨h1,h2,h3,h4,h5,h6⟩=>⟨h2,⟨h5,h6⟩,⟨h1,h3.symm⟩,h4⟩,λ⟨h2,O,I,h4⟩=>⟨I.1,h2,I.2.symm,h4,O.1,O.2⟩⟩
   clear_value J
   cases j8
   ·rw[cond_false];exact hJ12 _ _ (Ext.refl _) ⟨λh=>(by cases h),λh=>(by cases h.1)⟩
   cases u
   ·rw[cond_true,cond_false];exact hJ12 _ _ (Ext.refl _) ⟨λh=>(by cases h),λh=>(by cases h.2.1)⟩
   rw[cond_true,cond_true]
   try simp -zeta only[d_,iy,iF,rb.cell]
   by_cases he:q4=q1;rotate_left
   ·rw[show (q4==q1)=false by simpa using he,cond_false];exact hJ12 _ _ (Ext.refl _) ⟨λh=>(by cases h),λh=>absurd h.2.2.1 he⟩
   rw[show (q4==q1)=true by simpa using he,cond_true];have rb0:w2.cell? ⟨b,0,none⟩=some (.int .i64 q0):=rb.cell 0;simp -zeta only[d_,iy,iL,ra.cell];rw[wrap_i64 (by omega) (by omega)];refine mQ (λh4=> ?_) (λhn=> ?_);rotate_left
   ·rw[cond_false];exact hJ12 _ _ (Ext.refl _) ⟨λh=>(by cases h),λh=>absurd h.2.2.2.1 hn⟩
   rw[cond_true]
   try simp -zeta only[d_,iy,iF,rb.cell]
   refine Bo (Fh _ _) ?_;rintro _ w' ⟨rfl,hw⟩;subst hw;by_cases h5:nY q2;rotate_left
   ·rw[decide_eq_false h5,cond_false];exact hJ12 _ _ (Ext.refl _) ⟨λh=>(by cases h),λh=>absurd h.2.2.2.2.1 h5⟩
   rw[decide_eq_true h5,cond_true];simp -zeta only[d_,iy,iL,iF,ra.cell,rb.cell];refine Wp (ab1 _ (ae.ext x2) af) ?_;rintro _ w' ⟨rfl,hf⟩;exact hJ12 _ _ hf ⟨λh=>⟨rfl,rfl,he,h4,h5,of_decide_eq_true h⟩,λh=>decide_eq_true h.2.2.2.2.2⟩
  clear_value J9;refine mQ (λh1=> ?_) (λhn=> ?_);rotate_left
  ·rw[cond_false];exact hJ9 _ ⟨λh=>(by cases h),λh=>absurd h.1 hn⟩
  rw[cond_true]
  try simp -zeta only[d_,iy,iF,rb.cell]
  refine mQ (λh2=> ?_) (λhn=> ?_)
  ·exact hJ9 _ ⟨λ_=>⟨h1,h2⟩,λ_=>rfl⟩
  ·exact hJ9 _ ⟨λh=>(by cases h),λh=>absurd h.2 hn⟩
 clear_value J7;by_cases h1:q1=1
 ·rw[show (q1==1)=true by simpa using h1,cond_true];exact hJ7 _ ⟨λ_=> .inl h1,λ_=>rfl⟩
 rw[show (q1==1)=false by simpa using h1,cond_false]
 try simp -zeta only[sx,rb.cell]
 by_cases h6:q1=6
 ·rw[show (q1==6)=true by simpa using h6,cond_true];exact hJ7 _ ⟨λ_=> .inr (.inl h6),λ_=>rfl⟩
 rw[show (q1==6)=false by simpa using h6,cond_false]
 try simp -zeta only[sx,rb.cell]
 exact hJ7 _ ⟨λh=> .inr (.inr (by simpa using h)),λh=>by rcases h with h|h|h;exact absurd h h1;exact absurd h h6;simpa using h⟩
end Go.Proofs.CN
namespace Go.Proofs.CN
open Gp
structure afD (p:sV) (ls lp lt n21:Int) (n:Nat) (sl:List sV) (pl:List Int) (tl:List T7):Prop where
 own:rD p=true
 nsw:1<=ls/\ls<=64
 npo:1<=lp/\lp<=16
 nst:lt<=64
 nbi:lt<=n21
 sws:∀x∈sl,rD x=true
 pos:∀x∈pl,nY x
 sts:∀x∈tl,GZ n pl x
theorem O6 {α:Type} {P:α->Prop} {l:List α} {j:Nat} {x:α} (hx:l[j]? =some x) (h:∀y∈l.take j,P y) (hp:P x):∀y∈l.take (j+1),P y:=by
 rw[Gp.Cfg.take_snoc hx];intro y hy;rcases List.mem_append.1 hy with hy|hy
 ·exact h y hy
 ·rw[List.mem_singleton.1 hy];exact hp
theorem afE {w:World} {p0 p1 p2 p3 p4 p5 p6 p7 p8 p9 ac ae af ag ah ai:Int} {sw po:iq} {n18 n19 n20 n21 n22 n23 n24 n25 n26 n27 n28 n29 n30 n31 n32 n33 n34:Int} {st:iq} {sl:List sV} {pl:List Int} {tl:List T7} (ak:mY 16 e16 w sw sl) (aj:mY 1 eI w po pl) (al:mY 7 e7 w st tl) (lsw:sw.len<=2^40) (lpo:po.len<=2^40) (lst:st.len<=2^40):
  xX p0 p1 p2 p3 p4 p5 p6 p7 p8 p9 ac ae af ag ah ai sw po n18 n19 n20 n21 n22 n23 n24 n25 n26 n27 n28 n29 n30 n31 n32 n33 n34 st w λr w'=>(r=true↔afD (p0,p1,p2,p3,p4,p5,p6,p7,p8,p9,ac,ae,af,ag,ah,ai,()) sw.len po.len st.len n21 sw.len sl pl tl)/\Ext w w':=by
 apply Vt;refine iI λa w1 ra ea z1 f1=> ?_;simp -zeta only[sx,ra.cell];have hlsw:=ak.len;have hlpo:=aj.len;have hlst:=al.len;intro J4;have hJ4:∀j5 W0,Ext w1 W0->(j5=false↔rD (p0,p1,p2,p3,p4,p5,p6,p7,p8,p9,ac,ae,af,ag,ah,ai,())=true/\(1<=(sw.len:Int)/\(sw.len:Int)<=64)/\(1<=(po.len:Int)/\(po.len:Int)<=16)/\(st.len:Int)<=64/\(st.len:Int)<=n21)->J4 j5 W0:=by
  intro j5 W0 x0 h5;simp -zeta only[J4];have x0:=f1.trans x0
  cases j5
  rotate_left
  ·rw[cond_true];exact⟨⟨λh=>(by cases h),λh=>(by cases h5.2 ⟨h.own,h.nsw,h.npo,h.nst,h.nbi⟩)⟩,x0⟩
  rw[cond_false];obtain⟨g1,g2,g3,g4,g5⟩:=h5.1 rfl;clear h5;refine iE (λst' W=>∃j:Nat,j<=sl.length/\st'.1=(j:Int)/\Ext W0 W/\∀x∈sl.take j,rD x=true) (λst' _=>(sl.length - st'.1).toNat) ⟨0,by omega,rfl,Ext.refl _,by simp⟩ ?_;rintro⟨i,⟨⟩⟩ W ⟨j,hj,hi,hx,R⟩ next u
  simp only at hi;subst hi;have xW:=x0.trans hx;have raW:=(ra.ext (by assumption)).ext hx;simp -zeta only[d_,iy,iL,raW.cell];by_cases am:(j:Int)<(sw.len:Int)
  ·rw[decide_eq_true am,cond_true];have J:=getElem?_eq_getElem (show j<sl.length by omega);have I:=getElem_mem (show j<sl.length by omega);generalize sl[j]=x at J I;have Y:=O6 J R;refine SlN_ix tY (by omega) (ak.ext xW) (by omega) (by rw[toNat_natCast];exact J) λa' hc=> ?_;obtain⟨x0,x1,x2,x3,x4,x5,x6,x7,x8,x9,an,ao,aq,ar,au,av,⟨⟩⟩:=x;have c0:W.cell? (a'.add 0)=some (.int .u8 x0):=hc 0 _ rfl;have c1:W.cell? (a'.add 1)=some (.int .u8 x1):=hc 1 _ rfl;have c2:W.cell? (a'.add 2)=some (.int .u8 x2):=hc 2 _ rfl;have c3:W.cell? (a'.add 3)=some (.int .u8 x3):=hc 3 _ rfl;have c4:W.cell? (a'.add 4)=some (.int .u8 x4):=hc 4 _ rfl;have c5:W.cell? (a'.add 5)=some (.int .u8 x5):=hc 5 _ rfl;have c6:W.cell? (a'.add 6)=some (.int .u8 x6):=hc 6 _ rfl;have c7:W.cell? (a'.add 7)=some (.int .u8 x7):=hc 7 _ rfl;have c8:W.cell? (a'.add 8)=some (.int .u8 x8):=hc 8 _ rfl;have c9:W.cell? (a'.add 9)=some (.int .u8 x9):=hc 9 _ rfl;have aw:W.cell? (a'.add 10)=some (.int .u8 an):=hc 10 _ rfl;have ax:W.cell? (a'.add 11)=some (.int .u8 ao):=hc 11 _ rfl;have ay:W.cell? (a'.add 12)=some (.int .u8 aq):=hc 12 _ rfl;have az:W.cell? (a'.add 13)=some (.int .u8 ar):=hc 13 _ rfl;have aA:W.cell? (a'.add 14)=some (.int .u8 au):=hc 14 _ rfl;have aB:W.cell? (a'.add 15)=some (.int .u8 av):=hc 15 _ rfl;simp -zeta only[iy,iF,c0,c1,c2,c3,c4,c5,c6,c7,c8,c9,aw,ax,ay,az,aA,aB];refine Nh (VI _) ?_;rintro r w3 ⟨hr,f3⟩
   cases hh:rD (x0,x1,x2,x3,x4,x5,x6,x7,x8,x9,an,ao,aq,ar,au,av,())
   ·rw[hh] at hr;subst hr;rw[Bool.not_false,cond_true];exact⟨⟨λh=>(by cases h),λh=>(by have:=h.sws _ I;rw[hh] at this;cases this)⟩,xW.trans f3⟩
   ·rw[hh] at hr;subst hr;rw[Bool.not_true,cond_false,wrap_i64 (by omega) (by omega)];exact u _ _ ⟨j+1,by omega,by simp,hx.trans f3,Y hh⟩ (by simp only;omega)
  rw[decide_eq_false am,cond_false];rw[take_of_length_le (by omega)] at R;clear u;refine iE (λst' V=>∃j:Nat,j<=pl.length/\st'.1=(j:Int)/\Ext W V/\∀x∈pl.take j,nY x) (λst' _=>(pl.length - st'.1).toNat) ⟨0,by omega,rfl,Ext.refl _,by simp⟩ ?_;rintro⟨i,⟨⟩⟩ V ⟨k,hk,hi,hv,N⟩ next u
  simp only at hi;subst hi;have xV:=xW.trans hv;have raV:=raW.ext hv;simp -zeta only[d_,iy,iL,raV.cell];by_cases aa:(k:Int)<(po.len:Int)
  ·rw[decide_eq_true aa,cond_true];have J:=getElem?_eq_getElem (show k<pl.length by omega);have I:=getElem_mem (show k<pl.length by omega);generalize pl[k]=x at J I;have Y:=O6 J N;refine SlN_ix kN (by omega) (aj.ext xV) (by omega) (by rw[toNat_natCast];exact J) λa' hc=> ?_;have c0:=hc 0 _ rfl;rw[show a'.add 0=a' from rfl] at c0;simp -zeta only[iy,iF,c0];refine Bo (Fh _ _) ?_;rintro r w3 ⟨hr,hw⟩;subst hw;by_cases hh:nY x
   ·rw[decide_eq_true hh] at hr;subst hr;rw[Bool.not_true,cond_false,wrap_i64 (by omega) (by omega)];exact u _ _ ⟨k+1,by omega,by simp,hv,Y hh⟩ (by simp only;omega)
   ·rw[decide_eq_false hh] at hr;subst hr;rw[Bool.not_false,cond_true];exact⟨⟨λh=>(by cases h),λh=>absurd (h.pos _ I) hh⟩,xV⟩
  rw[decide_eq_false aa,cond_false];rw[take_of_length_le (by omega)] at N;clear u;refine iE (λst' U=>∃j:Nat,j<=tl.length/\st'.1=(j:Int)/\Ext V U/\∀x∈tl.take j,GZ sw.len pl x) (λst' _=>(tl.length - st'.1).toNat) ⟨0,by omega,rfl,Ext.refl _,by simp⟩ ?_;rintro⟨i,⟨⟩⟩ U ⟨m,hm,hi,hu,O⟩ next u
  simp only at hi;subst hi;have xU:=xV.trans hu;have raU:=raV.ext hu;have rdU:=raU.drew;have dU:=xU.trans (Ext.drew U);simp -zeta only[d_,iy,iL,raU.cell];by_cases ab:(m:Int)<(st.len:Int)
  ·rw[decide_eq_true ab,cond_true];have J:=getElem?_eq_getElem (show m<tl.length by omega);have I:=getElem_mem (show m<tl.length by omega);generalize tl[m]=x at J I;have Y:=O6 J O;simp -zeta only[d_,iy,iL,iF,rdU.cell];refine SlN_ix yO (by omega) (al.ext dU) (by omega) (by rw[toNat_natCast];exact J) λa' hc=> ?_;obtain⟨x0,x1,x2,x3,x4,x5,x6,⟨⟩⟩:=x;have c0:U.drew.cell? (a'.add 0)=some (.int .i64 x0):=hc 0 _ rfl;have c1:U.drew.cell? (a'.add 1)=some (.int .i64 x1):=hc 1 _ rfl;have c2:U.drew.cell? (a'.add 2)=some (.int .i64 x2):=hc 2 _ rfl;have c3:U.drew.cell? (a'.add 3)=some (.int .i64 x3):=hc 3 _ rfl;have c4:U.drew.cell? (a'.add 4)=some (.int .i64 x4):=hc 4 _ rfl;have c5:U.drew.cell? (a'.add 5)=some (.int .i64 x5):=hc 5 _ rfl;have c6:U.drew.cell? (a'.add 6)=some (.int .i64 x6):=hc 6 _ rfl;simp -zeta only[iy,iF,c0,c1,c2,c3,c4,c5,c6];refine Tc (aec (Nat.le_trans lsw (by omega)) (aj.ext dU) (Nat.le_trans lpo (by omega))) ?_;rintro r w3 ⟨hr,f3⟩
   cases r
   ·rw[Bool.not_false,cond_true];exact⟨⟨λh=>(by cases h),λh=>(by cases hr.2 (h.sts _ I))⟩,dU.trans f3⟩
   ·rw[Bool.not_true,cond_false,wrap_i64 (by omega) (by omega)];exact u _ _ ⟨m+1,by omega,by simp,(hu.trans (Ext.drew U)).trans f3,Y (hr.1 rfl)⟩ (by simp only;omega)
  rw[decide_eq_false ab,cond_false];rw[take_of_length_le (by omega)] at O;exact⟨⟨λ_=>⟨g1,g2,g3,g4,g5,R,N,O⟩,λ_=>by trivial⟩,xU⟩
 clear_value J4;refine Nh (VI _) ?_;rintro r w3 ⟨hr,f3⟩
 cases hh:rD (p0,p1,p2,p3,p4,p5,p6,p7,p8,p9,ac,ae,af,ag,ah,ai,())
 ·rw[hh] at hr;subst hr;rw[Bool.not_false,cond_true];exact hJ4 _ _ f3 ⟨λh=>(by cases h),λh=>(by rw[hh] at h;cases h.1)⟩
 rw[hh] at hr;subst hr;rw[Bool.not_true,cond_false];have ra3:=ra.ext f3;simp -zeta only[d_,iy,iL,ra3.cell];refine mQ (λh2=> ?_) (λhn=> ?_);rotate_left
 ·rw[Bool.not_false,cond_true];exact hJ4 _ _ f3 ⟨λh=>(by cases h),λh=>absurd h.2.1 hn⟩
 rw[Bool.not_true,cond_false]
 try simp -zeta only[d_,iy,iL,ra3.cell]
 refine mQ (λh3=> ?_) (λhn=> ?_);rotate_left
 ·rw[Bool.not_false,cond_true];exact hJ4 _ _ f3 ⟨λh=>(by cases h),λh=>absurd h.2.2.1 hn⟩
 rw[Bool.not_true,cond_false]
 try simp -zeta only[d_,iy,iL,iF,ra3.cell]
 by_cases h4:(st.len:Int)>64
 ·rw[decide_eq_true h4,cond_true];exact hJ4 _ _ f3 ⟨λh=>(by cases h),λh=>by have:=h.2.2.2.1;omega⟩
 rw[decide_eq_false h4,cond_false]
 try simp -zeta only[sx,ra3.cell]
 by_cases h5:(st.len:Int)>n21
 ·rw[decide_eq_true h5];exact hJ4 _ _ f3 ⟨λh=>(by cases h),λh=>by have:=h.2.2.2.2;omega⟩
 ·rw[decide_eq_false h5];exact hJ4 _ _ f3 ⟨λ_=>⟨hh,h2,h3,by omega,by omega⟩,λ_=>by trivial⟩
end Go.Proofs.CN
namespace Go.Proofs.CN
open Gp
theorem ahX {a0 a1 a2 a3 a4 a5 a6 a7 a8 a9 h u a12 I J N:Int} {b0 b1 b2 b3 b4 b5 b6 b7 b8 b9 O R U Y aa ab:Int} (c:Bool) (hc:c=((a0==b0) && ((a1==b1) && ((a2==b2) && ((a3==b3) && ((a4==b4) && ((a5==b5) && ((a6==b6) && ((a7==b7) && ((a8==b8) && ((a9==b9) && ((h==O) && ((u==R) && ((a12==U) && ((I==Y) && ((J==aa) && ((N==ab) && true))))))))))))))))):c=decide (((a0,a1,a2,a3,a4,a5,a6,a7,a8,a9,h,u,a12,I,J,N,()):sV)=(b0,b1,b2,b3,b4,b5,b6,b7,b8,b9,O,R,U,Y,aa,ab,())):=by
 subst hc;simp[N8,decide_and]
theorem akf {a0 a1 a2 a3:Int} {b0 b1 b2 b3:Int} (c:Bool) (hc:c=((a0==b0) && ((a1==b1) && ((a2==b2) && ((a3==b3) && true))))):c=decide (((a0,a1,a2,a3,()):T4)=(b0,b1,b2,b3,())):=by
 subst hc;simp[N8,decide_and]
theorem ake {a0 a1 a2:Int} {b0 b1 b2:Int} (c:Bool) (hc:c=((a0==b0) && ((a1==b1) && ((a2==b2) && true)))):c=decide (((a0,a1,a2,()):T3)=(b0,b1,b2,())):=by
 subst hc;simp[N8,decide_and]
structure acD (p:sV) (sl:List sV) (pl:List Int) (tl:List T7) (q:Int):Prop where
 sws:∀(i:Nat) x,sl[i]? =some x->x∉sl.take i/\x≠p
 pos:∀(i:Nat) x,pl[i]? =some x->x∉pl.take i
 sts:∀(i:Nat) x,tl[i]? =some x->Gp.Cfg.Fine qE sS I5 q tl i x
theorem YJ {α:Type} {P:Nat->α->Prop} {l:List α} {j:Nat} {x:α} (hx:l[j]? =some x) (h:∀(i:Nat) y,i<j->l[i]? =some y->P i y) (hp:P j x):∀(i:Nat) y,i<j+1->l[i]? =some y->P i y:=by
 intro i y hi hy;by_cases he:i=j
 ·subst he;rw[hx] at hy
  cases hy
  exact hp
 ·exact h i y (by omega) hy
theorem abL {α:Type} {P:Nat->α->Prop} {l:List α} {j:Nat} (hj:l.length<=j) (h:∀(i:Nat) y,i<j->l[i]? =some y->P i y):∀(i:Nat) y,l[i]? =some y->P i y:=
 λi y hy=>h i y (by have:=(List.getElem?_eq_some_iff.1 hy).1;omega) hy
theorem JL {α:Type} {l:List α} {k j:Nat} {x:α} (hx:l[k]? =some x) (h:k<j):x∈l.take j:=by
 obtain⟨h1,rfl⟩:=List.getElem?_eq_some_iff.1 hx;exact List.mem_take_iff_getElem.2 ⟨k,by omega,rfl⟩
theorem aaA {w:World} {p0 p1 p2 p3 p4 p5 p6 p7 p8 p9 au av aw ax ay az:Int} {sw po:iq} {n18 n19 n20 n21 n22 n23 n24 n25 n26 n27 n28 n29 n30 n31 n32 n33 n34:Int} {st:iq} {sl:List sV} {pl:List Int} {tl:List T7} (aB:mY 16 e16 w sw sl) (aC:mY 1 eI w po pl) (aA:mY 7 e7 w st tl) (lsw:sw.len<=2^40) (lpo:po.len<=2^40) (lst:st.len<=2^40):
  xY p0 p1 p2 p3 p4 p5 p6 p7 p8 p9 au av aw ax ay az sw po n18 n19 n20 n21 n22 n23 n24 n25 n26 n27 n28 n29 n30 n31 n32 n33 n34 st w λr w'=>(r=true↔¬acD (p0,p1,p2,p3,p4,p5,p6,p7,p8,p9,au,av,aw,ax,ay,az,()) sl pl tl n20)/\Ext w w':=by
 apply Vu;refine iI λa w1 ra ea z1 f1=> ?_;have hlsw:=aB.len;have hlpo:=aC.len;have hlst:=aA.len;refine iE (λst' W=>∃j:Nat,j<=sl.length/\st'.1=(j:Int)/\Ext w1 W/\∀(i:Nat) x,i<j->sl[i]? =some x->x∉sl.take i/\x≠(p0,p1,p2,p3,p4,p5,p6,p7,p8,p9,au,av,aw,ax,ay,az,())) (λst' _=>(sl.length - st'.1).toNat) ⟨0,by omega,rfl,Ext.refl _,by omega⟩ ?_;rintro⟨i,⟨⟩⟩ W ⟨j,hj,hi,hx,ac⟩ next u
 simp only at hi;subst hi;have xW:=f1.trans hx;have raW:=ra.ext hx;simp -zeta only[sx,raW.cell];by_cases aD:(j:Int)<(sw.len:Int)
 ·rw[decide_eq_true aD,cond_true];have J:=getElem?_eq_getElem (show j<sl.length by omega);generalize sl[j]=x at J;refine iE (λst' V=>∃k:Nat,k<=j/\st'.1=(k:Int)/\Ext W V/\x∉sl.take k) (λst' _=>(j - st'.1).toNat) ⟨0,by omega,rfl,Ext.refl _,by simp⟩ ?_;rintro⟨i,⟨⟩⟩ V ⟨k,hk,hi,hv,ag⟩ next2 I;simp only at hi;subst hi;have dV:=hv.trans (Ext.drew V);have xV:=xW.trans dV;have raV:=raW.ext dV;have af:=aB.ext xV;by_cases aa:(k:Int)<(j:Int)
  ·rw[decide_eq_true aa,cond_true];simp -zeta only[d_,iy,iL,raV.cell];have N:=getElem?_eq_getElem (show k<sl.length by omega);generalize sl[k]=y at N;refine SlN_ix tY (by omega) af (by omega) (by rw[toNat_natCast];exact N) λa' hc=> ?_;obtain⟨y0,y1,y2,y3,y4,y5,y6,y7,y8,y9,aE,aF,aG,aH,aI,aJ,⟨⟩⟩:=y;have c0:V.drew.cell? (a'.add 0)=some (.int .u8 y0):=hc 0 _ rfl;have c1:V.drew.cell? (a'.add 1)=some (.int .u8 y1):=hc 1 _ rfl;have c2:V.drew.cell? (a'.add 2)=some (.int .u8 y2):=hc 2 _ rfl;have c3:V.drew.cell? (a'.add 3)=some (.int .u8 y3):=hc 3 _ rfl;have c4:V.drew.cell? (a'.add 4)=some (.int .u8 y4):=hc 4 _ rfl;have c5:V.drew.cell? (a'.add 5)=some (.int .u8 y5):=hc 5 _ rfl;have c6:V.drew.cell? (a'.add 6)=some (.int .u8 y6):=hc 6 _ rfl;have c7:V.drew.cell? (a'.add 7)=some (.int .u8 y7):=hc 7 _ rfl;have c8:V.drew.cell? (a'.add 8)=some (.int .u8 y8):=hc 8 _ rfl;have c9:V.drew.cell? (a'.add 9)=some (.int .u8 y9):=hc 9 _ rfl;have aK:V.drew.cell? (a'.add 10)=some (.int .u8 aE):=hc 10 _ rfl;have aL:V.drew.cell? (a'.add 11)=some (.int .u8 aF):=hc 11 _ rfl;have aM:V.drew.cell? (a'.add 12)=some (.int .u8 aG):=hc 12 _ rfl;have aN:V.drew.cell? (a'.add 13)=some (.int .u8 aH):=hc 13 _ rfl;have aO:V.drew.cell? (a'.add 14)=some (.int .u8 aI):=hc 14 _ rfl;have aP:V.drew.cell? (a'.add 15)=some (.int .u8 aJ):=hc 15 _ rfl;simp -zeta only[iy,iF,c0,c1,c2,c3,c4,c5,c6,c7,c8,c9,aK,aL,aM,aN,aO,aP];refine SlN_ix tY (by omega) af (by omega) (by rw[toNat_natCast];exact J) λa'' hd=> ?_;obtain⟨x0,x1,x2,x3,x4,x5,x6,x7,x8,x9,ah,ai,aj,ak,al,am,⟨⟩⟩:=x;have d0:V.drew.cell? (a''.add 0)=some (.int .u8 x0):=hd 0 _ rfl;have d1:V.drew.cell? (a''.add 1)=some (.int .u8 x1):=hd 1 _ rfl;have d2:V.drew.cell? (a''.add 2)=some (.int .u8 x2):=hd 2 _ rfl;have d3:V.drew.cell? (a''.add 3)=some (.int .u8 x3):=hd 3 _ rfl;have d4:V.drew.cell? (a''.add 4)=some (.int .u8 x4):=hd 4 _ rfl;have d5:V.drew.cell? (a''.add 5)=some (.int .u8 x5):=hd 5 _ rfl;have d6:V.drew.cell? (a''.add 6)=some (.int .u8 x6):=hd 6 _ rfl;have d7:V.drew.cell? (a''.add 7)=some (.int .u8 x7):=hd 7 _ rfl;have d8:V.drew.cell? (a''.add 8)=some (.int .u8 x8):=hd 8 _ rfl;have d9:V.drew.cell? (a''.add 9)=some (.int .u8 x9):=hd 9 _ rfl;have d10:V.drew.cell? (a''.add 10)=some (.int .u8 ah):=hd 10 _ rfl;have d11:V.drew.cell? (a''.add 11)=some (.int .u8 ai):=hd 11 _ rfl;have d12:V.drew.cell? (a''.add 12)=some (.int .u8 aj):=hd 12 _ rfl;have d13:V.drew.cell? (a''.add 13)=some (.int .u8 ak):=hd 13 _ rfl;have d14:V.drew.cell? (a''.add 14)=some (.int .u8 al):=hd 14 _ rfl;have d15:V.drew.cell? (a''.add 15)=some (.int .u8 am):=hd 15 _ rfl;simp -zeta only[iy,iF,d0,d1,d2,d3,d4,d5,d6,d7,d8,d9,d10,d11,d12,d13,d14,d15];rw[ahX _ rfl];by_cases he:((y0,y1,y2,y3,y4,y5,y6,y7,y8,y9,aE,aF,aG,aH,aI,aJ,()):sV)=(x0,x1,x2,x3,x4,x5,x6,x7,x8,x9,ah,ai,aj,ak,al,am,())
   ·rw[decide_eq_true he,cond_true];refine⟨⟨λ_ h=> ?_,λ_=>by trivial⟩,xV⟩;exact(h.sws j _ J).1 (he ▸ JL N (by omega))
   ·rw[decide_eq_false he,cond_false,wrap_i64 (by omega) (by omega)];refine I _ _ ⟨k+1,by omega,by simp,dV,?_⟩ (by simp only;omega);rw[Gp.Cfg.take_snoc N];intro hm;rcases List.mem_append.1 hm with hm|hm
    ·exact ag hm
    ·exact he (List.mem_singleton.1 hm).symm
  ·have an:k=j:=by omega
   subst an;rw[decide_eq_false aa,cond_false];simp -zeta only[d_,iy,iL,iF,raV.cell];refine SlN_ix tY (by omega) af (by omega) (by rw[toNat_natCast];exact J) λa'' hd=> ?_;obtain⟨x0,x1,x2,x3,x4,x5,x6,x7,x8,x9,ah,ai,aj,ak,al,am,⟨⟩⟩:=x;have d0:V.drew.cell? (a''.add 0)=some (.int .u8 x0):=hd 0 _ rfl;have d1:V.drew.cell? (a''.add 1)=some (.int .u8 x1):=hd 1 _ rfl;have d2:V.drew.cell? (a''.add 2)=some (.int .u8 x2):=hd 2 _ rfl;have d3:V.drew.cell? (a''.add 3)=some (.int .u8 x3):=hd 3 _ rfl;have d4:V.drew.cell? (a''.add 4)=some (.int .u8 x4):=hd 4 _ rfl;have d5:V.drew.cell? (a''.add 5)=some (.int .u8 x5):=hd 5 _ rfl;have d6:V.drew.cell? (a''.add 6)=some (.int .u8 x6):=hd 6 _ rfl;have d7:V.drew.cell? (a''.add 7)=some (.int .u8 x7):=hd 7 _ rfl;have d8:V.drew.cell? (a''.add 8)=some (.int .u8 x8):=hd 8 _ rfl;have d9:V.drew.cell? (a''.add 9)=some (.int .u8 x9):=hd 9 _ rfl;have d10:V.drew.cell? (a''.add 10)=some (.int .u8 ah):=hd 10 _ rfl;have d11:V.drew.cell? (a''.add 11)=some (.int .u8 ai):=hd 11 _ rfl;have d12:V.drew.cell? (a''.add 12)=some (.int .u8 aj):=hd 12 _ rfl;have d13:V.drew.cell? (a''.add 13)=some (.int .u8 ak):=hd 13 _ rfl;have d14:V.drew.cell? (a''.add 14)=some (.int .u8 al):=hd 14 _ rfl;have d15:V.drew.cell? (a''.add 15)=some (.int .u8 am):=hd 15 _ rfl;simp -zeta only[iy,iF,d0,d1,d2,d3,d4,d5,d6,d7,d8,d9,d10,d11,d12,d13,d14,d15];rw[ahX _ rfl];by_cases he:((x0,x1,x2,x3,x4,x5,x6,x7,x8,x9,ah,ai,aj,ak,al,am,()):sV)=(p0,p1,p2,p3,p4,p5,p6,p7,p8,p9,au,av,aw,ax,ay,az,())
   ·rw[decide_eq_true he,cond_true];exact⟨⟨λ_ h=>(h.sws _ _ J).2 he,λ_=>by trivial⟩,xV⟩
   ·rw[decide_eq_false he,cond_false,wrap_i64 (by omega) (by omega)];exact u _ _ ⟨k+1,by omega,by simp,hx.trans dV,YJ J ac ⟨ag,he⟩⟩ (by simp only;omega)
 rw[decide_eq_false aD,cond_false];have ac:=abL (by omega) ac;clear u;refine iE (λst' V=>∃j:Nat,j<=pl.length/\st'.1=(j:Int)/\Ext W V/\∀(i:Nat) x,i<j->pl[i]? =some x->x∉pl.take i) (λst' _=>(pl.length - st'.1).toNat) ⟨0,by omega,rfl,Ext.refl _,by omega⟩ ?_;rintro⟨i,⟨⟩⟩ V ⟨j2,hj2,hi,hv,R⟩ next u
 simp only at hi;subst hi;have xV:=xW.trans hv;have raV:=raW.ext hv;simp -zeta only[d_,iy,iL,raV.cell];by_cases aa:(j2:Int)<(po.len:Int)
 ·rw[decide_eq_true aa,cond_true];have J:=getElem?_eq_getElem (show j2<pl.length by omega);generalize pl[j2]=x at J;refine iE (λst' U=>∃k:Nat,k<=j2/\st'.1=(k:Int)/\Ext V U/\x∉pl.take k) (λst' _=>(j2 - st'.1).toNat) ⟨0,by omega,rfl,Ext.refl _,by simp⟩ ?_;rintro⟨i,⟨⟩⟩ U ⟨k,hk,hi,hu,ag⟩ next2 I;simp only at hi;subst hi;by_cases ab:(k:Int)<(j2:Int)
  ·have dU:=hu.trans (Ext.drew U);have xU:=xV.trans dU;have raU:=raV.ext dU;have ao:=aC.ext xU;rw[decide_eq_true ab,cond_true];simp -zeta only[d_,iy,iL,raU.cell];have N:=getElem?_eq_getElem (show k<pl.length by omega);generalize pl[k]=y at N;refine SlN_ix kN (by omega) ao (by omega) (by rw[toNat_natCast];exact N) λa' hc=> ?_;have c0:=hc 0 _ rfl;rw[show a'.add 0=a' from rfl] at c0;simp -zeta only[iy,iF,c0];refine SlN_ix kN (by omega) ao (by omega) (by rw[toNat_natCast];exact J) λa'' hd=> ?_;have d0:=hd 0 _ rfl;rw[show a''.add 0=a'' from rfl] at d0;simp -zeta only[iy,iF,d0];rw[N8];by_cases he:y=x
   ·rw[decide_eq_true he,cond_true];refine⟨⟨λ_ h=> ?_,λ_=>by trivial⟩,xU⟩;exact h.pos j2 _ J (he ▸ JL N (by omega))
   ·rw[decide_eq_false he,cond_false,wrap_i64 (by omega) (by omega)];refine I _ _ ⟨k+1,by omega,by simp,dU,?_⟩ (by simp only;omega);rw[Gp.Cfg.take_snoc N];intro hm;rcases List.mem_append.1 hm with hm|hm
    ·exact ag hm
    ·exact he (List.mem_singleton.1 hm).symm
  ·have an:k=j2:=by omega
   subst an;rw[decide_eq_false ab,cond_false,wrap_i64 (by omega) (by omega)];exact u _ _ ⟨k+1,by omega,by simp,hv.trans hu,YJ J R ag⟩ (by simp only;omega)
 rw[decide_eq_false aa,cond_false];have R:=abL (by omega) R;clear u;refine iE (λst' U=>∃j:Nat,j<=tl.length/\st'.1=(j:Int)/\Ext V U/\∀(i:Nat) x,i<j->tl[i]? =some x->Gp.Cfg.Fine qE sS I5 n20 tl i x) (λst' _=>(tl.length - st'.1).toNat) ⟨0,by omega,rfl,Ext.refl _,by omega⟩ ?_;rintro⟨i,⟨⟩⟩ U ⟨j3,hj3,hi,hu,Y⟩ next u
 simp only at hi;subst hi;have xU:=xV.trans hu;have raU:=raV.ext hu;simp -zeta only[d_,iy,iL,raU.cell];by_cases ab:(j3:Int)<(st.len:Int)
 ·rw[decide_eq_true ab,cond_true];have J:=getElem?_eq_getElem (show j3<tl.length by omega);generalize tl[j3]=x at J;refine iE (λst' T=>∃k:Nat,k<=j3/\st'.2.1=(k:Int)/\st'.1=1+(((tl.take k).countP λy=>I5 y==I5 x:Nat):Int)/\Ext U T/\∀y∈tl.take k,qE y≠qE x/\sS y≠sS x) (λst' _=>(j3 - st'.2.1).toNat) ⟨0,by omega,rfl,by simp,Ext.refl _,by simp⟩ ?_;rintro⟨n,i,⟨⟩⟩ T ⟨k,hk,hi,hn,ht,aq⟩ next2 I;simp only at hi hn;subst hi;by_cases ar:(k:Int)<(j3:Int)
  ·have dT:=ht.trans (Ext.drew T);have xT:=xU.trans dT;have raT:=raU.ext dT;rw[decide_eq_true ar,cond_true];have N:=getElem?_eq_getElem (show k<tl.length by omega);generalize tl[k]=y at N;have hcl:(tl.take k).countP (λy=>I5 y==I5 x)<=tl.length:=Nat.le_trans (List.countP_le_length) (by simp;omega);have ae:(tl.take (k+1)).countP (λz=>I5 z==I5 x)=(tl.take k).countP (λz=>I5 z==I5 x)+if I5 y=I5 x then 1 else 0:=by
    rw[Gp.Cfg.take_snoc N,List.countP_append,List.countP_singleton];congr 1;by_cases h:I5 y=I5 x<;>simp[h]
   have aQ:=O6 (P:=λy=>qE y≠qE x/\sS y≠sS x) N aq;intro J101;have hJ101:∀n' T',Ext T.drew T'->n'=1+(((tl.take (k+1)).countP λy=>I5 y==I5 x:Nat):Int)->(qE y≠qE x/\sS y≠sS x)->J101 n' T':=by
    intro n' T' hT hn' ho;simp -zeta only[J101];rw[wrap_i64 (by omega) (by omega)];exact I _ _ ⟨k+1,by omega,by simp,hn',dT.trans hT,aQ ho⟩ (by simp only;omega)
   clear_value J101;intro J104;have hJ104:∀b T',Ext T.drew T'->(b=true↔¬(qE y≠qE x/\sS y≠sS x))->J104 b T':=by
    intro b T' hT hb;simp -zeta only[J104];have xT':=xT.trans hT
    cases b
    ·have ho:qE y≠qE x/\sS y≠sS x:=by
      by_cases h:qE y≠qE x/\sS y≠sS x
      ·exact h
      ·exact absurd (hb.2 h) (by simp)
     rw[cond_false];have hT2:=hT.trans (Ext.drew T');have raT':=raT.ext hT2;have O:=aA.ext (xT.trans hT2);simp -zeta only[d_,iy,iL,raT'.cell];refine SlN_ix yO (by omega) O (by omega) (by rw[toNat_natCast];exact N) λa' hc=> ?_;have c0:T'.drew.cell? (a'.add 0)=some (.int .i64 (I5 y)):=by obtain⟨y0,y1,y2,y3,y4,y5,y6,⟨⟩⟩:=y;exact hc 0 _ rfl
     rw[show a'.add 0=a' from rfl] at c0;simp -zeta only[iy,iF,c0];refine SlN_ix yO (by omega) O (by omega) (by rw[toNat_natCast];exact J) λa'' hd=> ?_;have d0:T'.drew.cell? (a''.add 0)=some (.int .i64 (I5 x)):=by obtain⟨x0,x1,x2,x3,x4,x5,x6,⟨⟩⟩:=x;exact hd 0 _ rfl
     rw[show a''.add 0=a'' from rfl] at d0;simp -zeta only[iy,iF,d0];rw[N8];by_cases he:I5 y=I5 x
     ·rw[if_pos he] at ae;rw[decide_eq_true he,cond_true,wrap_i64 (by omega) (by omega)];exact hJ101 _ _ hT2 (by rw[ae,hn];omega) ho
     ·rw[if_neg he] at ae;rw[decide_eq_false he,cond_false];exact hJ101 _ _ hT2 (by rw[ae,hn];omega) ho
    ·rw[cond_true];exact⟨⟨λ_ h=>(hb.1 rfl) ((h.sts j3 _ J).one y (JL N (by omega))),λ_=>by trivial⟩,xT'⟩
   clear_value J104;have O:=aA.ext xT;simp -zeta only[d_,iy,iL,raT.cell];refine SlN_ix yO (by omega) O (by omega) (by rw[toNat_natCast];exact N) λa' hc=> ?_;obtain⟨y0,y1,y2,y3,y4,y5,y6,⟨⟩⟩:=y;have c0:T.drew.cell? (a'.add 0)=some (.int .i64 y0):=hc 0 _ rfl;have c1:T.drew.cell? (a'.add 1)=some (.int .i64 y1):=hc 1 _ rfl;have c2:T.drew.cell? (a'.add 2)=some (.int .i64 y2):=hc 2 _ rfl;have c3:T.drew.cell? (a'.add 3)=some (.int .i64 y3):=hc 3 _ rfl;have c4:T.drew.cell? (a'.add 4)=some (.int .i64 y4):=hc 4 _ rfl;have c5:T.drew.cell? (a'.add 5)=some (.int .i64 y5):=hc 5 _ rfl;have c6:T.drew.cell? (a'.add 6)=some (.int .i64 y6):=hc 6 _ rfl;simp -zeta only[iy,iF,c0,c1,c2,c3];refine SlN_ix yO (by omega) O (by omega) (by rw[toNat_natCast];exact J) λa'' hd=> ?_;obtain⟨x0,x1,x2,x3,x4,x5,x6,⟨⟩⟩:=x;have d0:T.drew.cell? (a''.add 0)=some (.int .i64 x0):=hd 0 _ rfl;have d1:T.drew.cell? (a''.add 1)=some (.int .i64 x1):=hd 1 _ rfl;have d2:T.drew.cell? (a''.add 2)=some (.int .i64 x2):=hd 2 _ rfl;have d3:T.drew.cell? (a''.add 3)=some (.int .i64 x3):=hd 3 _ rfl;have d4:T.drew.cell? (a''.add 4)=some (.int .i64 x4):=hd 4 _ rfl;have d5:T.drew.cell? (a''.add 5)=some (.int .i64 x5):=hd 5 _ rfl;have d6:T.drew.cell? (a''.add 6)=some (.int .i64 x6):=hd 6 _ rfl;simp -zeta only[iy,iF,d0,d1,d2,d3];rw[akf _ rfl];by_cases he:((y0,y1,y2,y3,()):T4)=(x0,x1,x2,x3,())
   ·rw[decide_eq_true he,cond_true];exact hJ104 _ _ (Ext.refl _) ⟨λ_ h=>h.1 he,λ_=>rfl⟩
   rw[decide_eq_false he,cond_false]
   try simp -zeta only[sx,raT.cell]
   refine SlN_ix yO (by omega) O (by omega) (by rw[toNat_natCast];exact N) λb' hc=> ?_;have c4:T.drew.cell? ((b'.add 4).add 0)=some (.int .i64 y4):=hc 4 _ rfl;have c5:T.drew.cell? ((b'.add 4).add 1)=some (.int .i64 y5):=hc 5 _ rfl;have c6:T.drew.cell? ((b'.add 4).add 2)=some (.int .i64 y6):=hc 6 _ rfl;simp -zeta only[iy,iF,c4,c5,c6];refine SlN_ix yO (by omega) O (by omega) (by rw[toNat_natCast];exact J) λb'' hd=> ?_;have d4:T.drew.cell? ((b''.add 4).add 0)=some (.int .i64 x4):=hd 4 _ rfl;have d5:T.drew.cell? ((b''.add 4).add 1)=some (.int .i64 x5):=hd 5 _ rfl;have d6:T.drew.cell? ((b''.add 4).add 2)=some (.int .i64 x6):=hd 6 _ rfl;simp -zeta only[iy,iF,d4,d5,d6];rw[ake _ rfl];refine hJ104 _ _ (Ext.refl _) ?_;by_cases ho:((y4,y5,y6,()):T3)=(x4,x5,x6,())
   ·rw[decide_eq_true ho];exact⟨λ_ h=>h.2 ho,λ_=>rfl⟩
   ·rw[decide_eq_false ho];exact⟨λh=>(by cases h),λh=>absurd ⟨he,ho⟩ h⟩
  ·have an:k=j3:=by omega
   subst an;have raT:=raU.ext ht;rw[decide_eq_false ar,cond_false];simp -zeta only[d_,iy,iF,raT.cell];by_cases hq:n>n20
   ·rw[decide_eq_true hq,cond_true];exact⟨⟨λ_ h=>by have:=(h.sts _ _ J).few;omega,λ_=>by trivial⟩,xU.trans ht⟩
   ·rw[decide_eq_false hq,cond_false,wrap_i64 (by omega) (by omega)];exact u _ _ ⟨k+1,by omega,by simp,hu.trans ht,YJ J Y ⟨aq,by omega⟩⟩ (by simp only;omega)
 rw[decide_eq_false ab,cond_false];have Y:=abL (by omega) Y;exact⟨⟨λh=>(by cases h),λh=>absurd ⟨ac,R,Y⟩ h⟩,xU⟩
end Go.Proofs.CN
namespace Go.Proofs.CN
open Gp
theorem aak {ls lp lt n18 n19 n20 n21 n22 n23 n24 n25 n26 n27 n28 n29 n30 n31 n32 n33 n34:Int} (h0:0<=lt):
  ((∀b∈abf ls lp lt n18 n19 n20 n21 n22 n23 n24 n25 n26 n27 n29 n30 n31 n32 n33 n34,okB b)/\aai n28)↔
   (afN n18 n19 n20 n21 n22 n23 n24 n25 n26 n27 n28 n29 n30 n31 n32 n33 n34/\(1<=ls/\ls<=64)/\(1<=lp/\lp<=16)/\lt<=64/\lt<=n21):=by
 unfold abf;simp only[List.forall_mem_cons,okB];constructor
 ·rintro⟨⟨a1,a2,a3,a4,a5,a6,a7,a8,a9,u,I,a12,J,N,O,R,a17,U,Y,_⟩,m⟩;refine⟨⟨⟨a6,a7,a8,a9,u⟩,⟨I,a12,J,m,N⟩,⟨O,R,a17,U,Y⟩,⟨a4,a5⟩⟩,a1,a2,?_⟩;have h3:=a3.2;by_cases h:n21<64
  ·rw[if_pos h] at h3;omega
  ·rw[if_neg h] at h3;omega
 ·rintro⟨⟨⟨a6,a7,a8,a9,u⟩,⟨I,a12,J,m,N⟩,⟨O,R,a17,U,Y⟩,⟨a4,a5⟩⟩,a1,a2,h1,h2⟩;refine⟨⟨a1,a2,⟨h0,?_⟩,a4,a5,a6,a7,a8,a9,u,I,a12,J,N,O,R,a17,U,Y,by simp⟩,m⟩;by_cases h:n21<64
  ·rw[if_pos h];omega
  ·rw[if_neg h];omega
theorem XF {p:sV} {n:Nat} {sl:List sV} {pl:List Int} {tl:List T7}:
  Bd p n sl pl tl=true↔(rD p=true/\(∀x∈sl,rD x=true)/\(∀x∈pl,nY x)/\(∀x∈tl,GZ n pl x)):=by
 unfold Bd;simp only[Bool.and_eq_true,Bool.not_eq_true',List.any_eq_false,Bool.not_eq_false,decide_eq_true_eq]
theorem YN {p:sV} {ls lp lt n18 n19 n20 n21 n22 n23 n24 n25 n26 n27 n28 n29 n30 n31 n32 n33 n34:Int} {n:Nat} {sl:List sV} {pl:List Int} {tl:List T7} (h0:0<=lt):
  OkP p ls lp lt n18 n19 n20 n21 n22 n23 n24 n25 n26 n27 n28 n29 n30 n31 n32 n33 n34 n sl pl tl↔
   (afN n18 n19 n20 n21 n22 n23 n24 n25 n26 n27 n28 n29 n30 n31 n32 n33 n34/\afD p ls lp lt n21 n sl pl tl):=by
 constructor
 ·rintro⟨h1,h2,h3⟩;obtain⟨h4,h5,h6,h7,h8⟩:=(aak h0).1 ⟨h1,h2⟩;obtain⟨g1,g2,g3,g4⟩:=XF.1 h3;exact⟨h4,g1,h5,h6,h7,h8,g2,g3,g4⟩
 ·rintro⟨h4,g1,h5,h6,h7,h8,g2,g3,g4⟩;obtain⟨h1,h2⟩:=(aak h0).2 ⟨h4,h5,h6,h7,h8⟩;exact⟨h1,h2,XF.2 ⟨g1,g2,g3,g4⟩⟩
theorem ZM {p:sV} {sl:List sV} {pl:List Int} {tl:List T7} {n:Nat} {q:Int} (hq:1<=q) (hr:∀x∈tl,0<=I5 x/\I5 x<(n:Int)):
  acD p sl pl tl q↔Gu p sl pl tl n q:=by
 unfold Gu;rw[Gp.Cfg.Es];constructor
 ·rintro⟨h1,h2,h3⟩;obtain⟨g1,g2,g3⟩:=(Gp.Cfg.ZU (fi:=qE) (fo:=sS) I5 hq hr).1 h3;refine⟨⟨Gp.Cfg.rF.2 λi x hx=>(h1 i x hx).1,λhm=> ?_⟩,Gp.Cfg.rF.2 h2,g1,g2,g3⟩;obtain⟨i,hi,he⟩:=List.mem_iff_getElem.1 hm;exact(h1 i p (by rw[getElem?_eq_getElem hi,he])).2 rfl
 ·rintro⟨⟨h1,h1'⟩,h2,g1,g2,g3⟩;refine⟨λi x hx=>⟨Gp.Cfg.rF.1 h1 i x hx,λe=>h1' (e ▸ List.mem_of_getElem? hx)⟩,Gp.Cfg.rF.1 h2,(Gp.Cfg.ZU I5 hq hr).2 ⟨g1,g2,g3⟩⟩
def chk (p:sV) (ls lp lt n18 n19 n20 n21 n22 n23 n24 n25 n26 n27 n28 n29 n30 n31 n32 n33 n34:Int) (n:Nat) (sl:List sV) (pl:List Int) (tl:List T7) (r:Int):Prop:=
 (¬OkP p ls lp lt n18 n19 n20 n21 n22 n23 n24 n25 n26 n27 n28 n29 n30 n31 n32 n33 n34 n sl pl tl/\r=1)\/
   (OkP p ls lp lt n18 n19 n20 n21 n22 n23 n24 n25 n26 n27 n28 n29 n30 n31 n32 n33 n34 n sl pl tl/\((¬Gu p sl pl tl n n20/\r=9)\/(Gu p sl pl tl n n20/\r=0)))
theorem Yb {p:sV} {ls lp lt n18 n19 n20 n21 n22 n23 n24 n25 n26 n27 n28 n29 n30 n31 n32 n33 n34:Int} {n:Nat} {sl:List sV} {pl:List Int} {tl:List T7} {r r':Int}
  (h:chk p ls lp lt n18 n19 n20 n21 n22 n23 n24 n25 n26 n27 n28 n29 n30 n31 n32 n33 n34 n sl pl tl r) (h':chk p ls lp lt n18 n19 n20 n21 n22 n23 n24 n25 n26 n27 n28 n29 n30 n31 n32 n33 n34 n sl pl tl r'):r=r':=by
 rcases h with ⟨h1,rfl⟩|⟨h1,⟨h2,rfl⟩|⟨h2,rfl⟩⟩<;>rcases h' with ⟨g1,rfl⟩|⟨g1,⟨g2,rfl⟩|⟨g2,rfl⟩⟩<;>first|rfl|exact absurd g1 h1|exact absurd h1 g1|exact absurd h2 g2|exact absurd g2 h2
theorem Sz {w:World} {p0 p1 p2 p3 p4 p5 p6 p7 p8 p9 u I J N O R:Int} {sw po:iq} {n18 n19 n20 n21 n22 n23 n24 n25 n26 n27 n28 n29 n30 n31 n32 n33 n34:Int} {st:iq} {sl:List sV} {pl:List Int} {tl:List T7} (Y:mY 16 e16 w sw sl) (aa:mY 1 eI w po pl) (ab:mY 7 e7 w st tl) (lsw:sw.len<=2^40) (lpo:po.len<=2^40) (lst:st.len<=2^40):
  uN p0 p1 p2 p3 p4 p5 p6 p7 p8 p9 u I J N O R sw po n18 n19 n20 n21 n22 n23 n24 n25 n26 n27 n28 n29 n30 n31 n32 n33 n34 st w λr w'=>chk (p0,p1,p2,p3,p4,p5,p6,p7,p8,p9,u,I,J,N,O,R,()) sw.len po.len st.len n18 n19 n20 n21 n22 n23 n24 n25 n26 n27 n28 n29 n30 n31 n32 n33 n34 sw.len sl pl tl r/\Ext w w':=by
 apply Vs;refine iI λa w1 ra ea z1 f1=> ?_;simp -zeta only[sx,ra.cell];intro J4;have hJ4:∀j5 W,Ext w1 W->(j5=false↔OkP (p0,p1,p2,p3,p4,p5,p6,p7,p8,p9,u,I,J,N,O,R,()) sw.len po.len st.len n18 n19 n20 n21 n22 n23 n24 n25 n26 n27 n28 n29 n30 n31 n32 n33 n34 sw.len sl pl tl)->J4 j5 W:=by
  intro j5 W hx h5;simp -zeta only[J4];have xW:=f1.trans hx
  cases j5
  ·rw[cond_false];have U:=h5.1 rfl;have hl:=(YN (by omega)).1 U;have hf:=ZM (p:=(p0,p1,p2,p3,p4,p5,p6,p7,p8,p9,u,I,J,N,O,R,())) (sl:=sl) (pl:=pl) (q:=n20) hl.1.rooms.1.1 λx hx=>ac2 (hl.2.sts x hx);have raW:=ra.ext hx;simp -zeta only[d_,iy,iL,iF,raW.cell];refine UD (aaA (Y.ext xW) (aa.ext xW) (ab.ext xW) lsw lpo lst) ?_;rintro r w' ⟨hr,hf'⟩;rw[hf] at hr
   cases r
   ·rw[cond_false];refine⟨.inr ⟨U,.inr ⟨?_,rfl⟩⟩,xW.trans hf'⟩;by_cases h:Gu (p0,p1,p2,p3,p4,p5,p6,p7,p8,p9,u,I,J,N,O,R,()) sl pl tl sw.len n20
    ·exact h
    ·exact absurd (hr.2 h) (by simp)
   ·rw[cond_true];exact⟨.inr ⟨U,.inl ⟨hr.1 rfl,rfl⟩⟩,xW.trans hf'⟩
  ·rw[cond_true];exact⟨.inl ⟨λh=>(by cases h5.2 h),rfl⟩,xW⟩
 clear_value J4;refine QH (abS _) ?_;rintro r w2 ⟨hr,f2⟩
 cases r
 ·rw[Bool.not_false,cond_true];exact hJ4 _ _ f2 ⟨λh=>(by cases h),λh=>(by cases hr.2 ((YN (by omega)).1 h).1)⟩
 rw[Bool.not_true,cond_false];have ra2:=ra.ext f2;have x2:=f1.trans f2;simp -zeta only[d_,iy,iL,iF,ra2.cell];refine UC (afE (Y.ext x2) (aa.ext x2) (ab.ext x2) lsw lpo lst) ?_;rintro r w3 ⟨hr3,f3⟩;refine hJ4 _ _ (f2.trans f3) ?_;rw[YN (by omega),<- hr,<- hr3]
 cases r<;>simp
end Go.Proofs.CN
end
section
namespace Gp.V4
theorem aiB (l:List UInt8):∀n:Nat,l.foldl (λn b=>n * 256+b.toNat) n=n * 256^l.length+vY l:=by
 induction l with
 |nil=>intro n;simp[vY]
 |cons b l ih=>
  intro n;simp only[List.foldl_cons,vY,length_cons];rw[ih,ih (0 * 256+b.toNat)];rw[Nat.pow_succ,Nat.add_mul,Nat.add_mul,<- Nat.mul_assoc,Nat.mul_right_comm];omega
theorem U_ (b:UInt8) (l:List UInt8):vY (b::l)=b.toNat * 256^l.length+vY l:=by
 show (b::l).foldl _ 0=_;rw[List.foldl_cons,aiB];simp
theorem afM (l:List UInt8):vY l<256^l.length:=by
 induction l with
 |nil=>simp[vY]
 |cons b l ih=>
  rw[U_,length_cons,Nat.pow_succ];have:=b.toNat_lt;have h2:b.toNat * 256^l.length<=255 * 256^l.length:=Nat.mul_le_mul_right _ (by omega);omega
theorem Q8 (k n:Nat):vY (beN k n)=n % 256^k:=by
 induction k with
 |zero=>simp[beN,vY,Nat.mod_one]
 |succ k ih=>
  rw[beN,U_,lZ,ih];have e:(UInt8.ofNat (n / 256^k)).toNat=n / 256^k % 256:=by simp
  rw[e,Nat.pow_succ,Nat.mod_mul,Nat.mul_comm (256^k),Nat.add_comm]
end Gp.V4
namespace Go.Proofs
open Gp Gp.V4
theorem aee {w:World} {s:iq} {l:List UInt8} (h:qy w s l) (hl:l.length<=2^62) (at_ k:Int):BJ s at_ k w λr e w'=>w'=w/\
  if ¬sizeOk k\/at_<0 then e=1/\r=⟨none,0,0⟩ else if (l.length:Int)<at_+k then e=3/\r=⟨none,0,0⟩ else e=0/\qy w r ((l.drop at_.toNat).take k.toNat)/\∀a,s.a=some a->r.a=some (a.add at_.toNat):=by
 apply YP;have hlen:=h.1;refine RN (CP k w) ?_;rintro r w1 ⟨rfl,rfl⟩;by_cases hk:sizeOk k
 ·have hk1:=hk.1;have hk2:=hk.2;by_cases ha:at_<0
  ·simp only[hk,ha,decide_true,Bool.not_true,cond_true,cond_false];exact⟨by trivial,by simp⟩
  ·have hno:¬(¬sizeOk k\/at_<0):=by rintro(h|h)<;>contradiction
   simp only[hk,ha,decide_true,decide_false,Bool.not_true,cond_false,not_true_eq_false,or_self,if_false];by_cases h1:((s.len:Int)<k)
   ·simp only[h1,decide_true,cond_true];exact⟨by trivial,by rw[if_pos (by omega)];exact⟨by trivial,by trivial⟩⟩
   ·simp only[h1,decide_false,cond_false];rw[wrap_i64 (n:=(s.len:Int) - k) (by omega) (by omega)];by_cases h2:at_>(s.len:Int) - k
    ·simp only[h2,decide_true,cond_true];exact⟨by trivial,by rw[if_pos (by omega)];exact⟨by trivial,by trivial⟩⟩
    ·simp only[h2,decide_false,cond_false];rw[wrap_i64 (n:=at_+k) (by omega) (by omega)];have hcap:=h.2.2;refine⟨by omega,by omega,by omega,by omega,by trivial,?_⟩;rw[if_neg (by omega)];have hc:=h.cut (lo:=at_.toNat) (hi:=(at_+k).toNat) (by omega) (by omega) (at_+k).toNat (Nat.le_refl _) (at_+k).toNat (λe=>by omega);rw[List.drop_take,show (at_+k).toNat - at_.toNat=k.toNat by omega] at hc;refine⟨by trivial,?_,λa u=> ?_⟩
     ·rw[show (at_+k).toNat - at_.toNat=k.toNat by omega];exact hc
     ·have I:¬((at_+k).toNat=at_.toNat):=by omega
      simp only[Io,I,if_false,u,map_some,Nat.mul_one]
 ·simp only[hk,decide_false,Bool.not_false,cond_true];exact⟨by trivial,by simp⟩
theorem afQ {n x:Nat} (hn:n<2^40) (hx:x<256):orI .i64 (ab7 .i64 (n:Int) 8) (x:Int)=((n * 256+x:Nat):Int):=by
 have e0:ab7 .i64 (n:Int) 8=((n * 256:Nat):Int):=by
  unfold ab7;have:(2:Int)^(min (8:Int).toNat (IntKind.bits .i64))=256:=by decide
  rw[this,wrap_i64 (by omega) (by omega)];omega
 rw[e0];unfold orI;have eb:IntKind.bits .i64=64:=rfl;have h1:(BitVec.ofInt (IntKind.bits .i64) ((n * 256:Nat):Int)).toNat=n * 256:=by
  rw[eb,BitVec.toNat_ofInt];omega
 have h2:(BitVec.ofInt (IntKind.bits .i64) (x:Int)).toNat=x:=by
  rw[eb,BitVec.toNat_ofInt];omega
 rw[BitVec.toNat_or,h1,h2];have h3:n * 256|||x=n * 256+x:=by
  have:=Nat.two_pow_add_eq_or_of_lt (i:=8) (b:=x) (by omega) n;rw[show (2:Nat)^8=256 by decide] at this;rw[Nat.mul_comm n 256,this]
 rw[h3,wrap_i64 (by omega) (by omega)]
theorem Oh {l:List UInt8} (h:l.length<=4):vY l<2^32:=by
 have h1:=afM l;have:(256:Nat)^l.length<=256^4:=Nat.pow_le_pow_right (by omega) h;have e:(256:Nat)^4=4294967296:=by decide
 omega
theorem Va (l:List UInt8) {i:Nat} (h:i<l.length):vY (l.take (i+1))=vY (l.take i) * 256+l[i].toNat:=by
 unfold vY;rw[List.take_succ_eq_append_getElem h,List.foldl_append];rfl
def Tj (l:List UInt8) (at_ k:Int) (n e:Int):Prop:=
 if ¬sizeOk k\/at_<0 then e=1/\n=0 else if (l.length:Int)<at_+k then e=3/\n=0 else e=0/\n=(num l at_.toNat k.toNat:Int)
theorem abx {w:World} {s:iq} {l:List UInt8} (h:qy w s l) (hl:l.length<=2^62) (at_ k:Int):D5 s at_ k w λn e w'=>w'=w/\Tj l at_ k n e:=by
 apply adW;refine Ye (aee h hl at_ k) ?_;rintro r e w1 ⟨rfl,hr⟩;have main:∀(m:List UInt8),qy w1 r m->m.length<=4->∀(K:Int->Prop),K (vY m:Int)->iT (S:=Int×Int×Unit) (λs7 w8 next9=>
   (bif (decide (s7.2.1<(r.len:Int))) then
    iO r 1 s7.2.1 λN=>Ld (.int .u8) w8 N λO=>0<=(8:Int)/\next9 ((orI .i64 (ab7 .i64 s7.1 8) (IntKind.i64.wrap O)),(IntKind.i64.wrap (s7.2.1+1)),()) w8
   else (w8=w1/\K s7.1))) (0,0,()) w1:=by
  intro m hm hm4 K hK;have hml:=hm.1;refine iE (λst W=>W=w1/\∃i:Nat,i<=m.length/\st.2.1=i/\st.1=(vY (m.take i):Int)) (λst _=>m.length - st.2.1.toNat) ⟨rfl,0,by omega,rfl,rfl⟩ ?_;rintro⟨n,j,⟨⟩⟩ W ⟨rfl,i,hi,rfl,rfl⟩ next I
  by_cases J:i<m.length
  ·have u:((i:Int)<(r.len:Int)):=by omega
   simp only[u,decide_true,cond_true];obtain⟨a,ha,hc⟩:=hm.at_ (getElem?_eq_getElem J);refine⟨a,ha,by omega,by omega,?_⟩;simp only[sx,toNat_natCast,Nat.mul_one,hc];refine⟨by omega,?_⟩;have hb:=m[i].toNat_lt;have hn2:vY (m.take i)<2^32:=Oh (by simp;omega);rw[wrap_i64 (n:=((m[i].toNat:Nat):Int)) (by omega) (by omega),afQ (by omega) (by omega),wrap_i64 (by omega) (by omega)];refine I _ _ ⟨rfl,i+1,by omega,by simp,?_⟩ (by simp only;omega);simp only[Va _ J]
  ·have u:¬((i:Int)<(r.len:Int)):=by omega
   simp only[u,decide_false,cond_false];have:i=m.length:=by omega
   subst this;rw[List.take_length];exact⟨trivial,hK⟩
 by_cases c1:¬sizeOk k\/at_<0
 ·rw[if_pos c1] at hr;obtain⟨rfl,rfl⟩:=hr;exact main [] qy.nil (by simp) (λn=>Tj l at_ k n 1) (by unfold Tj;rw[if_pos c1];exact⟨rfl,rfl⟩)
 ·rw[if_neg c1] at hr;by_cases c2:(l.length:Int)<at_+k
  ·rw[if_pos c2] at hr;obtain⟨rfl,rfl⟩:=hr;exact main [] qy.nil (by simp) (λn=>Tj l at_ k n 3) (by unfold Tj;rw[if_neg c1,if_pos c2];exact⟨rfl,rfl⟩)
  ·rw[if_neg c2] at hr;obtain⟨rfl,hr,_⟩:=hr;refine main _ hr ?_ (λn=>Tj l at_ k n 0) (by unfold Tj;rw[if_neg c1,if_neg c2];exact⟨rfl,rfl⟩);have hk:sizeOk k:=Classical.byContradiction λh=>c1 (.inl h);have:=hk.2;simp;omega
theorem TV {l:List UInt8} {at_ k:Nat} {n e:Int} (hk:1<=k/\k<=4) (h:at_+k<=l.length) (hr:Tj l at_ k n e):n=(num l at_ k:Int):=by
 unfold Tj at hr;rw[if_neg (by unfold sizeOk;omega),if_neg (by omega)] at hr;simpa using hr.2
theorem aiM {l:List UInt8} {at_ k:Nat} (h:k<=4):num l at_ k<2^32:=Oh (by simp;omega)
theorem byte_at {w:World} {s:iq} {l:List UInt8} (h:qy w s l) {i:Nat} (hi:i<l.length) {K:Addr->Prop} (hK:∀a,w.cell? (a)=some (.int .u8 (l[i].toNat:Int))->(a.block<w.heap.size)->K a):iO s 1 (i:Int) K:=by
 have hsl:=h.1;obtain⟨a,ha,hc⟩:=h.at_ (getElem?_eq_getElem hi);exact⟨a,ha,by omega,by omega,hK _ (by rw[toNat_natCast,Nat.mul_one];exact hc) (by rw[toNat_natCast,Nat.mul_one];exact cell_lt hc)⟩
theorem Lp {l:List UInt8} {i:Nat} (h:i<l.length):num l i 1=l[i].toNat:=by
 unfold num;rw[List.drop_eq_getElem_cons h,List.take_succ_cons];simp[vY]
def bi (l:List UInt8):List Int:=l.map λb=>(b.toNat:Int)
theorem aip {l m:List UInt8} (h:bi l=bi m):l=m:=by
 unfold bi at h;refine(List.map_inj_right ?_).1 h;intro a b hab;exact UInt8.toNat_inj.1 (by omega)
theorem ag1 {l:List UInt8} (h:l.length=16):∃x0 x1 x2 x3 x4 x5 x6 x7 x8 x9 u I J N O R:Int,bi l=[x0,x1,x2,x3,x4,x5,x6,x7,x8,x9,u,I,J,N,O,R]/\bytesV l=[.int .u8 x0,.int .u8 x1,.int .u8 x2,.int .u8 x3,.int .u8 x4,.int .u8 x5,.int .u8 x6,.int .u8 x7,.int .u8 x8,.int .u8 x9,.int .u8 u,.int .u8 I,.int .u8 J,.int .u8 N,.int .u8 O,.int .u8 R]:=by
 obtain⟨b0,l0,rfl⟩:=exists_cons_of_length_eq_add_one h;have h0:=Nat.succ.inj h;obtain⟨b1,l1,rfl⟩:=exists_cons_of_length_eq_add_one h0;have h1:=Nat.succ.inj h0;obtain⟨b2,l2,rfl⟩:=exists_cons_of_length_eq_add_one h1;have h2:=Nat.succ.inj h1;obtain⟨b3,l3,rfl⟩:=exists_cons_of_length_eq_add_one h2;have h3:=Nat.succ.inj h2;obtain⟨b4,l4,rfl⟩:=exists_cons_of_length_eq_add_one h3;have h4:=Nat.succ.inj h3;obtain⟨b5,l5,rfl⟩:=exists_cons_of_length_eq_add_one h4;have h5:=Nat.succ.inj h4;obtain⟨b6,l6,rfl⟩:=exists_cons_of_length_eq_add_one h5;have h6:=Nat.succ.inj h5;obtain⟨b7,l7,rfl⟩:=exists_cons_of_length_eq_add_one h6;have h7:=Nat.succ.inj h6;obtain⟨b8,l8,rfl⟩:=exists_cons_of_length_eq_add_one h7;have h8:=Nat.succ.inj h7;obtain⟨b9,l9,rfl⟩:=exists_cons_of_length_eq_add_one h8;have h9:=Nat.succ.inj h8;obtain⟨ae,l10,rfl⟩:=exists_cons_of_length_eq_add_one h9;have U:=Nat.succ.inj h9;obtain⟨af,l11,rfl⟩:=exists_cons_of_length_eq_add_one U;have Y:=Nat.succ.inj U;obtain⟨ag,l12,rfl⟩:=exists_cons_of_length_eq_add_one Y;have aa:=Nat.succ.inj Y;obtain⟨ah,l13,rfl⟩:=exists_cons_of_length_eq_add_one aa;have ab:=Nat.succ.inj aa;obtain⟨ai,l14,rfl⟩:=exists_cons_of_length_eq_add_one ab;have ac:=Nat.succ.inj ab;obtain⟨aj,l15,rfl⟩:=exists_cons_of_length_eq_add_one ac;have ak:=Nat.succ.inj ac;obtain rfl:=List.length_eq_zero_iff.1 ak;exact⟨b0.toNat,b1.toNat,b2.toNat,b3.toNat,b4.toNat,b5.toNat,b6.toNat,b7.toNat,b8.toNat,b9.toNat,ae.toNat,af.toNat,ag.toNat,ah.toNat,ai.toNat,aj.toNat,rfl,rfl⟩
theorem F9 {b o:Nat} {K:iq->Prop} (h:K ⟨some ⟨b,o,none⟩,16,16⟩):uP ⟨b,o,none⟩ 16 1 0 (16:Int) K:=by
 refine⟨by omega,by omega,by omega,?_⟩;have e:(if 16=(0:Int).toNat then (⟨b,o,none⟩:Addr) else (⟨b,o,none⟩:Addr).add ((0:Int).toNat * 1))=⟨b,o,none⟩:=by
  rw[if_neg (by decide)];rfl
 rw[e];exact h
theorem EP {w:World} {b o:Nat} {L A C:List Value} {l:List UInt8} (hr:Row w b L) (hL:L=A++(bytesV l++C)) (ho:A.length=o) {n:Nat} (hn:n=l.length):qy w ⟨some ⟨b,o,none⟩,n,n⟩ l:=by
 subst hn;refine⟨rfl,⟨by rw[jg],λj hj=> ?_⟩,Nat.le_refl _⟩;rw[kK,hr.cell,hL,<- ho,List.getElem?_append_right (by omega),Nat.add_sub_cancel_left,List.getElem?_append_left hj]
theorem OZ {w:World} {s:iq} {l:List UInt8} (h:qy w s l) {n:Nat} (hn:n<=l.length):wU w s.a (n * 1) (bytesV (l.take n)):=by
 cases ha:s.a with
 |none=>
  have:=h.empty ha;subst this;simp only[length_nil] at hn;obtain rfl:n=0:=by omega
  rfl
 |some a=>
  have hc:=h.2.1;rw[ha] at hc;refine⟨by rw[jg,List.length_take];omega,λj hj=> ?_⟩;rw[jg,List.length_take] at hj;rw[hc.2 j (by rw[jg];omega)];unfold bytesV;rw[getElem?_map,getElem?_map,List.getElem?_take,if_pos (by omega)]
end Go.Proofs
namespace Go.Proofs
open Gp
theorem uH (l:List UInt8):bytesV l=(bi l).map λn=>Value.int .u8 n:=by unfold bytesV bi;rw[List.map_map];rfl
theorem Nw {b o n:Nat} {K:iq->Prop} (hn:0<n) (h:K ⟨some ⟨b,o,none⟩,n,n⟩):uP ⟨b,o,none⟩ n 1 0 (n:Int) K:=by
 refine⟨by omega,by omega,by omega,?_⟩;rw[if_neg (by simp;omega)];exact h
end Go.Proofs
end
section
namespace Go.Proofs.PN
open Gp Go.Proofs.CN
abbrev O3:=Int×Int×Int
def abt (x:O3):Value:= .agg ⟨[.int .i64 x.1,.int .i64 x.2.1,.int .i64 x.2.2]⟩
def evU (_:Unit):Value:= .bool true
theorem eqO (a b:O3):FH Tryz.prog 16 80 (abt a) (abt b)=some (decide (a=b)):=by
 have h:FH Tryz.prog 16 80 (abt a) (abt b)=some ((a.1==b.1) && ((a.2.1==b.2.1) && ((a.2.2==b.2.2) && true))):=by kernel_rfl
 rw[h];obtain⟨a1,a2,a3⟩:=a;obtain⟨b1,b2,b3⟩:=b;have ib:∀x y:Int,(x==y)=decide (x=y):=λ_ _=>rfl;simp[ib,decide_and]
theorem ahf (a:O3):oQ Tryz.prog 80 (abt a)=true:=by
 unfold oQ;rw[eqO];rfl
structure PL (w:World) (p g:Nat) (s:iq) (lo hi:Int) (pl:List Int) (G:List (O3×Unit)):Prop where
 hd:Row w p [.int .i64 lo,.int .i64 hi,.slice s.a s.len s.cap,.map (some g)]
 ad:iW 1 eI w s pl
 gv:rH abt evU w g G
 nd:(G.map (·.1)).Nodup
 ln:pl.length<=16
 pg:p≠g
 sp:¬iq.at s p
 sg:¬iq.at s g
def fp (p g:Nat) (s:iq) (b:Nat):Prop:=b=p\/b=g\/iq.at s b
variable {w w':World} {p g:Nat} {s:iq} {lo hi:Int} {pl:List Int} {G:List (O3×Unit)}
theorem PL.fr {S:Nat->Prop} (h:PL w p g s lo hi pl G) (hf:iG w w' S) (hs:∀b,fp p g s b->¬S b):PL w' p g s lo hi pl G:=
 ⟨h.hd.fr hf (hs _ (.inl rfl)),h.ad.fr hf λb hb=>hs _ (.inr (.inr hb)),h.gv.fr hf (hs _ (.inr (.inl rfl))),h.nd,h.ln,h.pg,h.sp,h.sg⟩
theorem PL.ext (h:PL w p g s lo hi pl G) (hf:Ext w w'):PL w' p g s lo hi pl G:=h.fr (hf λ_=>False) (λ_ _=>by simp)
theorem PL.sl (h:PL w p g s lo hi pl G):mY 1 eI w s pl:=h.ad.sl kN (by omega)
theorem PL.sln (h:PL w p g s lo hi pl G):s.len<=2^62:=by rw[h.sl.len];have:=h.ln;omega
theorem Ad (h:PL w p g s lo hi pl G):mJ (some ⟨p,0,none⟩) w λr w'=>r=true/\w'=w:=by
 apply Oz;simp only[sx,h.hd.cell,Bool.not_false];exact⟨by trivial,by trivial⟩
theorem afp (h:PL w p g s lo hi pl G) (x:Int):qG (some ⟨p,0,none⟩) x w λr w'=>r=decide (x∈pl)/\w'=w:=by
 apply Rl;refine yN (Ad h) ?_;rintro r w' ⟨rfl,hw⟩;subst hw;simp only[sx,h.hd.cell];refine mP (E_ h.sl h.sln x) ?_;rintro r w' ⟨rfl,hw⟩;exact⟨rfl,hw⟩
theorem afY (n:Int) (w:World):zC n w λr w'=>r=decide (n=1\/n=6\/n=17)/\w'=w:=by
 apply WT;by_cases h1:n=1
 ·subst h1;simp
 by_cases h6:n=6
 ·subst h6;simp
 by_cases h:n=17
 ·subst h;simp
 ·simp[h1,h6,h]
theorem ahe (h:PL w p g s lo hi pl G) {x y z:Int} (h1:x=1\/x=6\/x=17) (h2:y∈pl) (h3:0<=z) (h4:z<65536) (hn:(x,y,z)∉G.map (·.1)):
  rZ (some ⟨p,0,none⟩) x y z w λe w'=>e=0/\PL w' p g s lo hi pl (IB G (x,y,z) ())/\iG w w' (·=g):=by
 apply Qg;refine iI λt w1 r1 e1 z1 f1=> ?_;have hp:=h.ext f1;refine yN (Ad hp) ?_;rintro r w1 ⟨rfl,hw⟩;subst hw;simp only[Bool.not_true,cond_false,sx,r1.cell];refine Wj (afY x w1) ?_;rintro r w1 ⟨rfl,hw⟩;subst hw;simp only[h1,decide_true,Bool.not_true,cond_false,sx,r1.cell];refine Gl (afp hp y) ?_;rintro r w1 ⟨rfl,hw⟩;subst hw;have h3':¬(z<0):=by omega
 have h4':¬(z>=65536):=by omega
 simp only[h2,h3',h4',decide_true,decide_false,Bool.not_true,cond_false,sx,r1.cell,hp.hd.drew.cell,r1.drew.cell];have fd:=Ext.drew w1;refine DX (k:= .bool) ((hp.gv).ext fd) eqO (x,y,z) (ahf _) (λ_=> ?_) (λb hb=>absurd hb (by rw[wK.2 hn];simp));simp only[sx,hp.hd.drew.drew.cell,r1.drew.drew.cell];refine Ug (ev:=evU) (((hp.gv).ext fd).ext (Ext.drew _)) eqO (x,y,z) () (ahf _) λw2 g2 f2 z2=> ?_;have hp2:=(hp.ext fd).ext (Ext.drew _);exact⟨by trivial,⟨hp2.hd.fr f2 h.pg,hp2.ad.fr f2 (λb hb e=>h.sg (e ▸ hb)),g2,Qv h.nd _ _,h.ln,h.pg,h.sp,h.sg⟩,((f1.trans fd).trans (Ext.drew _)).fr f2⟩
theorem ag4 (h:PL w p g s lo hi pl G) {x y z:Int} (hm:(x,y,z)∈G.map (·.1)):
  rY (some ⟨p,0,none⟩) x y z w λr w'=>r=true/\PL w' p g s lo hi pl (yx G (x,y,z))/\iG w w' (·=g):=by
 apply Qe;refine iI λt w1 r1 e1 z1 f1=> ?_;have fd:=Ext.drew w1;have hp:=(h.ext f1).ext fd;have hp2:=hp.ext (Ext.drew _);refine yN (Ad hp) ?_;rintro r w1 ⟨rfl,hw⟩;subst hw;simp only[Bool.not_true,cond_false,sx,hp.hd.cell,r1.drew.cell];refine DX (k:= .bool) hp.gv eqO (x,y,z) (ahf _) (λhb=>absurd hm (wK.1 hb)) (λb _=> ?_);simp only[evU,Bool.not_true,cond_false,sx,hp2.hd.cell,r1.drew.drew.cell];refine OW (ev:=evU) hp2.gv eqO (x,y,z) (ahf _) λw2 g2 f2 z2=> ?_;exact⟨by trivial,⟨hp2.hd.fr f2 h.pg,hp2.ad.fr f2 (λb hb e=>h.sg (e ▸ hb)),g2,h.nd.sublist ((K_ G _).map _),h.ln,h.pg,h.sp,h.sg⟩,((f1.trans fd).trans (Ext.drew _)).fr f2⟩
theorem Q5 {s:iq} {lo hi:Int} {pl:List Int} (hs:mY 1 eI w s pl) (h0:1<=pl.length) (U:pl.length<=16) (hn:pl.Nodup) (hh:∀a∈pl,nY a) (h1:1<=lo) (h2:lo<=hi) (h3:hi<65536):
  D_ s lo hi w λr e w'=>e=0/\Ext w w'/\∃p g s',r=some ⟨p,0,none⟩/\PL w' p g s' lo hi pl []/\∀b,fp p g s' b->w.heap.size<=b:=by
 apply aas;have hl:s.len=pl.length:=hs.len;intro J4;have a1:¬((s.len:Int)<1):=by omega
 have a2:¬((s.len:Int)>16):=by omega
 have a3:¬(lo<1):=by omega
 have a4:¬(hi<lo):=by omega
 have a5:¬(hi>=65536):=by omega
 simp -zeta only[a1,a2,a3,a4,a5,decide_false,cond_false];simp only[J4,cond_false];refine iE (λst W=>∃i:Nat,i<=pl.length/\st.1=(i:Int)/\Ext w W) (λst _=>pl.length - st.1.toNat) ⟨0,by omega,rfl,Ext.refl _⟩ ?_;rintro⟨i',⟨⟩⟩ W ⟨i,hi',hi2,hx⟩ next I
 simp only at hi2;subst hi2;by_cases N:i<pl.length
 ·have u:((i:Int)<(s.len:Int)):=by omega
  simp only[u,decide_true,cond_true];have O:pl[i]∈pl:=getElem_mem N;refine SN.ER (hs.ext hx) (getElem?_eq_getElem N) λa c0=> ?_;simp only[Uc,c0,iy,iF];refine zN (Dt _ W) ?_;rintro _ w1 ⟨rfl,f1⟩;simp only[hh _ O,decide_true,Bool.not_true,cond_false];refine Hf kN (hs.ext (hx.trans f1)) (by omega) (by omega) (by omega) λs1 hs1=> ?_;have hl1:s1.len<=2^62:=by rw[hs1.len];simp;omega
  refine mP (E_ hs1 hl1 _) ?_;rintro _ w2 ⟨rfl,hw⟩;subst hw;have Y:pl[i]∉(pl.take (i:Int).toNat).drop (0:Int).toNat:=by
   simp only[toNat_natCast,Int.toNat_zero,List.drop_zero];exact Gp.Cfg.rF.1 hn i _ (getElem?_eq_getElem N)
  simp only[Y,decide_false,cond_false];rw[wrap_i64 (by omega) (by omega)];exact I _ _ ⟨i+1,by omega,by simp,hx.trans f1⟩ (by simp only;omega)
 ·have u:¬((i:Int)<(s.len:Int)):=by omega
  simp only[u,decide_false,cond_false];refine zf (SN.Xm (hs.ext hx) (by omega)) ?_;rintro s' w1 ⟨f1,hb,R⟩;refine SN.G7 (enc:=abt) (ev:=evU) λw2 hm z2 f2=> ?_;refine iI λp w3 r3 e3 z3 f3=> ?_;have J:∀b,iq.at s' b->b<w1.heap.size:=λb hb'=>hb.lt hb';refine⟨by trivial,((hx.trans f1).trans f2).trans f3,p,w1.heap.size,s',rfl,⟨r3,(hb.ext f2).ext f3,hm.ext f3,by simp,U,by omega,λh=>by have:=J _ h;omega,λh=>by have:=J _ h;omega⟩,?_⟩;have hz:=(hx.trans f1).size;have hz1:=hx.size;rintro b (rfl|rfl|hb')
  ·omega
  ·omega
  ·have:=R b hb';omega
end Go.Proofs.PN
end
section
namespace Go.Proofs.EN
open Gp Go.Proofs
open Gp.Bind (Bnd Slots live GoodB freeN getS In64)
structure EA where
 x:Nat
 p:Nat
 g:Nat
 ps:iq
 qb:Nat
 qs:Nat
 B:XO
 T:SN.XO
 d:Nat
 m:Nat
 ss:List iq
def own (a:EA):Nat->Nat->Prop
 |0,b=>b=a.x
 |1,b=>PN.fp a.p a.g a.ps b
 |2,b=>b=a.qb\/b=a.qs
 |3,b=>fp a.B b
 |4,b=>SN.fp a.T b
 |5,b=>WN.pz a.d a.m a.ss b
 |_,_=>False
structure Cf where
 C:List Value
 sw:iq
 pl:List Int
 lo:Int
 hi:Int
 q:Int
 nb:Int
 ns:Int
structure adb (c:Cf):Prop where
 len:c.C.length=36
 c16:c.C[16]? =some (.slice c.sw.a c.sw.len c.sw.cap)
 c20:c.C[20]? =some (.int .i64 c.q)
 c21:c.C[21]? =some (.int .i64 c.nb)
 c22:c.C[22]? =some (.int .i64 c.ns)
 sw:c.sw.len<=64
 b1:1<=c.nb/\c.nb<=4096
 q1:1<=c.q/\c.q<=4096
 s1:1<=c.ns/\c.ns<=4096
 hp:∀x∈c.pl,CN.nY x
structure ES where
 now:Nat
 S:Slots
 Mi:ByteArray->Option Int
 Mo:ByteArray->Option Int
 Q:List Int
 G:List (PN.O3×Unit)
 SS:Gp.Ses.Slots
 M:ByteArray->Option Int
 l:WN.PL
 wn:Nat
 tn:Int
 F:Gp.Wh.Fs
structure wQ (w:World) (a:EA) (c:Cf) (e:ES):Prop where
 cf:adb c
 hd:Row w a.x ([.pointer (some ⟨a.p,0,none⟩),.pointer (some ⟨a.qb,0,none⟩),.pointer (some ⟨a.B.d,0,none⟩),.pointer (some ⟨a.T.d,0,none⟩),.pointer (some ⟨a.d,0,none⟩)]++c.C++[.int .i64 (e.now:Int)])
 pl:PN.PL w a.p a.g a.ps c.lo c.hi c.pl e.G
 qr:QN.QR w a.qb a.qs e.Q c.q
 qo:QN.QOk e.Q c.q
 db:DB w a.B c.nb.toNat e.S e.Mi e.Mo
 se:SN.TA w a.T c.ns.toNat e.SS e.M
 wh:WN.WS w a.d a.m a.ss e.l e.wn e.tn c.ns e.F
 ap:∀k k' b,own a k b->own a k' b->k=k'
 lt:∀k b,own a k b->b<w.heap.size
variable {w w':World} {a:EA} {c:Cf} {e:ES}
theorem wQ.fr {S:Nat->Prop} (h:wQ w a c e) (hf:iG w w' S) (hs:∀k b,own a k b->¬S b):wQ w' a c e:=
 ⟨h.cf,h.hd.fr hf (hs 0 _ rfl),h.pl.fr hf (hs 1),h.qr.fr hf (hs 2 _ (.inl rfl)) (hs 2 _ (.inr rfl)),h.qo,h.db.fr hf (hs 3),h.se.fr hf (hs 4),h.wh.fr hf (hs 5),h.ap,
  λk b hb=>Nat.lt_of_lt_of_le (h.lt k b hb) hf.size⟩
theorem wQ.ext (h:wQ w a c e) (hf:Ext w w'):wQ w' a c e:=h.fr (hf λ_=>False) (λ_ _ _=>by simp)
theorem wQ.c0 (h:wQ w a c e):w.cell? ⟨a.x,0,none⟩=some (.pointer (some ⟨a.p,0,none⟩)):=by rw[h.hd.cell];rfl
theorem wQ.c1 (h:wQ w a c e):w.cell? ⟨a.x,1,none⟩=some (.pointer (some ⟨a.qb,0,none⟩)):=by rw[h.hd.cell];rfl
theorem wQ.c2 (h:wQ w a c e):w.cell? ⟨a.x,2,none⟩=some (.pointer (some ⟨a.B.d,0,none⟩)):=by rw[h.hd.cell];rfl
theorem wQ.c3 (h:wQ w a c e):w.cell? ⟨a.x,3,none⟩=some (.pointer (some ⟨a.T.d,0,none⟩)):=by rw[h.hd.cell];rfl
theorem wQ.c4 (h:wQ w a c e):w.cell? ⟨a.x,4,none⟩=some (.pointer (some ⟨a.d,0,none⟩)):=by rw[h.hd.cell];rfl
theorem wQ.cC (h:wQ w a c e) {j:Nat} (hj:j<36):w.cell? ⟨a.x,5+j,none⟩=c.C[j]? :=by
 rw[h.hd.cell,List.append_assoc,List.getElem?_append_right (by simp)];rw[List.getElem?_append_left (by have:=h.cf.len;simp;omega)];congr 1;simp
theorem wQ.c21 (h:wQ w a c e):w.cell? ⟨a.x,21,none⟩=some (.slice c.sw.a c.sw.len c.sw.cap):=(h.cC (j:=16) (by omega)).trans h.cf.c16
theorem wQ.c25 (h:wQ w a c e):w.cell? ⟨a.x,25,none⟩=some (.int .i64 c.q):=(h.cC (j:=20) (by omega)).trans h.cf.c20
theorem wQ.c26 (h:wQ w a c e):w.cell? ⟨a.x,26,none⟩=some (.int .i64 c.nb):=(h.cC (j:=21) (by omega)).trans h.cf.c21
theorem wQ.c41 (h:wQ w a c e):w.cell? ⟨a.x,41,none⟩=some (.int .i64 (e.now:Int)):=by
 rw[h.hd.cell,List.append_assoc,List.getElem?_append_right (by simp),List.getElem?_append_right (by have:=h.cf.len;simp;omega)];have:41 - [Value.pointer (some ⟨a.p,0,none⟩),.pointer (some ⟨a.qb,0,none⟩),.pointer (some ⟨a.B.d,0,none⟩),.pointer (some ⟨a.T.d,0,none⟩),.pointer (some ⟨a.d,0,none⟩)].length - c.C.length=0:=by rw[h.cf.len];rfl
 rw[this];rfl
theorem DN (h:wQ w a c e):jR (some ⟨a.x,0,none⟩) w λr w'=>r=true/\w'=w:=by
 apply J8;simp only[sx,h.c0,Bool.not_false];exact⟨by trivial,by trivial⟩
def WB (c:Cf) (i:Int):Prop:=0<=i/\i<(c.sw.len:Int)
instance (c:Cf) (i:Int):Decidable (WB c i):=inferInstanceAs (Decidable (_/\_))
theorem aaH (h:wQ w a c e) (i:Int):mG (some ⟨a.x,0,none⟩) i w λr w'=>r=decide (WB c i)/\w'=w:=by
 apply GH;unfold WB;by_cases h0:i>=0
 ·have h0':0<=i:=h0;simp only[h0,h0',decide_true,sx,h.c21,true_and]
 ·have h0':¬0<=i:=h0;simp only[h0,h0',decide_false,cond_false,false_and,and_self]
theorem acV (n:Int) (w:World):yV n w λr w'=>r=decide (0<=n/\n<=65535)/\w'=w:=by
 apply YS;by_cases h0:n>=0
 ·have h0':0<=n:=h0;simp only[h0,h0',decide_true,cond_true,true_and]
 ·have h0':¬0<=n:=h0;simp only[h0,h0',decide_false,cond_false,false_and,and_self]
theorem YB (h:wQ w a c e):pI (some ⟨a.x,0,none⟩) w λr w'=>r=decide (((live 0 e.S).length:Int)>=c.nb)/\Ext w w':=by
 apply MG;have hd:=h.ext (Ext.drew w);simp only[sx,hd.c2,hd.c26];refine Ut (agW hd.db) ?_;rintro n w1 ⟨rfl,hw⟩;subst hw;exact⟨hd.c26,rfl,Ext.drew w⟩
def Gw (c:Cf) (b:Bnd):Prop:=
 (b.pr=1\/b.pr=6\/b.pr=17)/\CN.nY b.ad/\b.oad∈c.pl/\(0<=b.po/\b.po<=65535)/\(0<=b.opo/\b.opo<=65535)/\b.pr=b.opr/\WB c b.sw
instance (c:Cf) (b:Bnd):Decidable (Gw c b):=inferInstanceAs (Decidable (_/\_))
theorem aiI (h:wQ w a c e) (b:Bnd):qQ (some ⟨a.x,0,none⟩) b.sw b.pr b.ad b.po b.opr b.oad b.opo w λr w'=>r=decide (Gw c b)/\Ext w w':=by
 apply Ov;refine iI λt w1 r1 e1 z1 f1=> ?_;have h1:=h.ext f1;simp -zeta only[sx,r1.cell];intro J6;have key:J6 (decide (b.pr=1\/b.pr=6\/b.pr=17)):=by
  by_cases hp:b.pr=1\/b.pr=6\/b.pr=17;rotate_left
  ·simp only[J6,hp,decide_false,cond_false];exact⟨(decide_eq_false λhm=>hp hm.1).symm,f1⟩
  simp only[J6,hp,decide_true,cond_true,sx,r1.drew.cell];refine zN (CN.Dt _ _) ?_;rintro r w2 ⟨rfl,f2⟩;have x2:=(Ext.drew w1).trans f2;have h2:=h1.ext x2;have r2:=r1.ext x2;by_cases c1:CN.nY b.ad;rotate_left
  ·simp only[c1,decide_false,cond_false];exact⟨(decide_eq_false λhm=>c1 hm.2.1).symm,f1.trans x2⟩
  simp only[c1,decide_true,cond_true,sx,h2.c0,r2.cell];refine Gl (PN.afp h2.pl _) ?_;rintro r w2 ⟨rfl,hw⟩;subst hw;by_cases c2:b.oad∈c.pl;rotate_left
  ·simp only[c2,decide_false,cond_false];exact⟨(decide_eq_false λhm=>c2 hm.2.2.1).symm,f1.trans x2⟩
  simp only[c2,decide_true,cond_true,sx,r2.cell];refine Pg (acV _ _) ?_;rintro r w2 ⟨rfl,hw⟩;subst hw;by_cases c3:0<=b.po/\b.po<=65535;rotate_left
  ·simp only[c3,decide_false,cond_false];exact⟨(decide_eq_false λhm=>c3 hm.2.2.2.1).symm,f1.trans x2⟩
  simp only[c3,and_self,decide_true,cond_true,sx,r2.cell];refine Pg (acV _ _) ?_;rintro r w2 ⟨rfl,hw⟩;subst hw;by_cases c4:0<=b.opo/\b.opo<=65535;rotate_left
  ·simp only[c4,decide_false,cond_false];exact⟨(decide_eq_false λhm=>c4 hm.2.2.2.2.1).symm,f1.trans x2⟩
  simp only[c4,and_self,decide_true,cond_true,sx,r2.cell];by_cases c5:b.pr=b.opr;rotate_left
  ·have c5':(b.pr==b.opr)=false:=by simpa using c5
   simp only[c5',cond_false];exact⟨(decide_eq_false λhm=>c5 hm.2.2.2.2.2.1).symm,f1.trans x2⟩
  have c5':(b.pr==b.opr)=true:=by simpa using c5
  simp only[c5',cond_true];refine Gj (aaH h2 _) ?_;rintro r w2 ⟨rfl,hw⟩;subst hw;refine⟨?_,f1.trans x2⟩;simp only[decide_eq_decide];exact⟨λhs=>⟨hp,c1,c2,c3,c4,c5,hs⟩,λhm=>hm.2.2.2.2.2.2⟩
 by_cases p1:b.pr=1
 ·have p1':(b.pr==1)=true:=by simpa using p1
  simp -zeta only[p1',cond_true];have q:decide (b.pr=1\/b.pr=6\/b.pr=17)=true:=by simp[p1]
  rw[q] at key;exact key
 have p1':(b.pr==1)=false:=by simpa using p1
 by_cases p6:b.pr=6
 ·have p6':(b.pr==6)=true:=by simpa using p6
  simp -zeta only[p1',p6',cond_true,cond_false];have q:decide (b.pr=1\/b.pr=6\/b.pr=17)=true:=by simp[p6]
  rw[q] at key;exact key
 have p6':(b.pr==6)=false:=by simpa using p6
 simp -zeta only[p1',p6',cond_false];have q:decide (b.pr=1\/b.pr=6\/b.pr=17)=(b.pr==17):=by
  have:(b.pr==17)=decide (b.pr=17):=rfl;rw[this];simp[p1,p6]
 rw[q] at key;exact key
end Go.Proofs.EN
end
