import Derived.Test.YtfndjkoiappemaaGreatPc1
import Derived.Test.YtfndjkoiappemaaGreatW7
import Derived.Test.YtfndjkoiappemaaGreatW3
import Derived.Test.YtfndjkoiappemaaGreatW8
section
namespace Go.Proofs.CN
open Gp
set_option maxRecDepth 100000
theorem SX (x:oI):∀v∈e16 x,gY v=true:=by
 obtain⟨x0,x1,x2,x3,x4,x5,x6,x7,x8,x9,x10,x11,x12,x13,x14,x15,⟨⟩⟩:=x
 intro v hv
 have:(e16 (x0,x1,x2,x3,x4,x5,x6,x7,x8,x9,x10,x11,x12,x13,x14,x15,())).all gY=true:=rfl
 exact List.all_eq_true.1 this v hv
theorem Xq {w:World} {s:b_} {xs:List oI} (hs:kH 16 e16 w s xs) (hl:s.len<=2^40):
  h_ s w fun r w'=>Ext w w'/\iI 16 e16 w' r xs/\∀b,b_.at r b->w.heap.size<=b:=by
 apply vX
 have hlen:=hs.len
 cases ha:s.a with
 |none=>
  have hc:=hs.cells
  rw [ha] at hc
  have h0:xs.flatMap e16=[]:=hc
  have hfl:=iH e16 16 oW xs
  rw [h0] at hfl
  have:xs=[]:=by
   cases xs with
   |nil=>rfl
   |cons _ _=>simp only [List.length_cons,List.length_nil] at hfl;omega
  subst this
  simp only [Option.isNone_none,cond_true]
  exact⟨Ext.refl _,iI.nil,fun b ⟨o,hb⟩=>by cases hb⟩
 |some a=>
  simp only [Option.isNone_some,cond_false]
  refine fK fun t w1 rt et zt f1=> ?_
  have hb:iI 16 e16 w1 ⟨some ⟨t,0,none⟩,0,0⟩ ([]:List oI):=iI.row (xs:=[]) rt
  refine mg oW hb (hs.ext f1) rfl (by omega) SX (by simp only [List.length_nil];omega) (by simp only [List.length_nil];omega) fun s' w' h1 h2 h3=> ?_
  refine⟨f1.new h2 fun b hb ⟨o,he⟩=>by cases he;omega,h1,fun b hb=> ?_⟩
  rcases h3 b hb with ⟨o,he⟩|h
  ·cases he;omega
  ·omega
def DN (x:T7):Int:=x.1
def cnt (tl:List T7) (k:Nat):Nat:=tl.countP fun y=>DN y==(k:Int)
def cnts (n:Nat) (tl:List T7):List Int:=(List.range n).map fun k=>(cnt tl k:Int)
theorem BZ (n:Nat) (tl:List T7):(cnts n tl).flatMap eI=(List.range n).map fun k=>Value.int .i64 (cnt tl k:Int):=by
 unfold cnts
 generalize List.range n=l
 induction l with
 |nil=>rfl
 |cons a l ih=>simp only [List.map_cons,List.flatMap_cons,ih];rfl
theorem aap {α:Type} {n:Nat} {f:α->List Value} {w:World} {s:b_} {xs:List α} {a:Addr} (hn:∀x,(f x).length=n) (hn0:0<n) (h:kH n f w s xs) (ha:s.a=some a) (hx:0<xs.length):a.block<w.heap.size:=by
 have hc:=h.cells
 rw [ha] at hc
 have hfl:=iH f n hn xs
 have hp:0<xs.length * n:=Nat.mul_pos hx hn0
 have h0:=hc.2 0 (by omega)
 rw [List.getElem?_eq_getElem (by omega)] at h0
 exact cell_lt h0
theorem aao (tl:List T7) (x:T7) (k:Nat):cnt (tl++[x]) k=cnt tl k+if DN x=(k:Int) then 1 else 0:=by
 unfold cnt
 rw [List.countP_append,List.countP_singleton]
 congr 1
 by_cases h:DN x=(k:Int)<;>simp [h]
theorem ZA {n:Nat} {tl:List T7} {x:T7} (h0:0<=DN x):
  ((cnts n tl).flatMap eI).set (DN x).toNat (.int .i64 ((cnt tl (DN x).toNat:Int)+1))=(cnts n (tl++[x])).flatMap eI:=by
 rw [BZ,BZ]
 refine List.ext_getElem? fun i=> ?_
 rw [List.getElem?_set]
 by_cases hi:i<n
 ·rw [List.getElem?_map,List.getElem?_map,List.getElem?_range hi]
  simp only [Option.map_some,List.length_map,List.length_range]
  rw [aao]
  by_cases he:(DN x).toNat=i
  ·subst he
   rw [if_pos rfl,if_pos hi,if_pos (by omega)]
   rfl
  ·rw [if_neg he,if_neg (by omega)];rfl
 ·rw [List.getElem?_eq_none (by simp;omega),List.getElem?_eq_none (by simp;omega)]
  by_cases he:(DN x).toNat=i
  ·rw [if_pos he,if_neg (by simp;omega)]
  ·rw [if_neg he]
def Dv (p:oI) (sl:List oI) (pl:List Int) (tl:List T7) (n:Nat) (q:Int):Prop:=
 (sl++[p]).Nodup/\pl.Nodup/\(tl.map mG).Nodup/\(tl.map nO).Nodup/\∀k:Nat,k<n->(cnt tl k:Int)<=q
theorem Y9 {n:Nat} {tl:List T7} {q:Int}:((cnts n tl).any fun x=>decide (x>q))=true↔¬∀k:Nat,k<n->(cnt tl k:Int)<=q:=by
 rw [List.any_eq_true]
 constructor
 ·rintro⟨x,hx,hq⟩ h
  obtain⟨k,hk,rfl⟩:=List.mem_map.1 hx
  have:=h k (List.mem_range.1 hk)
  simp only [decide_eq_true_eq] at hq
  omega
 ·intro h
  by_cases hk:∃k:Nat,k<n/\q<(cnt tl k:Int)
  ·obtain⟨k,h1,h2⟩:=hk
   exact⟨_,List.mem_map.2 ⟨k,List.mem_range.2 h1,rfl⟩,by simpa using h2⟩
  ·exact absurd (fun k hk'=>by
    by_cases hh:(cnt tl k:Int)<=q
    ·exact hh
    ·exact absurd ⟨k,hk',by omega⟩ hk) h
theorem VW {w:World} {p0 p1 p2 p3 p4 p5 p6 p7 p8 p9 p10 p11 p12 p13 p14 p15:Int} {sw po:b_} {n18 n19 n20 n21 n22 n23 n24 n25 n26 n27 n28 n29 n30 n31 n32 n33 n34:Int} {st:b_} {sl:List oI} {pl:List Int} {tl:List T7} (hsw:kH 16 e16 w sw sl) (hpo:kH 1 eI w po pl) (hst:kH 7 e7 w st tl) (lsw:sw.len<=2^40) (lpo:po.len<=2^40) (lst:st.len<=2^40)
  (hr:∀x∈tl,0<=DN x/\DN x<(sw.len:Int)):
  oD p0 p1 p2 p3 p4 p5 p6 p7 p8 p9 p10 p11 p12 p13 p14 p15 sw po n18 n19 n20 n21 n22 n23 n24 n25 n26 n27 n28 n29 n30 n31 n32 n33 n34 st w fun r w'=>(r=true↔¬Dv (p0,p1,p2,p3,p4,p5,p6,p7,p8,p9,p10,p11,p12,p13,p14,p15,()) sl pl tl sw.len n20)/\Ext w w':=by
 apply Je
 have lens:=hsw.len
 refine fK fun a w1 ra ea z1 f1=> ?_
 simp -zeta only [sx,ra.drew.cell]
 intro J4
 have hJ4:∀s W,Ext w1 W->iI 16 e16 W s (sl++[(p0,p1,p2,p3,p4,p5,p6,p7,p8,p9,p10,p11,p12,p13,p14,p15,())])->J4 s W:=by
  intro s W hx hb
  have ra:=ra.ext hx
  have hpo:=(hpo.ext f1).ext hx
  have hst:=(hst.ext f1).ext hx
  have xx:=f1.trans hx
  simp -zeta only [J4]
  intro J7
  have hJ7:∀c W',Ext W W'->(c=true↔¬((sl++[(p0,p1,p2,p3,p4,p5,p6,p7,p8,p9,p10,p11,p12,p13,p14,p15,())]).Nodup/\pl.Nodup/\(tl.map mG).Nodup/\(tl.map nO).Nodup))->J7 c W':=by
   intro c W' hx' hc
   simp only [J7]
   cases c
   ·have ra:=ra.ext hx'
    have hst:=hst.ext hx'
    have hf:(sl++[(p0,p1,p2,p3,p4,p5,p6,p7,p8,p9,p10,p11,p12,p13,p14,p15,())]).Nodup/\pl.Nodup/\(tl.map mG).Nodup/\(tl.map nO).Nodup:=by
     by_cases h:(sl++[(p0,p1,p2,p3,p4,p5,p6,p7,p8,p9,p10,p11,p12,p13,p14,p15,())]).Nodup/\pl.Nodup/\(tl.map mG).Nodup/\(tl.map nO).Nodup
     ·exact h
     ·exact absurd (hc.2 h) (by simp)
    simp only [cond_false,cond_false,List.getElem?_cons_zero,List.getElem?_cons_succ,fA,fG,ra.cell]
    refine E5 (by omega) (by omega) (by omega) (by omega) fun m w2 rm em z2 f2=> ?_
    have f2:Ext W' w2:=f2
    have la1:=ra.lt
    have hst1:=hst
    have ra:=ra.ext f2
    have hst:=hst.ext f2
    have hlt:=hst.len
    simp only [sx,Int.toNat_natCast,ra.cell]
    have rm0:Row w2 m ((cnts sw.len (tl.take 0)).flatMap eI):=by
     have e:(cnts sw.len (tl.take 0)).flatMap eI=fH [Value.int .i64 0] ((sw.len:Int)).toNat:=by
      rw [BZ,Int.toNat_natCast]
      generalize sw.len=n
      rw [List.take_zero]
      have:∀l:List Nat,(l.map fun k=>Value.int .i64 ((cnt [] k:Nat):Int))=fH [Value.int .i64 0] l.length:=by
       intro l
       induction l with
       |nil=>rfl
       |cons a l ih=>simp only [List.map_cons,List.length_cons,fH,ih];rfl
      rw [this,List.length_range]
     rw [e];exact rm
    refine fE (fun st' V=>∃j:Nat,j<=tl.length/\st'.1=(j:Int)/\Row V m ((cnts sw.len (tl.take j)).flatMap eI)/\fD w2 V (·=m)) (fun st' _=>(tl.length - st'.1).toNat) ⟨0,by omega,rfl,rm0,fD.refl _ _⟩ ?_
    rintro⟨i,⟨⟩⟩ V ⟨j,hj,hi,rmV,hfV⟩ next hnext
    simp only at hi
    subst hi
    have lra:=ra.lt
    have zW:=hx'.size
    have raV:=ra.fr hfV (by omega)
    have hstV:=hst.fr hfV (fun a' ha' hl'=>by
     have:=aap vP (by omega) hst1 ha' hl'
     omega)
    by_cases hlt2:(j:Int)<(st.len:Int)
    ·simp only [hlt2,decide_true,cond_true]
     have hx:=List.getElem?_eq_getElem (show j<tl.length by omega)
     have hmem:=List.getElem_mem (show j<tl.length by omega)
     generalize tl[j]=x at hx hmem
     have htk:=Gp.Cfg.take_snoc hx
     have hrx:=hr x hmem
     have hset:=ZA (n:=sw.len) (tl:=tl.take j) (x:=x) hrx.1
     rw [<- htk] at hset
     have hcl:cnt (tl.take j) (DN x).toNat<=tl.length:=Nat.le_trans (List.countP_le_length) (by simp;omega)
     refine jg vP (by omega) hstV (by omega) (by rw [Int.toNat_natCast];exact hx) fun a' hc=> ?_
     obtain⟨x0,x1,x2,x3,x4,x5,x6,⟨⟩⟩:=x
     have c0:V.cell? (a'.add 0)=some (.int .i64 x0):=hc 0 _ rfl;have c1:V.cell? (a'.add 1)=some (.int .i64 x1):=hc 1 _ rfl;have c2:V.cell? (a'.add 2)=some (.int .i64 x2):=hc 2 _ rfl;have c3:V.cell? (a'.add 3)=some (.int .i64 x3):=hc 3 _ rfl;have c4:V.cell? (a'.add 4)=some (.int .i64 x4):=hc 4 _ rfl;have c5:V.cell? (a'.add 5)=some (.int .i64 x5):=hc 5 _ rfl;have c6:V.cell? (a'.add 6)=some (.int .i64 x6):=hc 6 _ rfl
     simp only [fA,fC,c0,c1,c2,c3,c4,c5,c6]
     refine Cc rfl rfl fun t w3 rt et zt f3=> ?_
     have rm3:=rmV.ext f3
     have hq0:0<=x0/\x0<(sw.len:Int):=hrx
     have hg:((cnts sw.len (tl.take j)).flatMap eI)[x0.toNat]? =some (.int .i64 (cnt (tl.take j) x0.toNat:Int)):=by
      rw [BZ,List.getElem?_map,List.getElem?_range (by omega)];rfl
     have hcl:cnt (tl.take j) x0.toNat<=tl.length:=hcl
     have hset:((cnts sw.len (tl.take j)).flatMap eI).set x0.toNat (.int .i64 ((cnt (tl.take j) x0.toNat:Int)+1))=(cnts sw.len (tl.take (j+1))).flatMap eI:=hset
     simp only [List.getElem?_cons_zero,fA,fC,rt.cell,Nat.mul_one,rm3.cell,hg]
     refine⟨hq0.1,hq0.2,hq0.1,hq0.2,?_⟩
     rw [wrap_i64 (by omega) (by omega),wrap_i64 (by omega) (by omega)]
     refine gu rm3 rfl (by rw [BZ];simp;omega) fun w4 rm4 f4 z4=> ?_
     rw [hset] at rm4
     exact hnext _ _ ⟨j+1,by omega,by simp,rm4,(hfV.ext f3).trans (f4 (·=m) rfl) fun _ _ e=>e⟩ (by simp only;omega)
    ·simp only [hlt2,decide_false,cond_false]
     rw [List.take_of_length_le (by omega)] at rmV
     have hsm:kH 1 eI V ⟨some ⟨m,0,none⟩,sw.len,sw.len⟩ (cnts sw.len tl):=by
      have:=(iI.row (xs:=cnts sw.len tl) (f:=eI) (n:=1) rmV).sl jB (by omega)
      simpa [cnts] using this
     refine nZ (Ox hsm (by simp only;omega) abf fun W hW=>raV.ext hW) ?_
     rintro r w5 ⟨rfl,f5⟩
     have e5:Ext W' V:=f2.new hfV fun b hb e=>by omega
     refine⟨?_,((xx.trans hx').trans e5).trans f5⟩
     rw [Y9]
     exact⟨fun h hh=>h hh.2.2.2.2,fun h hh=>h ⟨hf.1,hf.2.1,hf.2.2.1,hf.2.2.2,hh⟩⟩
   ·simp only [cond_true]
    exact⟨⟨fun _ h=>hc.1 rfl ⟨h.1,h.2.1,h.2.2.1,h.2.2.2.1⟩,fun _=>by trivial⟩,xx.trans hx'⟩
  refine wW (Ep (hb.sl oW (by omega)) ?_ rfl UW) ?_
  ·rw [hb.len];simp only [List.length_append,List.length_cons,List.length_nil];omega
  rintro v w2 ⟨f2,C,hi,hC⟩
  rw [List.map_id'] at hi
  refine BQ (abE hi hC) ?_
  rintro r w3 ⟨h1,f3⟩
  cases r
  ·have f3:=f2.trans f3
   have n1:(sl++[(p0,p1,p2,p3,p4,p5,p6,p7,p8,p9,p10,p11,p12,p13,p14,p15,())]).Nodup:=by
    by_cases h:(sl++[(p0,p1,p2,p3,p4,p5,p6,p7,p8,p9,p10,p11,p12,p13,p14,p15,())]).Nodup
    ·exact h
    ·exact absurd (h1.2 h) (by simp)
   have ra:=ra.ext f3
   have hpo:=hpo.ext f3
   have hst:=hst.ext f3
   simp -zeta only [cond_false,cond_false,List.getElem?_cons_zero,List.getElem?_cons_succ,fA,fG,ra.cell]
   refine Ce (RD hpo (by simp only;omega) rfl Xg) ?_
   rintro v w4 ⟨f4,C,hi,hC⟩
   rw [List.map_id'] at hi
   refine Gh (acK hi hC) ?_
   rintro r w5 ⟨h2,f5⟩
   have f5:=f4.trans f5
   cases r
   ·have n2:pl.Nodup:=by
     by_cases h:pl.Nodup
     ·exact h
     ·exact absurd (h2.2 h) (by simp)
    have ra:=ra.ext f5
    have hst:=hst.ext f5
    simp -zeta only [cond_false,cond_false,List.getElem?_cons_zero,List.getElem?_cons_succ,fA,fG,ra.cell]
    refine uh (z_ hst (by simp only;omega) rfl ZF) ?_
    rintro v w6 ⟨f6,C,hi,hC⟩
    refine zX (ac8 hi hC) ?_
    rintro r w7 ⟨h3,f7⟩
    have f7:=f6.trans f7
    cases r
    ·have n3:(tl.map mG).Nodup:=by
      by_cases h:(tl.map mG).Nodup
      ·exact h
      ·exact absurd (h3.2 h) (by simp)
     have ra:=ra.ext f7
     have hst:=hst.ext f7
     simp -zeta only [cond_false,cond_false,List.getElem?_cons_zero,List.getElem?_cons_succ,fA,fG,ra.cell]
     refine ug (zV hst (by simp only;omega) rfl ZQ) ?_
     rintro v w8 ⟨f8,C,hi,hC⟩
     refine Ae (acz hi hC) ?_
     rintro r w9 ⟨h4,f9⟩
     refine hJ7 _ _ ((((f3.trans f5).trans f7).trans f8).trans f9) (h4.trans ⟨fun h hh=>h hh.2.2.2,fun h hh=>h ⟨n1,n2,n3,hh⟩⟩)
    ·simp -zeta only [cond_true]
     exact hJ7 _ _ ((f3.trans f5).trans f7) ⟨fun _ h=>h3.1 rfl h.2.2.1,fun _=>rfl⟩
   ·simp -zeta only [cond_true]
    exact hJ7 _ _ (f3.trans f5) ⟨fun _ h=>h2.1 rfl h.2.1,fun _=>rfl⟩
  ·simp -zeta only [cond_true]
   exact hJ7 _ _ (f2.trans f3) ⟨fun _ h=>h1.1 rfl h.1,fun _=>rfl⟩
 have hd:=Ext.drew w1
 refine⟨?_,?_⟩
 ·refine nJ (Xq ((hsw.ext f1).ext hd) lsw) ?_
  rintro r w2 ⟨f2,hb,hb2⟩
  have e2:=hd.trans f2
  have ra2:=ra.ext e2
  simp only [sx,Bl,FT,ra2.cell,true_and]
  refine fK fun t w3 rt et zt f3=> ?_
  have ra3:=ra2.ext f3
  simp only [sx,Bl,FT,ra3.cell,true_and]
  have ht:kH 16 e16 w3 ⟨some ⟨t,0,none⟩,1,1⟩ [((p0,p1,p2,p3,p4,p5,p6,p7,p8,p9,p10,p11,p12,p13,p14,p15,()):oI)]:=(iI.row (xs:=[((p0,p1,p2,p3,p4,p5,p6,p7,p8,p9,p10,p11,p12,p13,p14,p15,()):oI)]) (f:=e16) (n:=16) rt).sl oW (by omega)
  refine mg oW (hb.ext f3) ht rfl (by omega) SX (by simp only [List.length_cons,List.length_nil];omega) (by simp only [List.length_cons,List.length_nil];omega) fun s' w' h1 h2 h3=> ?_
  have hz:w1.heap.size<=w1.drew.heap.size:=hd.size
  exact hJ4 _ _ (((e2.trans f3).fr h2).new fun b hb' hs=>by have:=hb2 b hs;omega) h1
 ·refine fK fun t w2 rt et zt f2=> ?_
  have e2:=hd.trans f2
  have ra2:=ra.ext e2
  simp only [sx,Bl,FT,ra2.cell,true_and]
  refine nJ (Xq ((hsw.ext f1).ext e2) lsw) ?_
  rintro r w3 ⟨f3,hb,hb2⟩
  have e3:=e2.trans f3
  have ra3:=ra2.ext f3
  simp only [sx,Bl,FT,ra3.cell,true_and]
  have ht:kH 16 e16 w3 ⟨some ⟨t,0,none⟩,1,1⟩ [((p0,p1,p2,p3,p4,p5,p6,p7,p8,p9,p10,p11,p12,p13,p14,p15,()):oI)]:=((iI.row (xs:=[((p0,p1,p2,p3,p4,p5,p6,p7,p8,p9,p10,p11,p12,p13,p14,p15,()):oI)]) (f:=e16) (n:=16) rt).sl oW (by omega)).ext f3
  refine mg oW hb ht rfl (by omega) SX (by simp only [List.length_cons,List.length_nil];omega) (by simp only [List.length_cons,List.length_nil];omega) fun s' w' h1 h2 h3=> ?_
  have hz:w1.heap.size<=w2.heap.size:=e2.size
  exact hJ4 _ _ ((e3.fr h2).new fun b hb' hs=>by have:=hb2 b hs;omega) h1
end Go.Proofs.CN
namespace Go.Proofs.CN
open Gp
set_option maxRecDepth 100000
def WL (ls lp lt n18 n19 n20 n21 n22 n23 n24 n25 n26 n27 n29 n30 n31 n32 n33 n34:Int):List T3:=
 [(ls,1,64,()),(lp,1,16,()),(lt,0,if n21<64 then n21 else 64,()),(n18,1,65535,()),(n19,n18,65535,()),(n20,1,4096,()),(n21,1,4096,()),(n22,1,4096,()),(n23,0,4096,()),
  (n24,0,67108864,()),(n25,1280,65535,()),(n26,1280,65535,()),(n27,1,255,()),(n29,0,2,()),(n30,120,1048576,()),(n31,7440,1048576,()),(n32,240,1048576,()),(n33,60,1048576,()),(n34,1,1048576,())]
theorem ZW (x:T3):(e3 x).length=3:=rfl
def okB (b:T3):Prop:=b.2.1<=b.1/\b.1<=b.2.2.1
instance (b:T3):Decidable (okB b):=inferInstanceAs (Decidable (_/\_))
theorem YX {p0 p1 p2 p3 p4 p5 p6 p7 p8 p9 p10 p11 p12 p13 p14 p15:Int} {sw po:b_} {n18 n19 n20 n21 n22 n23 n24 n25 n26 n27 n28 n29 n30 n31 n32 n33 n34:Int} {st:b_} (w:World):pK p0 p1 p2 p3 p4 p5 p6 p7 p8 p9 p10 p11 p12 p13 p14 p15 sw po n18 n19 n20 n21 n22 n23 n24 n25 n26 n27 n28 n29 n30 n31 n32 n33 n34 st w fun r w'=>Ext w w'/\r.len=19/\kH 3 e3 w' r (WL sw.len po.len st.len n18 n19 n20 n21 n22 n23 n24 n25 n26 n27 n29 n30 n31 n32 n33 n34):=by
 apply KQ
 refine fK fun a w1 ra ea z1 f1=> ?_
 simp only [sx,ra.cell]
 refine fK fun b w2 rb eb z2 f2=> ?_
 have hb:=iI.row (n:=3) (f:=e3) (xs:=WL sw.len po.len st.len n18 n19 n20 n21 n22 n23 n24 n25 n26 n27 n29 n30 n31 n32 n33 n34) (w:=w2) (b:=b) rb
 exact⟨f1.trans f2,by trivial,hb.sl ZW (by omega)⟩
structure OkP (p:oI) (ls lp lt n18 n19 n20 n21 n22 n23 n24 n25 n26 n27 n28 n29 n30 n31 n32 n33 n34:Int) (n:Nat) (sl:List oI) (pl:List Int) (tl:List T7):Prop where
 nums:∀b∈WL ls lp lt n18 n19 n20 n21 n22 n23 n24 n25 n26 n27 n29 n30 n31 n32 n33 n34,okB b
 mss:UY n28
 parts:wL p n sl pl tl=true
theorem XT {n:Nat} {pl:List Int} {x:T7} (h:BA n pl x):0<=DN x/\DN x<(n:Int):=by
 obtain⟨q0,q1,q2,q3,q4,q5,q6,⟨⟩⟩:=x
 have:(0<=q0/\q0<=(n:Int) - 1):=h.2.2.2
 show 0<=q0/\q0<(n:Int)
 omega
theorem V6 {p:oI} {n:Nat} {sl:List oI} {pl:List Int} {tl:List T7} (h:wL p n sl pl tl=true):∀x∈tl,BA n pl x:=by
 intro x hx
 unfold wL at h
 simp only [Bool.and_eq_true,Bool.not_eq_true',List.any_eq_false] at h
 have:=h.2.2.2 x hx
 simpa using this
theorem ZY {w:World} {p0 p1 p2 p3 p4 p5 p6 p7 p8 p9 p10 p11 p12 p13 p14 p15:Int} {sw po:b_} {n18 n19 n20 n21 n22 n23 n24 n25 n26 n27 n28 n29 n30 n31 n32 n33 n34:Int} {st:b_} {sl:List oI} {pl:List Int} {tl:List T7} (hsw:kH 16 e16 w sw sl) (hpo:kH 1 eI w po pl) (hst:kH 7 e7 w st tl) (lsw:sw.len<=2^40) (lpo:po.len<=2^40) (lst:st.len<=2^40):
  qM p0 p1 p2 p3 p4 p5 p6 p7 p8 p9 p10 p11 p12 p13 p14 p15 sw po n18 n19 n20 n21 n22 n23 n24 n25 n26 n27 n28 n29 n30 n31 n32 n33 n34 st w fun r w'=>((¬OkP (p0,p1,p2,p3,p4,p5,p6,p7,p8,p9,p10,p11,p12,p13,p14,p15,()) sw.len po.len st.len n18 n19 n20 n21 n22 n23 n24 n25 n26 n27 n28 n29 n30 n31 n32 n33 n34 sw.len sl pl tl/\r=1)\/
   (OkP (p0,p1,p2,p3,p4,p5,p6,p7,p8,p9,p10,p11,p12,p13,p14,p15,()) sw.len po.len st.len n18 n19 n20 n21 n22 n23 n24 n25 n26 n27 n28 n29 n30 n31 n32 n33 n34 sw.len sl pl tl/\((¬Dv (p0,p1,p2,p3,p4,p5,p6,p7,p8,p9,p10,p11,p12,p13,p14,p15,()) sl pl tl sw.len n20/\r=9)\/(Dv (p0,p1,p2,p3,p4,p5,p6,p7,p8,p9,p10,p11,p12,p13,p14,p15,()) sl pl tl sw.len n20/\r=0))))/\Ext w w':=by
 apply MH
 refine fK fun a w1 ra ea z1 f1=> ?_
 simp -zeta only [sx,ra.cell]
 refine JZ (YX w1) ?_
 rintro bs w2 ⟨f2,hl19,hbs⟩
 generalize hbe:WL sw.len po.len st.len n18 n19 n20 n21 n22 n23 n24 n25 n26 n27 n29 n30 n31 n32 n33 n34=bl at hbs
 have hlb:bs.len=bl.length:=hbs.len
 refine fE (fun st' W=>∃j:Nat,j<=19/\st'.1=(j:Int)/\Ext w2 W/\∀b∈bl.take j,okB b) (fun st' _=>(19 - st'.1).toNat) ⟨0,by omega,rfl,Ext.refl _,by simp⟩ ?_
 rintro⟨i,⟨⟩⟩ W ⟨j,hj,hi,hx,hall⟩ next hnext
 simp only at hi
 subst hi
 have e12:=f1.trans f2
 have raW:=(ra.ext f2).ext hx
 by_cases hlt:(j:Int)<(bs.len:Int)
 ·simp -zeta only [hlt,decide_true,cond_true]
  have hxj:=List.getElem?_eq_getElem (show j<bl.length by omega)
  have hmem:=List.getElem_mem (show j<bl.length by omega)
  generalize bl[j]=x at hxj hmem
  have htk:=Gp.Cfg.take_snoc hxj
  refine jg ZW (by omega) (hbs.ext hx) (by omega) (by rw [Int.toNat_natCast];exact hxj) fun a' hc=> ?_
  obtain⟨x0,x1,x2,⟨⟩⟩:=x
  have c0:W.cell? (a'.add 0)=some (.int .i64 x0):=hc 0 _ rfl;have c1:W.cell? (a'.add 1)=some (.int .i64 x1):=hc 1 _ rfl;have c2:W.cell? (a'.add 2)=some (.int .i64 x2):=hc 2 _ rfl
  simp -zeta only [fA,fC,c0,c1,c2]
  refine Cc rfl rfl fun t w3 rt et zt f3=> ?_
  simp -zeta only [sx,rt.cell]
  refine lZ (xG _ _ _ _) ?_
  rintro _ w4 ⟨rfl,f4⟩
  by_cases hok:x1<=x0/\x0<=x2
  ·simp -zeta only [hok,and_self,decide_true,Bool.not_true,cond_false]
   rw [wrap_i64 (by omega) (by omega)]
   refine hnext _ _ ⟨j+1,by omega,by simp,(hx.trans f3).trans f4,?_⟩ (by simp only;omega)
   rw [htk]
   intro b hb
   rcases List.mem_append.1 hb with hb|hb
   ·exact hall b hb
   ·rw [List.mem_singleton.1 hb];exact hok
  ·simp -zeta only [hok,decide_false,Bool.not_false,cond_true]
   exact⟨.inl ⟨fun h=>hok (h.nums (x0,x1,x2,()) (by rw [hbe];exact hmem)),by trivial⟩,((e12.trans hx).trans f3).trans f4⟩
 ·simp -zeta only [hlt,decide_false,cond_false]
  rw [List.take_of_length_le (by omega)] at hall
  intro J57
  have hJ:∀c W',Ext W W'->(c=false↔UY n28/\wL (p0,p1,p2,p3,p4,p5,p6,p7,p8,p9,p10,p11,p12,p13,p14,p15,()) sw.len sl pl tl=true)->J57 c W':=by
   intro c W' hx' hc
   have raW:=raW.ext hx'
   have xx:=(e12.trans hx).trans hx'
   simp only [J57]
   cases c
   ·obtain⟨h1,h2⟩:=hc.1 rfl
    have hok:OkP (p0,p1,p2,p3,p4,p5,p6,p7,p8,p9,p10,p11,p12,p13,p14,p15,()) sw.len po.len st.len n18 n19 n20 n21 n22 n23 n24 n25 n26 n27 n28 n29 n30 n31 n32 n33 n34 sw.len sl pl tl:=⟨by rw [hbe];exact hall,h1,h2⟩
    simp only [cond_false,cond_false,List.getElem?_cons_zero,List.getElem?_cons_succ,fA,fG,fC,raW.cell]
    refine IU (VW (hsw.ext xx) (hpo.ext xx) (hst.ext xx) lsw lpo lst fun x hx=>XT (V6 h2 x hx)) ?_
    rintro r w5 ⟨h5,f5⟩
    cases r
    ·have hfine:Dv (p0,p1,p2,p3,p4,p5,p6,p7,p8,p9,p10,p11,p12,p13,p14,p15,()) sl pl tl sw.len n20:=by
      by_cases h:Dv (p0,p1,p2,p3,p4,p5,p6,p7,p8,p9,p10,p11,p12,p13,p14,p15,()) sl pl tl sw.len n20
      ·exact h
      ·exact absurd (h5.2 h) (by simp)
     exact⟨.inr ⟨hok,.inr ⟨hfine,by trivial⟩⟩,xx.trans f5⟩
    ·exact⟨.inr ⟨hok,.inl ⟨h5.1 rfl,by trivial⟩⟩,xx.trans f5⟩
   ·simp only [cond_true]
    refine⟨.inl ⟨fun h=> ?_,by trivial⟩,xx⟩
    have:=hc.2 ⟨h.mss,h.parts⟩
    cases this
  clear_value J57
  simp -zeta only [List.getElem?_cons_zero,List.getElem?_cons_succ,fA,fC,raW.cell]
  refine MF (aaq _ _) ?_
  rintro _ w3 ⟨rfl,f3⟩
  by_cases hm:UY n28
  ·have raW:=raW.ext f3
   rw [decide_eq_true hm,Bool.not_true,cond_false]
   simp -zeta only [List.getElem?_cons_zero,List.getElem?_cons_succ,fA,fG,fC,raW.cell]
   have xx:=(e12.trans hx).trans f3
   refine MR (Zz (hsw.ext xx) (hpo.ext xx) (hst.ext xx) (Nat.le_trans lsw (by omega)) (Nat.le_trans lpo (by omega)) (Nat.le_trans lst (by omega))) ?_
   rintro _ w4 ⟨rfl,f4⟩
   exact hJ _ _ (f3.trans f4) (by cases wL (p0,p1,p2,p3,p4,p5,p6,p7,p8,p9,p10,p11,p12,p13,p14,p15,()) sw.len sl pl tl<;>simp [hm])
  ·rw [decide_eq_false hm,Bool.not_false,cond_true]
   exact hJ _ _ f3 (by simp [hm])
end Go.Proofs.CN
namespace Go.Proofs.CN
open Gp
set_option maxRecDepth 100000
theorem jR {n lo hi:Int} {w:World} {K:Bool->World->Prop} (h:lo<=n/\n<=hi->K true w) (h':¬(lo<=n/\n<=hi)->K false w):gG n lo hi w K:=by
 refine Us (adM n lo hi w) ?_
 rintro r w' ⟨hr,hw⟩
 subst hw
 by_cases hb:lo<=n/\n<=hi
 ·rw [decide_eq_true hb] at hr;subst hr;exact h hb
 ·rw [decide_eq_false hb] at hr;subst hr;exact h' hb
def Es (n20 n21 n22 n23 n24:Int):Prop:=(1<=n20/\n20<=4096)/\(1<=n21/\n21<=4096)/\(1<=n22/\n22<=4096)/\(0<=n23/\n23<=4096)/\(0<=n24/\n24<=67108864)
def G7 (n25 n26 n27 n28 n29:Int):Prop:=(1280<=n25/\n25<=65535)/\(1280<=n26/\n26<=65535)/\(1<=n27/\n27<=255)/\(n28=0\/(536<=n28/\n28<=65535))/\(0<=n29/\n29<=2)
def Ef (n30 n31 n32 n33 n34:Int):Prop:=(120<=n30/\n30<=1048576)/\(7440<=n31/\n31<=1048576)/\(240<=n32/\n32<=1048576)/\(60<=n33/\n33<=1048576)/\(1<=n34/\n34<=1048576)
def KW (n18 n19:Int):Prop:=(1<=n18/\n18<=65535)/\(n18<=n19/\n19<=65535)
structure Zg (n18 n19 n20 n21 n22 n23 n24 n25 n26 n27 n28 n29 n30 n31 n32 n33 n34:Int):Prop where
 rooms:Es n20 n21 n22 n23 n24
 ways:G7 n25 n26 n27 n28 n29
 waits:Ef n30 n31 n32 n33 n34
 ports:KW n18 n19
theorem WQ {p0 p1 p2 p3 p4 p5 p6 p7 p8 p9 p10 p11 p12 p13 p14 p15:Int} {sw po:b_} {n18 n19 n20 n21 n22 n23 n24 n25 n26 n27 n28 n29 n30 n31 n32 n33 n34:Int} {st:b_} (w:World):o_ p0 p1 p2 p3 p4 p5 p6 p7 p8 p9 p10 p11 p12 p13 p14 p15 sw po n18 n19 n20 n21 n22 n23 n24 n25 n26 n27 n28 n29 n30 n31 n32 n33 n34 st w fun r w'=>(r=true↔Zg n18 n19 n20 n21 n22 n23 n24 n25 n26 n27 n28 n29 n30 n31 n32 n33 n34)/\Ext w w':=by
 apply Ku
 refine fK fun a w1 ra ea z1 f1=> ?_
 simp -zeta only [sx,ra.cell]
 intro J4
 have hJ4:∀j5,(j5=true↔Es n20 n21 n22 n23 n24)->J4 j5 w1:=by
  intro j5 h5
  simp -zeta only [J4]
  simp -zeta only [List.getElem?_cons_zero,List.getElem?_cons_succ,fA,fC,ra.cell]
  intro J7
  have hJ7:∀j8,(j8=true↔G7 n25 n26 n27 n28 n29)->J7 j8 w1:=by
   intro j8 h8
   simp -zeta only [J7]
   simp -zeta only [List.getElem?_cons_zero,List.getElem?_cons_succ,fA,fC,ra.cell]
   intro J10
   have hJ10:∀j11,(j11=true↔Ef n30 n31 n32 n33 n34)->J10 j11 w1:=by
    intro j11 h11
    simp -zeta only [J10]
    intro J13
    have hJ13:∀j14,(j14=true↔(j5=true/\j8=true/\j11=true/\KW n18 n19))->J13 j14 w1:=by
     intro j14 h14
     simp -zeta only [J13]
     refine⟨h14.trans ?_,f1⟩
     rw [h5,h8,h11]
     exact⟨fun h=>⟨h.1,h.2.1,h.2.2.1,h.2.2.2⟩,fun h=>⟨h.rooms,h.ways,h.waits,h.ports⟩⟩
    clear_value J13
    cases j5
    ·rw [cond_false];exact hJ13 _ ⟨fun h=>(by cases h),fun h=>(by cases h.1)⟩
    cases j8
    ·rw [cond_true,cond_false];exact hJ13 _ ⟨fun h=>(by cases h),fun h=>(by cases h.2.1)⟩
    cases j11
    ·rw [cond_true,cond_true,cond_false];exact hJ13 _ ⟨fun h=>(by cases h),fun h=>(by cases h.2.2.1)⟩
    rw [cond_true,cond_true,cond_true]
    have hJ:∀j14,(j14=true↔KW n18 n19)->J13 j14 w1:=fun j h=>hJ13 j ⟨fun e=>⟨rfl,rfl,rfl,h.1 e⟩,fun e=>h.2 e.2.2.2⟩
    clear hJ13
    simp -zeta only [List.getElem?_cons_zero,List.getElem?_cons_succ,fA,fC,ra.cell]
    refine jR (fun h0=> ?_) (fun hn=> ?_)
    rotate_left
    ·rw [cond_false]
     exact hJ _ ⟨fun h=>(by cases h),fun h=>absurd (by unfold KW at h;omega) hn⟩
    rw [cond_true]
    try simp -zeta only [List.getElem?_cons_zero,List.getElem?_cons_succ,fA,fC,ra.cell]
    refine jR (fun h1=> ?_) (fun hn=> ?_)
    rotate_left
    exact hJ _ ⟨fun h=>(by cases h),fun h=>absurd (by unfold KW at h;omega) hn⟩
    exact hJ _ ⟨fun _=>(by unfold KW;omega),fun _=>rfl⟩
   clear_value J10
   refine jR (fun h0=> ?_) (fun hn=> ?_)
   rotate_left
   ·rw [cond_false]
    exact hJ10 _ ⟨fun h=>(by cases h),fun h=>absurd (by unfold Ef at h;omega) hn⟩
   rw [cond_true]
   try simp -zeta only [List.getElem?_cons_zero,List.getElem?_cons_succ,fA,fC,ra.cell]
   refine jR (fun h1=> ?_) (fun hn=> ?_)
   rotate_left
   ·rw [cond_false]
    exact hJ10 _ ⟨fun h=>(by cases h),fun h=>absurd (by unfold Ef at h;omega) hn⟩
   rw [cond_true]
   try simp -zeta only [List.getElem?_cons_zero,List.getElem?_cons_succ,fA,fC,ra.cell]
   refine jR (fun h2=> ?_) (fun hn=> ?_)
   rotate_left
   ·rw [cond_false]
    exact hJ10 _ ⟨fun h=>(by cases h),fun h=>absurd (by unfold Ef at h;omega) hn⟩
   rw [cond_true]
   try simp -zeta only [List.getElem?_cons_zero,List.getElem?_cons_succ,fA,fC,ra.cell]
   refine jR (fun h3=> ?_) (fun hn=> ?_)
   rotate_left
   ·rw [cond_false]
    exact hJ10 _ ⟨fun h=>(by cases h),fun h=>absurd (by unfold Ef at h;omega) hn⟩
   rw [cond_true]
   try simp -zeta only [List.getElem?_cons_zero,List.getElem?_cons_succ,fA,fC,ra.cell]
   refine jR (fun h4=> ?_) (fun hn=> ?_)
   rotate_left
   exact hJ10 _ ⟨fun h=>(by cases h),fun h=>absurd (by unfold Ef at h;omega) hn⟩
   exact hJ10 _ ⟨fun _=>(by unfold Ef;omega),fun _=>rfl⟩
  clear_value J7
  refine jR (fun h0=> ?_) (fun hn=> ?_)
  rotate_left
  ·rw [cond_false]
   exact hJ7 _ ⟨fun h=>(by cases h),fun h=>absurd (by unfold G7 at h;omega) hn⟩
  rw [cond_true]
  try simp -zeta only [List.getElem?_cons_zero,List.getElem?_cons_succ,fA,fC,ra.cell]
  refine jR (fun h1=> ?_) (fun hn=> ?_)
  rotate_left
  ·rw [cond_false]
   exact hJ7 _ ⟨fun h=>(by cases h),fun h=>absurd (by unfold G7 at h;omega) hn⟩
  rw [cond_true]
  try simp -zeta only [List.getElem?_cons_zero,List.getElem?_cons_succ,fA,fC,ra.cell]
  refine jR (fun h2=> ?_) (fun hn=> ?_)
  rotate_left
  ·rw [cond_false]
   exact hJ7 _ ⟨fun h=>(by cases h),fun h=>absurd (by unfold G7 at h;omega) hn⟩
  rw [cond_true]
  try simp -zeta only [List.getElem?_cons_zero,List.getElem?_cons_succ,fA,fC,ra.cell]
  by_cases hm:n28=0
  ·rw [show (n28==0)=true by simpa using hm,cond_true]
   try simp -zeta only [sx,ra.cell]
   refine jR (fun h3=> ?_) (fun hn=> ?_)
   rotate_left
   exact hJ7 _ ⟨fun h=>(by cases h),fun h=>absurd (by unfold G7 at h;omega) hn⟩
   exact hJ7 _ ⟨fun _=>(by unfold G7;omega),fun _=>rfl⟩
  rw [show (n28==0)=false by simpa using hm,cond_false]
  try simp -zeta only [sx,ra.cell]
  refine jR (fun h4=> ?_) (fun hn=> ?_)
  rotate_left
  ·rw [cond_false]
   exact hJ7 _ ⟨fun h=>(by cases h),fun h=>absurd (by unfold G7 at h;omega) hn⟩
  rw [cond_true]
  try simp -zeta only [List.getElem?_cons_zero,List.getElem?_cons_succ,fA,fC,ra.cell]
  refine jR (fun h5=> ?_) (fun hn=> ?_)
  rotate_left
  exact hJ7 _ ⟨fun h=>(by cases h),fun h=>absurd (by unfold G7 at h;omega) hn⟩
  exact hJ7 _ ⟨fun _=>(by unfold G7;omega),fun _=>rfl⟩
 clear_value J4
 refine jR (fun h0=> ?_) (fun hn=> ?_)
 rotate_left
 ·rw [cond_false]
  exact hJ4 _ ⟨fun h=>(by cases h),fun h=>absurd (by unfold Es at h;omega) hn⟩
 rw [cond_true]
 try simp -zeta only [List.getElem?_cons_zero,List.getElem?_cons_succ,fA,fC,ra.cell]
 refine jR (fun h1=> ?_) (fun hn=> ?_)
 rotate_left
 ·rw [cond_false]
  exact hJ4 _ ⟨fun h=>(by cases h),fun h=>absurd (by unfold Es at h;omega) hn⟩
 rw [cond_true]
 try simp -zeta only [List.getElem?_cons_zero,List.getElem?_cons_succ,fA,fC,ra.cell]
 refine jR (fun h2=> ?_) (fun hn=> ?_)
 rotate_left
 ·rw [cond_false]
  exact hJ4 _ ⟨fun h=>(by cases h),fun h=>absurd (by unfold Es at h;omega) hn⟩
 rw [cond_true]
 try simp -zeta only [List.getElem?_cons_zero,List.getElem?_cons_succ,fA,fC,ra.cell]
 refine jR (fun h3=> ?_) (fun hn=> ?_)
 rotate_left
 ·rw [cond_false]
  exact hJ4 _ ⟨fun h=>(by cases h),fun h=>absurd (by unfold Es at h;omega) hn⟩
 rw [cond_true]
 try simp -zeta only [List.getElem?_cons_zero,List.getElem?_cons_succ,fA,fC,ra.cell]
 refine jR (fun h4=> ?_) (fun hn=> ?_)
 rotate_left
 exact hJ4 _ ⟨fun h=>(by cases h),fun h=>absurd (by unfold Es at h;omega) hn⟩
 exact hJ4 _ ⟨fun _=>(by unfold Es;omega),fun _=>rfl⟩
theorem V9 {w:World} {p0 p1 p2 p3 p4 p5 p6 p7 p8 p9 p10 p11 p12 p13 p14 p15:Int} {sw po:b_} {n18 n19 n20 n21 n22 n23 n24 n25 n26 n27 n28 n29 n30 n31 n32 n33 n34:Int} {st:b_} (x:Int) {pl:List Int} (hpo:kH 1 eI w po pl) (hl:po.len<=2^62):
  vT p0 p1 p2 p3 p4 p5 p6 p7 p8 p9 p10 p11 p12 p13 p14 p15 sw po n18 n19 n20 n21 n22 n23 n24 n25 n26 n27 n28 n29 n30 n31 n32 n33 n34 st x w fun r w'=>r=decide (x∈pl)/\Ext w w':=by
 apply Qe
 refine fK fun a w1 ra ea z1 f1=> ?_
 have hpo:=hpo.ext f1
 have hlen:=hpo.len
 refine fE (fun st' W=>∃j:Nat,j<=pl.length/\st'.1=(j:Int)/\W=w1/\x∉pl.take j) (fun st' _=>(po.len - st'.1).toNat) ⟨0,by omega,rfl,rfl,by simp⟩ ?_
 rintro⟨i,⟨⟩⟩ W ⟨j,hj,hi,hw,hm⟩ next hnext
 simp only at hi
 subst hi;subst hw
 simp only [sx,ra.cell]
 by_cases hlt:(j:Int)<(po.len:Int)
 ·simp only [hlt,decide_true,cond_true]
  have hx:=List.getElem?_eq_getElem (show j<pl.length by omega)
  refine jg jB (by omega) hpo (by omega) (by rw [Int.toNat_natCast];exact hx) fun a hc=> ?_
  have c0:=hc 0 _ rfl
  rw [show a.add 0=a from rfl] at c0
  simp only [fA,fC,c0]
  by_cases he:pl[j]=x
  ·rw [show (pl[j]==x)=true by simpa using he,cond_true]
   exact⟨(decide_eq_true (by rw [<- he];exact List.getElem_mem _)).symm,f1⟩
  ·rw [show (pl[j]==x)=false by simpa using he,cond_false]
   rw [wrap_i64 (by omega) (by omega)]
   refine hnext _ _ ⟨j+1,by omega,by simp,rfl,?_⟩ (by simp only;omega)
   rw [Gp.Cfg.take_snoc hx,List.mem_append,List.mem_singleton]
   exact fun h=>h.elim hm fun e=>he e.symm
 ·simp only [hlt,decide_false,cond_false]
  rw [List.take_of_length_le (by omega)] at hm
  exact⟨(decide_eq_false hm).symm,f1⟩
theorem YE {w:World} {p0 p1 p2 p3 p4 p5 p6 p7 p8 p9 p10 p11 p12 p13 p14 p15:Int} {sw po:b_} {n18 n19 n20 n21 n22 n23 n24 n25 n26 n27 n28 n29 n30 n31 n32 n33 n34:Int} {st:b_} {q0 q1 q2 q3 q4 q5 q6:Int} {pl:List Int} (hsl:sw.len<=2^62) (hpo:kH 1 eI w po pl) (hpl:po.len<=2^62):
  qU p0 p1 p2 p3 p4 p5 p6 p7 p8 p9 p10 p11 p12 p13 p14 p15 sw po n18 n19 n20 n21 n22 n23 n24 n25 n26 n27 n28 n29 n30 n31 n32 n33 n34 st q0 q1 q2 q3 q4 q5 q6 w fun r w'=>(r=true↔BA sw.len pl (q0,q1,q2,q3,q4,q5,q6,()))/\Ext w w':=by
 apply Mc
 refine fK fun a w1 ra ea z1 f1=>fK fun b w2 rb eb z2 f2=> ?_
 have ra:=ra.ext f2
 have x2:=f1.trans f2
 clear f1 f2
 simp -zeta only [sx,rb.cell]
 intro J7
 have hJ7:∀j8,(j8=true↔(q1=1\/q1=6\/q1=17))->J7 j8:=by
  intro j8 h8
  simp -zeta only [J7]
  try simp -zeta only [sx,rb.cell]
  intro J9
  have hJ9:∀j10,(j10=true↔((0<=q3/\q3<=65535)/\(0<=q6/\q6<=65535)))->J9 j10 w2:=by
   intro j10 h10
   simp -zeta only [J9]
   intro J12
   have hJ12:∀j13 W,Ext w2 W->(j13=true↔(j8=true/\j10=true/\q4=q1/\(0<=q0/\q0<=(sw.len:Int) - 1)/\kX q2/\q5∈pl))->J12 j13 W:=by
    intro j13 W hx h13
    simp -zeta only [J12]
    refine⟨h13.trans ?_,x2.trans hx⟩
    rw [h8,h10]
    exact⟨fun⟨h1,h2,h3,h4,h5,h6⟩=>⟨h2,⟨h5,h6⟩,⟨h1,h3.symm⟩,h4⟩,fun⟨h2,h56,h13',h4⟩=>⟨h13'.1,h2,h13'.2.symm,h4,h56.1,h56.2⟩⟩
   clear_value J12
   cases j8
   ·rw [cond_false];exact hJ12 _ _ (Ext.refl _) ⟨fun h=>(by cases h),fun h=>(by cases h.1)⟩
   cases j10
   ·rw [cond_true,cond_false];exact hJ12 _ _ (Ext.refl _) ⟨fun h=>(by cases h),fun h=>(by cases h.2.1)⟩
   rw [cond_true,cond_true]
   try simp -zeta only [List.getElem?_cons_zero,List.getElem?_cons_succ,fA,fC,rb.cell]
   by_cases he:q4=q1
   rotate_left
   ·rw [show (q4==q1)=false by simpa using he,cond_false]
    exact hJ12 _ _ (Ext.refl _) ⟨fun h=>(by cases h),fun h=>absurd h.2.2.1 he⟩
   rw [show (q4==q1)=true by simpa using he,cond_true]
   have rb0:w2.cell? ⟨b,0,none⟩=some (.int .i64 q0):=rb.cell 0
   simp -zeta only [List.getElem?_cons_zero,List.getElem?_cons_succ,fA,fG,ra.cell]
   rw [wrap_i64 (by omega) (by omega)]
   refine jR (fun h4=> ?_) (fun hn=> ?_)
   rotate_left
   ·rw [cond_false]
    exact hJ12 _ _ (Ext.refl _) ⟨fun h=>(by cases h),fun h=>absurd h.2.2.2.1 hn⟩
   rw [cond_true]
   try simp -zeta only [List.getElem?_cons_zero,List.getElem?_cons_succ,fA,fC,rb.cell]
   refine G5 (LP _ _) ?_
   rintro _ w' ⟨rfl,hw⟩
   subst hw
   by_cases h5:kX q2
   rotate_left
   ·rw [decide_eq_false h5,cond_false]
    exact hJ12 _ _ (Ext.refl _) ⟨fun h=>(by cases h),fun h=>absurd h.2.2.2.2.1 h5⟩
   rw [decide_eq_true h5,cond_true]
   simp -zeta only [List.getElem?_cons_zero,List.getElem?_cons_succ,fA,fG,fC,ra.cell,rb.cell]
   refine Qj (V9 _ (hpo.ext x2) hpl) ?_
   rintro _ w' ⟨rfl,hf⟩
   exact hJ12 _ _ hf ⟨fun h=>⟨rfl,rfl,he,h4,h5,of_decide_eq_true h⟩,fun h=>decide_eq_true h.2.2.2.2.2⟩
  clear_value J9
  refine jR (fun h1=> ?_) (fun hn=> ?_)
  rotate_left
  ·rw [cond_false];exact hJ9 _ ⟨fun h=>(by cases h),fun h=>absurd h.1 hn⟩
  rw [cond_true]
  try simp -zeta only [List.getElem?_cons_zero,List.getElem?_cons_succ,fA,fC,rb.cell]
  refine jR (fun h2=> ?_) (fun hn=> ?_)
  ·exact hJ9 _ ⟨fun _=>⟨h1,h2⟩,fun _=>rfl⟩
  ·exact hJ9 _ ⟨fun h=>(by cases h),fun h=>absurd h.2 hn⟩
 clear_value J7
 by_cases h1:q1=1
 ·rw [show (q1==1)=true by simpa using h1,cond_true]
  exact hJ7 _ ⟨fun _=> .inl h1,fun _=>rfl⟩
 rw [show (q1==1)=false by simpa using h1,cond_false]
 try simp -zeta only [sx,rb.cell]
 by_cases h6:q1=6
 ·rw [show (q1==6)=true by simpa using h6,cond_true]
  exact hJ7 _ ⟨fun _=> .inr (.inl h6),fun _=>rfl⟩
 rw [show (q1==6)=false by simpa using h6,cond_false]
 try simp -zeta only [sx,rb.cell]
 exact hJ7 _ ⟨fun h=> .inr (.inr (by simpa using h)),fun h=>by rcases h with h|h|h;exact absurd h h1;exact absurd h h6;simpa using h⟩
end Go.Proofs.CN
namespace Go.Proofs.CN
open Gp
set_option maxRecDepth 100000
structure aax (p:oI) (ls lp lt n21:Int) (n:Nat) (sl:List oI) (pl:List Int) (tl:List T7):Prop where
 own:mV p=true
 nsw:1<=ls/\ls<=64
 npo:1<=lp/\lp<=16
 nst:lt<=64
 nbi:lt<=n21
 sws:∀x∈sl,mV x=true
 pos:∀x∈pl,kX x
 sts:∀x∈tl,BA n pl x
theorem JM {α:Type} {P:α->Prop} {l:List α} {j:Nat} {x:α} (hx:l[j]? =some x) (h:∀y∈l.take j,P y) (hp:P x):∀y∈l.take (j+1),P y:=by
 rw [Gp.Cfg.take_snoc hx]
 intro y hy
 rcases List.mem_append.1 hy with hy|hy
 ·exact h y hy
 ·rw [List.mem_singleton.1 hy];exact hp
theorem ZM {w:World} {p0 p1 p2 p3 p4 p5 p6 p7 p8 p9 p10 p11 p12 p13 p14 p15:Int} {sw po:b_} {n18 n19 n20 n21 n22 n23 n24 n25 n26 n27 n28 n29 n30 n31 n32 n33 n34:Int} {st:b_} {sl:List oI} {pl:List Int} {tl:List T7} (hsw:kH 16 e16 w sw sl) (hpo:kH 1 eI w po pl) (hst:kH 7 e7 w st tl) (lsw:sw.len<=2^40) (lpo:po.len<=2^40) (lst:st.len<=2^40):
  um p0 p1 p2 p3 p4 p5 p6 p7 p8 p9 p10 p11 p12 p13 p14 p15 sw po n18 n19 n20 n21 n22 n23 n24 n25 n26 n27 n28 n29 n30 n31 n32 n33 n34 st w fun r w'=>(r=true↔aax (p0,p1,p2,p3,p4,p5,p6,p7,p8,p9,p10,p11,p12,p13,p14,p15,()) sw.len po.len st.len n21 sw.len sl pl tl)/\Ext w w':=by
 apply NS
 refine fK fun a w1 ra ea z1 f1=> ?_
 simp -zeta only [sx,ra.cell]
 have hlsw:=hsw.len
 have hlpo:=hpo.len
 have hlst:=hst.len
 intro J4
 have hJ4:∀j5 W0,Ext w1 W0->(j5=false↔mV (p0,p1,p2,p3,p4,p5,p6,p7,p8,p9,p10,p11,p12,p13,p14,p15,())=true/\(1<=(sw.len:Int)/\(sw.len:Int)<=64)/\(1<=(po.len:Int)/\(po.len:Int)<=16)/\(st.len:Int)<=64/\(st.len:Int)<=n21)->J4 j5 W0:=by
  intro j5 W0 x0 h5
  simp -zeta only [J4]
  have x0:=f1.trans x0
  cases j5
  rotate_left
  ·rw [cond_true]
   exact⟨⟨fun h=>(by cases h),fun h=>(by cases h5.2 ⟨h.own,h.nsw,h.npo,h.nst,h.nbi⟩)⟩,x0⟩
  rw [cond_false]
  obtain⟨g1,g2,g3,g4,g5⟩:=h5.1 rfl
  clear h5
  refine fE (fun st' W=>∃j:Nat,j<=sl.length/\st'.1=(j:Int)/\Ext W0 W/\∀x∈sl.take j,mV x=true) (fun st' _=>(sl.length - st'.1).toNat) ⟨0,by omega,rfl,Ext.refl _,by simp⟩ ?_
  rintro⟨i,⟨⟩⟩ W ⟨j,hj,hi,hx,hall⟩ next hnext
  simp only at hi
  subst hi
  have xW:=x0.trans hx
  have raW:=(ra.ext (by assumption)).ext hx
  simp -zeta only [List.getElem?_cons_zero,List.getElem?_cons_succ,fA,fG,raW.cell]
  by_cases hlt:(j:Int)<(sw.len:Int)
  ·rw [decide_eq_true hlt,cond_true]
   have hxj:=List.getElem?_eq_getElem (show j<sl.length by omega)
   have hmem:=List.getElem_mem (show j<sl.length by omega)
   generalize sl[j]=x at hxj hmem
   have hsn:=JM hxj hall
   refine jg oW (by omega) (hsw.ext xW) (by omega) (by rw [Int.toNat_natCast];exact hxj) fun a' hc=> ?_
   obtain⟨x0,x1,x2,x3,x4,x5,x6,x7,x8,x9,x10,x11,x12,x13,x14,x15,⟨⟩⟩:=x
   have c0:W.cell? (a'.add 0)=some (.int .u8 x0):=hc 0 _ rfl;have c1:W.cell? (a'.add 1)=some (.int .u8 x1):=hc 1 _ rfl;have c2:W.cell? (a'.add 2)=some (.int .u8 x2):=hc 2 _ rfl;have c3:W.cell? (a'.add 3)=some (.int .u8 x3):=hc 3 _ rfl;have c4:W.cell? (a'.add 4)=some (.int .u8 x4):=hc 4 _ rfl;have c5:W.cell? (a'.add 5)=some (.int .u8 x5):=hc 5 _ rfl;have c6:W.cell? (a'.add 6)=some (.int .u8 x6):=hc 6 _ rfl;have c7:W.cell? (a'.add 7)=some (.int .u8 x7):=hc 7 _ rfl;have c8:W.cell? (a'.add 8)=some (.int .u8 x8):=hc 8 _ rfl;have c9:W.cell? (a'.add 9)=some (.int .u8 x9):=hc 9 _ rfl;have c10:W.cell? (a'.add 10)=some (.int .u8 x10):=hc 10 _ rfl;have c11:W.cell? (a'.add 11)=some (.int .u8 x11):=hc 11 _ rfl;have c12:W.cell? (a'.add 12)=some (.int .u8 x12):=hc 12 _ rfl;have c13:W.cell? (a'.add 13)=some (.int .u8 x13):=hc 13 _ rfl;have c14:W.cell? (a'.add 14)=some (.int .u8 x14):=hc 14 _ rfl;have c15:W.cell? (a'.add 15)=some (.int .u8 x15):=hc 15 _ rfl
   simp -zeta only [fA,fC,c0,c1,c2,c3,c4,c5,c6,c7,c8,c9,c10,c11,c12,c13,c14,c15]
   refine G8 (OC _) ?_
   rintro r w3 ⟨hr,f3⟩
   cases hh:mV (x0,x1,x2,x3,x4,x5,x6,x7,x8,x9,x10,x11,x12,x13,x14,x15,())
   ·rw [hh] at hr
    subst hr
    rw [Bool.not_false,cond_true]
    exact⟨⟨fun h=>(by cases h),fun h=>(by have:=h.sws _ hmem;rw [hh] at this;cases this)⟩,xW.trans f3⟩
   ·rw [hh] at hr
    subst hr
    rw [Bool.not_true,cond_false,wrap_i64 (by omega) (by omega)]
    exact hnext _ _ ⟨j+1,by omega,by simp,hx.trans f3,hsn hh⟩ (by simp only;omega)
  rw [decide_eq_false hlt,cond_false]
  rw [List.take_of_length_le (by omega)] at hall
  clear hnext
  refine fE (fun st' V=>∃j:Nat,j<=pl.length/\st'.1=(j:Int)/\Ext W V/\∀x∈pl.take j,kX x) (fun st' _=>(pl.length - st'.1).toNat) ⟨0,by omega,rfl,Ext.refl _,by simp⟩ ?_
  rintro⟨i,⟨⟩⟩ V ⟨k,hk,hi,hv,hall2⟩ next hnext
  simp only at hi
  subst hi
  have xV:=xW.trans hv
  have raV:=raW.ext hv
  simp -zeta only [List.getElem?_cons_zero,List.getElem?_cons_succ,fA,fG,raV.cell]
  by_cases hlt2:(k:Int)<(po.len:Int)
  ·rw [decide_eq_true hlt2,cond_true]
   have hxj:=List.getElem?_eq_getElem (show k<pl.length by omega)
   have hmem:=List.getElem_mem (show k<pl.length by omega)
   generalize pl[k]=x at hxj hmem
   have hsn:=JM hxj hall2
   refine jg jB (by omega) (hpo.ext xV) (by omega) (by rw [Int.toNat_natCast];exact hxj) fun a' hc=> ?_
   have c0:=hc 0 _ rfl
   rw [show a'.add 0=a' from rfl] at c0
   simp -zeta only [fA,fC,c0]
   refine G5 (LP _ _) ?_
   rintro r w3 ⟨hr,hw⟩
   subst hw
   by_cases hh:kX x
   ·rw [decide_eq_true hh] at hr
    subst hr
    rw [Bool.not_true,cond_false,wrap_i64 (by omega) (by omega)]
    exact hnext _ _ ⟨k+1,by omega,by simp,hv,hsn hh⟩ (by simp only;omega)
   ·rw [decide_eq_false hh] at hr
    subst hr
    rw [Bool.not_false,cond_true]
    exact⟨⟨fun h=>(by cases h),fun h=>absurd (h.pos _ hmem) hh⟩,xV⟩
  rw [decide_eq_false hlt2,cond_false]
  rw [List.take_of_length_le (by omega)] at hall2
  clear hnext
  refine fE (fun st' U=>∃j:Nat,j<=tl.length/\st'.1=(j:Int)/\Ext V U/\∀x∈tl.take j,BA sw.len pl x) (fun st' _=>(tl.length - st'.1).toNat) ⟨0,by omega,rfl,Ext.refl _,by simp⟩ ?_
  rintro⟨i,⟨⟩⟩ U ⟨m,hm,hi,hu,hall3⟩ next hnext
  simp only at hi
  subst hi
  have xU:=xV.trans hu
  have raU:=raV.ext hu
  have rdU:=raU.drew
  have dU:=xU.trans (Ext.drew U)
  simp -zeta only [List.getElem?_cons_zero,List.getElem?_cons_succ,fA,fG,raU.cell]
  by_cases hlt3:(m:Int)<(st.len:Int)
  ·rw [decide_eq_true hlt3,cond_true]
   have hxj:=List.getElem?_eq_getElem (show m<tl.length by omega)
   have hmem:=List.getElem_mem (show m<tl.length by omega)
   generalize tl[m]=x at hxj hmem
   have hsn:=JM hxj hall3
   simp -zeta only [List.getElem?_cons_zero,List.getElem?_cons_succ,fA,fG,fC,rdU.cell]
   refine jg vP (by omega) (hst.ext dU) (by omega) (by rw [Int.toNat_natCast];exact hxj) fun a' hc=> ?_
   obtain⟨x0,x1,x2,x3,x4,x5,x6,⟨⟩⟩:=x
   have c0:U.drew.cell? (a'.add 0)=some (.int .i64 x0):=hc 0 _ rfl;have c1:U.drew.cell? (a'.add 1)=some (.int .i64 x1):=hc 1 _ rfl;have c2:U.drew.cell? (a'.add 2)=some (.int .i64 x2):=hc 2 _ rfl;have c3:U.drew.cell? (a'.add 3)=some (.int .i64 x3):=hc 3 _ rfl;have c4:U.drew.cell? (a'.add 4)=some (.int .i64 x4):=hc 4 _ rfl;have c5:U.drew.cell? (a'.add 5)=some (.int .i64 x5):=hc 5 _ rfl;have c6:U.drew.cell? (a'.add 6)=some (.int .i64 x6):=hc 6 _ rfl
   simp -zeta only [fA,fC,c0,c1,c2,c3,c4,c5,c6]
   refine Md (YE (Nat.le_trans lsw (by omega)) (hpo.ext dU) (Nat.le_trans lpo (by omega))) ?_
   rintro r w3 ⟨hr,f3⟩
   cases r
   ·rw [Bool.not_false,cond_true]
    exact⟨⟨fun h=>(by cases h),fun h=>(by cases hr.2 (h.sts _ hmem))⟩,dU.trans f3⟩
   ·rw [Bool.not_true,cond_false,wrap_i64 (by omega) (by omega)]
    exact hnext _ _ ⟨m+1,by omega,by simp,(hu.trans (Ext.drew U)).trans f3,hsn (hr.1 rfl)⟩ (by simp only;omega)
  rw [decide_eq_false hlt3,cond_false]
  rw [List.take_of_length_le (by omega)] at hall3
  exact⟨⟨fun _=>⟨g1,g2,g3,g4,g5,hall,hall2,hall3⟩,fun _=>by trivial⟩,xU⟩
 clear_value J4
 refine G8 (OC _) ?_
 rintro r w3 ⟨hr,f3⟩
 cases hh:mV (p0,p1,p2,p3,p4,p5,p6,p7,p8,p9,p10,p11,p12,p13,p14,p15,())
 ·rw [hh] at hr
  subst hr
  rw [Bool.not_false,cond_true]
  exact hJ4 _ _ f3 ⟨fun h=>(by cases h),fun h=>(by rw [hh] at h;cases h.1)⟩
 rw [hh] at hr
 subst hr
 rw [Bool.not_true,cond_false]
 have ra3:=ra.ext f3
 simp -zeta only [List.getElem?_cons_zero,List.getElem?_cons_succ,fA,fG,ra3.cell]
 refine jR (fun h2=> ?_) (fun hn=> ?_)
 rotate_left
 ·rw [Bool.not_false,cond_true]
  exact hJ4 _ _ f3 ⟨fun h=>(by cases h),fun h=>absurd h.2.1 hn⟩
 rw [Bool.not_true,cond_false]
 try simp -zeta only [List.getElem?_cons_zero,List.getElem?_cons_succ,fA,fG,ra3.cell]
 refine jR (fun h3=> ?_) (fun hn=> ?_)
 rotate_left
 ·rw [Bool.not_false,cond_true]
  exact hJ4 _ _ f3 ⟨fun h=>(by cases h),fun h=>absurd h.2.2.1 hn⟩
 rw [Bool.not_true,cond_false]
 try simp -zeta only [List.getElem?_cons_zero,List.getElem?_cons_succ,fA,fG,fC,ra3.cell]
 by_cases h4:(st.len:Int)>64
 ·rw [decide_eq_true h4,cond_true]
  exact hJ4 _ _ f3 ⟨fun h=>(by cases h),fun h=>by have:=h.2.2.2.1;omega⟩
 rw [decide_eq_false h4,cond_false]
 try simp -zeta only [sx,ra3.cell]
 by_cases h5:(st.len:Int)>n21
 ·rw [decide_eq_true h5]
  exact hJ4 _ _ f3 ⟨fun h=>(by cases h),fun h=>by have:=h.2.2.2.2;omega⟩
 ·rw [decide_eq_false h5]
  exact hJ4 _ _ f3 ⟨fun _=>⟨hh,h2,h3,by omega,by omega⟩,fun _=>by trivial⟩
end Go.Proofs.CN
namespace Go.Proofs.CN
open Gp
set_option maxRecDepth 100000
theorem acn {a0 a1 a2 a3 a4 a5 a6 a7 a8 a9 a10 a11 a12 a13 a14 a15:Int} {b0 b1 b2 b3 b4 b5 b6 b7 b8 b9 b10 b11 b12 b13 b14 b15:Int} (c:Bool) (hc:c=((a0==b0) && ((a1==b1) && ((a2==b2) && ((a3==b3) && ((a4==b4) && ((a5==b5) && ((a6==b6) && ((a7==b7) && ((a8==b8) && ((a9==b9) && ((a10==b10) && ((a11==b11) && ((a12==b12) && ((a13==b13) && ((a14==b14) && ((a15==b15) && true))))))))))))))))):c=decide (((a0,a1,a2,a3,a4,a5,a6,a7,a8,a9,a10,a11,a12,a13,a14,a15,()):oI)=(b0,b1,b2,b3,b4,b5,b6,b7,b8,b9,b10,b11,b12,b13,b14,b15,())):=by
 subst hc
 simp [Qb,Bool.decide_and]
theorem aeo {a0 a1 a2 a3:Int} {b0 b1 b2 b3:Int} (c:Bool) (hc:c=((a0==b0) && ((a1==b1) && ((a2==b2) && ((a3==b3) && true))))):c=decide (((a0,a1,a2,a3,()):T4)=(b0,b1,b2,b3,())):=by
 subst hc
 simp [Qb,Bool.decide_and]
theorem aej {a0 a1 a2:Int} {b0 b1 b2:Int} (c:Bool) (hc:c=((a0==b0) && ((a1==b1) && ((a2==b2) && true)))):c=decide (((a0,a1,a2,()):T3)=(b0,b1,b2,())):=by
 subst hc
 simp [Qb,Bool.decide_and]
structure Xu (p:oI) (sl:List oI) (pl:List Int) (tl:List T7) (q:Int):Prop where
 sws:∀(i:Nat) x,sl[i]? =some x->x∉sl.take i/\x≠p
 pos:∀(i:Nat) x,pl[i]? =some x->x∉pl.take i
 sts:∀(i:Nat) x,tl[i]? =some x->Gp.Cfg.Fine mG nO DN q tl i x
theorem RS {α:Type} {P:Nat->α->Prop} {l:List α} {j:Nat} {x:α} (hx:l[j]? =some x) (h:∀(i:Nat) y,i<j->l[i]? =some y->P i y) (hp:P j x):∀(i:Nat) y,i<j+1->l[i]? =some y->P i y:=by
 intro i y hi hy
 by_cases he:i=j
 ·subst he
  rw [hx] at hy
  cases hy
  exact hp
 ·exact h i y (by omega) hy
theorem W9 {α:Type} {P:Nat->α->Prop} {l:List α} {j:Nat} (hj:l.length<=j) (h:∀(i:Nat) y,i<j->l[i]? =some y->P i y):∀(i:Nat) y,l[i]? =some y->P i y:=
 fun i y hy=>h i y (by have:=(List.getElem?_eq_some_iff.1 hy).1;omega) hy
theorem EM {α:Type} {l:List α} {k j:Nat} {x:α} (hx:l[k]? =some x) (h:k<j):x∈l.take j:=by
 obtain⟨h1,rfl⟩:=List.getElem?_eq_some_iff.1 hx
 exact List.mem_take_iff_getElem.2 ⟨k,by omega,rfl⟩
theorem U1 {w:World} {p0 p1 p2 p3 p4 p5 p6 p7 p8 p9 p10 p11 p12 p13 p14 p15:Int} {sw po:b_} {n18 n19 n20 n21 n22 n23 n24 n25 n26 n27 n28 n29 n30 n31 n32 n33 n34:Int} {st:b_} {sl:List oI} {pl:List Int} {tl:List T7} (hsw:kH 16 e16 w sw sl) (hpo:kH 1 eI w po pl) (hst:kH 7 e7 w st tl) (lsw:sw.len<=2^40) (lpo:po.len<=2^40) (lst:st.len<=2^40):
  uy p0 p1 p2 p3 p4 p5 p6 p7 p8 p9 p10 p11 p12 p13 p14 p15 sw po n18 n19 n20 n21 n22 n23 n24 n25 n26 n27 n28 n29 n30 n31 n32 n33 n34 st w fun r w'=>(r=true↔¬Xu (p0,p1,p2,p3,p4,p5,p6,p7,p8,p9,p10,p11,p12,p13,p14,p15,()) sl pl tl n20)/\Ext w w':=by
 apply OT
 refine fK fun a w1 ra ea z1 f1=> ?_
 have hlsw:=hsw.len
 have hlpo:=hpo.len
 have hlst:=hst.len
 refine fE (fun st' W=>∃j:Nat,j<=sl.length/\st'.1=(j:Int)/\Ext w1 W/\∀(i:Nat) x,i<j->sl[i]? =some x->x∉sl.take i/\x≠(p0,p1,p2,p3,p4,p5,p6,p7,p8,p9,p10,p11,p12,p13,p14,p15,())) (fun st' _=>(sl.length - st'.1).toNat) ⟨0,by omega,rfl,Ext.refl _,by omega⟩ ?_
 rintro⟨i,⟨⟩⟩ W ⟨j,hj,hi,hx,hall⟩ next hnext
 simp only at hi
 subst hi
 have xW:=f1.trans hx
 have raW:=ra.ext hx
 simp -zeta only [sx,raW.cell]
 by_cases hlt:(j:Int)<(sw.len:Int)
 ·rw [decide_eq_true hlt,cond_true]
  have hxj:=List.getElem?_eq_getElem (show j<sl.length by omega)
  generalize sl[j]=x at hxj
  refine fE (fun st' V=>∃k:Nat,k<=j/\st'.1=(k:Int)/\Ext W V/\x∉sl.take k) (fun st' _=>(j - st'.1).toNat) ⟨0,by omega,rfl,Ext.refl _,by simp⟩ ?_
  rintro⟨i,⟨⟩⟩ V ⟨k,hk,hi,hv,hno⟩ next2 hnext2
  simp only at hi
  subst hi
  have dV:=hv.trans (Ext.drew V)
  have xV:=xW.trans dV
  have raV:=raW.ext dV
  have hswV:=hsw.ext xV
  by_cases hlt2:(k:Int)<(j:Int)
  ·rw [decide_eq_true hlt2,cond_true]
   simp -zeta only [List.getElem?_cons_zero,List.getElem?_cons_succ,fA,fG,raV.cell]
   have hyk:=List.getElem?_eq_getElem (show k<sl.length by omega)
   generalize sl[k]=y at hyk
   refine jg oW (by omega) hswV (by omega) (by rw [Int.toNat_natCast];exact hyk) fun a' hc=> ?_
   obtain⟨y0,y1,y2,y3,y4,y5,y6,y7,y8,y9,y10,y11,y12,y13,y14,y15,⟨⟩⟩:=y
   have c0:V.drew.cell? (a'.add 0)=some (.int .u8 y0):=hc 0 _ rfl;have c1:V.drew.cell? (a'.add 1)=some (.int .u8 y1):=hc 1 _ rfl;have c2:V.drew.cell? (a'.add 2)=some (.int .u8 y2):=hc 2 _ rfl;have c3:V.drew.cell? (a'.add 3)=some (.int .u8 y3):=hc 3 _ rfl;have c4:V.drew.cell? (a'.add 4)=some (.int .u8 y4):=hc 4 _ rfl;have c5:V.drew.cell? (a'.add 5)=some (.int .u8 y5):=hc 5 _ rfl;have c6:V.drew.cell? (a'.add 6)=some (.int .u8 y6):=hc 6 _ rfl;have c7:V.drew.cell? (a'.add 7)=some (.int .u8 y7):=hc 7 _ rfl;have c8:V.drew.cell? (a'.add 8)=some (.int .u8 y8):=hc 8 _ rfl;have c9:V.drew.cell? (a'.add 9)=some (.int .u8 y9):=hc 9 _ rfl;have c10:V.drew.cell? (a'.add 10)=some (.int .u8 y10):=hc 10 _ rfl;have c11:V.drew.cell? (a'.add 11)=some (.int .u8 y11):=hc 11 _ rfl;have c12:V.drew.cell? (a'.add 12)=some (.int .u8 y12):=hc 12 _ rfl;have c13:V.drew.cell? (a'.add 13)=some (.int .u8 y13):=hc 13 _ rfl;have c14:V.drew.cell? (a'.add 14)=some (.int .u8 y14):=hc 14 _ rfl;have c15:V.drew.cell? (a'.add 15)=some (.int .u8 y15):=hc 15 _ rfl
   simp -zeta only [fA,fC,c0,c1,c2,c3,c4,c5,c6,c7,c8,c9,c10,c11,c12,c13,c14,c15]
   refine jg oW (by omega) hswV (by omega) (by rw [Int.toNat_natCast];exact hxj) fun a'' hd=> ?_
   obtain⟨x0,x1,x2,x3,x4,x5,x6,x7,x8,x9,x10,x11,x12,x13,x14,x15,⟨⟩⟩:=x
   have d0:V.drew.cell? (a''.add 0)=some (.int .u8 x0):=hd 0 _ rfl;have d1:V.drew.cell? (a''.add 1)=some (.int .u8 x1):=hd 1 _ rfl;have d2:V.drew.cell? (a''.add 2)=some (.int .u8 x2):=hd 2 _ rfl;have d3:V.drew.cell? (a''.add 3)=some (.int .u8 x3):=hd 3 _ rfl;have d4:V.drew.cell? (a''.add 4)=some (.int .u8 x4):=hd 4 _ rfl;have d5:V.drew.cell? (a''.add 5)=some (.int .u8 x5):=hd 5 _ rfl;have d6:V.drew.cell? (a''.add 6)=some (.int .u8 x6):=hd 6 _ rfl;have d7:V.drew.cell? (a''.add 7)=some (.int .u8 x7):=hd 7 _ rfl;have d8:V.drew.cell? (a''.add 8)=some (.int .u8 x8):=hd 8 _ rfl;have d9:V.drew.cell? (a''.add 9)=some (.int .u8 x9):=hd 9 _ rfl;have d10:V.drew.cell? (a''.add 10)=some (.int .u8 x10):=hd 10 _ rfl;have d11:V.drew.cell? (a''.add 11)=some (.int .u8 x11):=hd 11 _ rfl;have d12:V.drew.cell? (a''.add 12)=some (.int .u8 x12):=hd 12 _ rfl;have d13:V.drew.cell? (a''.add 13)=some (.int .u8 x13):=hd 13 _ rfl;have d14:V.drew.cell? (a''.add 14)=some (.int .u8 x14):=hd 14 _ rfl;have d15:V.drew.cell? (a''.add 15)=some (.int .u8 x15):=hd 15 _ rfl
   simp -zeta only [fA,fC,d0,d1,d2,d3,d4,d5,d6,d7,d8,d9,d10,d11,d12,d13,d14,d15]
   rw [acn _ rfl]
   by_cases he:((y0,y1,y2,y3,y4,y5,y6,y7,y8,y9,y10,y11,y12,y13,y14,y15,()):oI)=(x0,x1,x2,x3,x4,x5,x6,x7,x8,x9,x10,x11,x12,x13,x14,x15,())
   ·rw [decide_eq_true he,cond_true]
    refine⟨⟨fun _ h=> ?_,fun _=>by trivial⟩,xV⟩
    exact(h.sws j _ hxj).1 (he ▸ EM hyk (by omega))
   ·rw [decide_eq_false he,cond_false,wrap_i64 (by omega) (by omega)]
    refine hnext2 _ _ ⟨k+1,by omega,by simp,dV,?_⟩ (by simp only;omega)
    rw [Gp.Cfg.take_snoc hyk]
    intro hm
    rcases List.mem_append.1 hm with hm|hm
    ·exact hno hm
    ·exact he (List.mem_singleton.1 hm).symm
  ·have hkj:k=j:=by omega
   subst hkj
   rw [decide_eq_false hlt2,cond_false]
   simp -zeta only [List.getElem?_cons_zero,List.getElem?_cons_succ,fA,fG,fC,raV.cell]
   refine jg oW (by omega) hswV (by omega) (by rw [Int.toNat_natCast];exact hxj) fun a'' hd=> ?_
   obtain⟨x0,x1,x2,x3,x4,x5,x6,x7,x8,x9,x10,x11,x12,x13,x14,x15,⟨⟩⟩:=x
   have d0:V.drew.cell? (a''.add 0)=some (.int .u8 x0):=hd 0 _ rfl;have d1:V.drew.cell? (a''.add 1)=some (.int .u8 x1):=hd 1 _ rfl;have d2:V.drew.cell? (a''.add 2)=some (.int .u8 x2):=hd 2 _ rfl;have d3:V.drew.cell? (a''.add 3)=some (.int .u8 x3):=hd 3 _ rfl;have d4:V.drew.cell? (a''.add 4)=some (.int .u8 x4):=hd 4 _ rfl;have d5:V.drew.cell? (a''.add 5)=some (.int .u8 x5):=hd 5 _ rfl;have d6:V.drew.cell? (a''.add 6)=some (.int .u8 x6):=hd 6 _ rfl;have d7:V.drew.cell? (a''.add 7)=some (.int .u8 x7):=hd 7 _ rfl;have d8:V.drew.cell? (a''.add 8)=some (.int .u8 x8):=hd 8 _ rfl;have d9:V.drew.cell? (a''.add 9)=some (.int .u8 x9):=hd 9 _ rfl;have d10:V.drew.cell? (a''.add 10)=some (.int .u8 x10):=hd 10 _ rfl;have d11:V.drew.cell? (a''.add 11)=some (.int .u8 x11):=hd 11 _ rfl;have d12:V.drew.cell? (a''.add 12)=some (.int .u8 x12):=hd 12 _ rfl;have d13:V.drew.cell? (a''.add 13)=some (.int .u8 x13):=hd 13 _ rfl;have d14:V.drew.cell? (a''.add 14)=some (.int .u8 x14):=hd 14 _ rfl;have d15:V.drew.cell? (a''.add 15)=some (.int .u8 x15):=hd 15 _ rfl
   simp -zeta only [fA,fC,d0,d1,d2,d3,d4,d5,d6,d7,d8,d9,d10,d11,d12,d13,d14,d15]
   rw [acn _ rfl]
   by_cases he:((x0,x1,x2,x3,x4,x5,x6,x7,x8,x9,x10,x11,x12,x13,x14,x15,()):oI)=(p0,p1,p2,p3,p4,p5,p6,p7,p8,p9,p10,p11,p12,p13,p14,p15,())
   ·rw [decide_eq_true he,cond_true]
    exact⟨⟨fun _ h=>(h.sws _ _ hxj).2 he,fun _=>by trivial⟩,xV⟩
   ·rw [decide_eq_false he,cond_false,wrap_i64 (by omega) (by omega)]
    exact hnext _ _ ⟨k+1,by omega,by simp,hx.trans dV,RS hxj hall ⟨hno,he⟩⟩ (by simp only;omega)
 rw [decide_eq_false hlt,cond_false]
 have hall:=W9 (by omega) hall
 clear hnext
 refine fE (fun st' V=>∃j:Nat,j<=pl.length/\st'.1=(j:Int)/\Ext W V/\∀(i:Nat) x,i<j->pl[i]? =some x->x∉pl.take i) (fun st' _=>(pl.length - st'.1).toNat) ⟨0,by omega,rfl,Ext.refl _,by omega⟩ ?_
 rintro⟨i,⟨⟩⟩ V ⟨j2,hj2,hi,hv,hall2⟩ next hnext
 simp only at hi
 subst hi
 have xV:=xW.trans hv
 have raV:=raW.ext hv
 simp -zeta only [List.getElem?_cons_zero,List.getElem?_cons_succ,fA,fG,raV.cell]
 by_cases hlt2:(j2:Int)<(po.len:Int)
 ·rw [decide_eq_true hlt2,cond_true]
  have hxj:=List.getElem?_eq_getElem (show j2<pl.length by omega)
  generalize pl[j2]=x at hxj
  refine fE (fun st' U=>∃k:Nat,k<=j2/\st'.1=(k:Int)/\Ext V U/\x∉pl.take k) (fun st' _=>(j2 - st'.1).toNat) ⟨0,by omega,rfl,Ext.refl _,by simp⟩ ?_
  rintro⟨i,⟨⟩⟩ U ⟨k,hk,hi,hu,hno⟩ next2 hnext2
  simp only at hi
  subst hi
  by_cases hlt3:(k:Int)<(j2:Int)
  ·have dU:=hu.trans (Ext.drew U)
   have xU:=xV.trans dU
   have raU:=raV.ext dU
   have hpoU:=hpo.ext xU
   rw [decide_eq_true hlt3,cond_true]
   simp -zeta only [List.getElem?_cons_zero,List.getElem?_cons_succ,fA,fG,raU.cell]
   have hyk:=List.getElem?_eq_getElem (show k<pl.length by omega)
   generalize pl[k]=y at hyk
   refine jg jB (by omega) hpoU (by omega) (by rw [Int.toNat_natCast];exact hyk) fun a' hc=> ?_
   have c0:=hc 0 _ rfl
   rw [show a'.add 0=a' from rfl] at c0
   simp -zeta only [fA,fC,c0]
   refine jg jB (by omega) hpoU (by omega) (by rw [Int.toNat_natCast];exact hxj) fun a'' hd=> ?_
   have d0:=hd 0 _ rfl
   rw [show a''.add 0=a'' from rfl] at d0
   simp -zeta only [fA,fC,d0]
   rw [Qb]
   by_cases he:y=x
   ·rw [decide_eq_true he,cond_true]
    refine⟨⟨fun _ h=> ?_,fun _=>by trivial⟩,xU⟩
    exact h.pos j2 _ hxj (he ▸ EM hyk (by omega))
   ·rw [decide_eq_false he,cond_false,wrap_i64 (by omega) (by omega)]
    refine hnext2 _ _ ⟨k+1,by omega,by simp,dU,?_⟩ (by simp only;omega)
    rw [Gp.Cfg.take_snoc hyk]
    intro hm
    rcases List.mem_append.1 hm with hm|hm
    ·exact hno hm
    ·exact he (List.mem_singleton.1 hm).symm
  ·have hkj:k=j2:=by omega
   subst hkj
   rw [decide_eq_false hlt3,cond_false,wrap_i64 (by omega) (by omega)]
   exact hnext _ _ ⟨k+1,by omega,by simp,hv.trans hu,RS hxj hall2 hno⟩ (by simp only;omega)
 rw [decide_eq_false hlt2,cond_false]
 have hall2:=W9 (by omega) hall2
 clear hnext
 refine fE (fun st' U=>∃j:Nat,j<=tl.length/\st'.1=(j:Int)/\Ext V U/\∀(i:Nat) x,i<j->tl[i]? =some x->Gp.Cfg.Fine mG nO DN n20 tl i x) (fun st' _=>(tl.length - st'.1).toNat) ⟨0,by omega,rfl,Ext.refl _,by omega⟩ ?_
 rintro⟨i,⟨⟩⟩ U ⟨j3,hj3,hi,hu,hall3⟩ next hnext
 simp only at hi
 subst hi
 have xU:=xV.trans hu
 have raU:=raV.ext hu
 simp -zeta only [List.getElem?_cons_zero,List.getElem?_cons_succ,fA,fG,raU.cell]
 by_cases hlt3:(j3:Int)<(st.len:Int)
 ·rw [decide_eq_true hlt3,cond_true]
  have hxj:=List.getElem?_eq_getElem (show j3<tl.length by omega)
  generalize tl[j3]=x at hxj
  refine fE (fun st' T=>∃k:Nat,k<=j3/\st'.2.1=(k:Int)/\st'.1=1+(((tl.take k).countP fun y=>DN y==DN x:Nat):Int)/\Ext U T/\∀y∈tl.take k,mG y≠mG x/\nO y≠nO x) (fun st' _=>(j3 - st'.2.1).toNat) ⟨0,by omega,rfl,by simp,Ext.refl _,by simp⟩ ?_
  rintro⟨n,i,⟨⟩⟩ T ⟨k,hk,hi,hn,ht,hone⟩ next2 hnext2
  simp only at hi hn
  subst hi
  by_cases hlt4:(k:Int)<(j3:Int)
  ·have dT:=ht.trans (Ext.drew T)
   have xT:=xU.trans dT
   have raT:=raU.ext dT
   rw [decide_eq_true hlt4,cond_true]
   have hyk:=List.getElem?_eq_getElem (show k<tl.length by omega)
   generalize tl[k]=y at hyk
   have hcl:(tl.take k).countP (fun y=>DN y==DN x)<=tl.length:=Nat.le_trans (List.countP_le_length) (by simp;omega)
   have hcnt:(tl.take (k+1)).countP (fun z=>DN z==DN x)=(tl.take k).countP (fun z=>DN z==DN x)+if DN y=DN x then 1 else 0:=by
    rw [Gp.Cfg.take_snoc hyk,List.countP_append,List.countP_singleton]
    congr 1
    by_cases h:DN y=DN x<;>simp [h]
   have hsn:=JM (P:=fun y=>mG y≠mG x/\nO y≠nO x) hyk hone
   intro J101
   have hJ101:∀n' T',Ext T.drew T'->n'=1+(((tl.take (k+1)).countP fun y=>DN y==DN x:Nat):Int)->(mG y≠mG x/\nO y≠nO x)->J101 n' T':=by
    intro n' T' hT hn' ho
    simp -zeta only [J101]
    rw [wrap_i64 (by omega) (by omega)]
    exact hnext2 _ _ ⟨k+1,by omega,by simp,hn',dT.trans hT,hsn ho⟩ (by simp only;omega)
   clear_value J101
   intro J104
   have hJ104:∀b T',Ext T.drew T'->(b=true↔¬(mG y≠mG x/\nO y≠nO x))->J104 b T':=by
    intro b T' hT hb
    simp -zeta only [J104]
    have xT':=xT.trans hT
    cases b
    ·have ho:mG y≠mG x/\nO y≠nO x:=by
      by_cases h:mG y≠mG x/\nO y≠nO x
      ·exact h
      ·exact absurd (hb.2 h) (by simp)
     rw [cond_false]
     have hT2:=hT.trans (Ext.drew T')
     have raT':=raT.ext hT2
     have hstT:=hst.ext (xT.trans hT2)
     simp -zeta only [List.getElem?_cons_zero,List.getElem?_cons_succ,fA,fG,raT'.cell]
     refine jg vP (by omega) hstT (by omega) (by rw [Int.toNat_natCast];exact hyk) fun a' hc=> ?_
     have c0:T'.drew.cell? (a'.add 0)=some (.int .i64 (DN y)):=by obtain⟨y0,y1,y2,y3,y4,y5,y6,⟨⟩⟩:=y;exact hc 0 _ rfl
     rw [show a'.add 0=a' from rfl] at c0
     simp -zeta only [fA,fC,c0]
     refine jg vP (by omega) hstT (by omega) (by rw [Int.toNat_natCast];exact hxj) fun a'' hd=> ?_
     have d0:T'.drew.cell? (a''.add 0)=some (.int .i64 (DN x)):=by obtain⟨x0,x1,x2,x3,x4,x5,x6,⟨⟩⟩:=x;exact hd 0 _ rfl
     rw [show a''.add 0=a'' from rfl] at d0
     simp -zeta only [fA,fC,d0]
     rw [Qb]
     by_cases he:DN y=DN x
     ·rw [if_pos he] at hcnt
      rw [decide_eq_true he,cond_true,wrap_i64 (by omega) (by omega)]
      exact hJ101 _ _ hT2 (by rw [hcnt,hn];omega) ho
     ·rw [if_neg he] at hcnt
      rw [decide_eq_false he,cond_false]
      exact hJ101 _ _ hT2 (by rw [hcnt,hn];omega) ho
    ·rw [cond_true]
     exact⟨⟨fun _ h=>(hb.1 rfl) ((h.sts j3 _ hxj).one y (EM hyk (by omega))),fun _=>by trivial⟩,xT'⟩
   clear_value J104
   have hstT:=hst.ext xT
   simp -zeta only [List.getElem?_cons_zero,List.getElem?_cons_succ,fA,fG,raT.cell]
   refine jg vP (by omega) hstT (by omega) (by rw [Int.toNat_natCast];exact hyk) fun a' hc=> ?_
   obtain⟨y0,y1,y2,y3,y4,y5,y6,⟨⟩⟩:=y
   have c0:T.drew.cell? (a'.add 0)=some (.int .i64 y0):=hc 0 _ rfl;have c1:T.drew.cell? (a'.add 1)=some (.int .i64 y1):=hc 1 _ rfl;have c2:T.drew.cell? (a'.add 2)=some (.int .i64 y2):=hc 2 _ rfl;have c3:T.drew.cell? (a'.add 3)=some (.int .i64 y3):=hc 3 _ rfl;have c4:T.drew.cell? (a'.add 4)=some (.int .i64 y4):=hc 4 _ rfl;have c5:T.drew.cell? (a'.add 5)=some (.int .i64 y5):=hc 5 _ rfl;have c6:T.drew.cell? (a'.add 6)=some (.int .i64 y6):=hc 6 _ rfl
   simp -zeta only [fA,fC,c0,c1,c2,c3]
   refine jg vP (by omega) hstT (by omega) (by rw [Int.toNat_natCast];exact hxj) fun a'' hd=> ?_
   obtain⟨x0,x1,x2,x3,x4,x5,x6,⟨⟩⟩:=x
   have d0:T.drew.cell? (a''.add 0)=some (.int .i64 x0):=hd 0 _ rfl;have d1:T.drew.cell? (a''.add 1)=some (.int .i64 x1):=hd 1 _ rfl;have d2:T.drew.cell? (a''.add 2)=some (.int .i64 x2):=hd 2 _ rfl;have d3:T.drew.cell? (a''.add 3)=some (.int .i64 x3):=hd 3 _ rfl;have d4:T.drew.cell? (a''.add 4)=some (.int .i64 x4):=hd 4 _ rfl;have d5:T.drew.cell? (a''.add 5)=some (.int .i64 x5):=hd 5 _ rfl;have d6:T.drew.cell? (a''.add 6)=some (.int .i64 x6):=hd 6 _ rfl
   simp -zeta only [fA,fC,d0,d1,d2,d3]
   rw [aeo _ rfl]
   by_cases he:((y0,y1,y2,y3,()):T4)=(x0,x1,x2,x3,())
   ·rw [decide_eq_true he,cond_true]
    exact hJ104 _ _ (Ext.refl _) ⟨fun _ h=>h.1 he,fun _=>rfl⟩
   rw [decide_eq_false he,cond_false]
   try simp -zeta only [sx,raT.cell]
   refine jg vP (by omega) hstT (by omega) (by rw [Int.toNat_natCast];exact hyk) fun b' hc=> ?_
   have c4:T.drew.cell? ((b'.add 4).add 0)=some (.int .i64 y4):=hc 4 _ rfl
   have c5:T.drew.cell? ((b'.add 4).add 1)=some (.int .i64 y5):=hc 5 _ rfl
   have c6:T.drew.cell? ((b'.add 4).add 2)=some (.int .i64 y6):=hc 6 _ rfl
   simp -zeta only [fA,fC,c4,c5,c6]
   refine jg vP (by omega) hstT (by omega) (by rw [Int.toNat_natCast];exact hxj) fun b'' hd=> ?_
   have d4:T.drew.cell? ((b''.add 4).add 0)=some (.int .i64 x4):=hd 4 _ rfl
   have d5:T.drew.cell? ((b''.add 4).add 1)=some (.int .i64 x5):=hd 5 _ rfl
   have d6:T.drew.cell? ((b''.add 4).add 2)=some (.int .i64 x6):=hd 6 _ rfl
   simp -zeta only [fA,fC,d4,d5,d6]
   rw [aej _ rfl]
   refine hJ104 _ _ (Ext.refl _) ?_
   by_cases ho:((y4,y5,y6,()):T3)=(x4,x5,x6,())
   ·rw [decide_eq_true ho]
    exact⟨fun _ h=>h.2 ho,fun _=>rfl⟩
   ·rw [decide_eq_false ho]
    exact⟨fun h=>(by cases h),fun h=>absurd ⟨he,ho⟩ h⟩
  ·have hkj:k=j3:=by omega
   subst hkj
   have raT:=raU.ext ht
   rw [decide_eq_false hlt4,cond_false]
   simp -zeta only [List.getElem?_cons_zero,List.getElem?_cons_succ,fA,fC,raT.cell]
   by_cases hq:n>n20
   ·rw [decide_eq_true hq,cond_true]
    exact⟨⟨fun _ h=>by have:=(h.sts _ _ hxj).few;omega,fun _=>by trivial⟩,xU.trans ht⟩
   ·rw [decide_eq_false hq,cond_false,wrap_i64 (by omega) (by omega)]
    exact hnext _ _ ⟨k+1,by omega,by simp,hu.trans ht,RS hxj hall3 ⟨hone,by omega⟩⟩ (by simp only;omega)
 rw [decide_eq_false hlt3,cond_false]
 have hall3:=W9 (by omega) hall3
 exact⟨⟨fun h=>(by cases h),fun h=>absurd ⟨hall,hall2,hall3⟩ h⟩,xU⟩
end Go.Proofs.CN
namespace Go.Proofs.CN
open Gp
set_option maxRecDepth 100000
theorem Vt {ls lp lt n18 n19 n20 n21 n22 n23 n24 n25 n26 n27 n28 n29 n30 n31 n32 n33 n34:Int} (h0:0<=lt):
  ((∀b∈WL ls lp lt n18 n19 n20 n21 n22 n23 n24 n25 n26 n27 n29 n30 n31 n32 n33 n34,okB b)/\UY n28)↔
   (Zg n18 n19 n20 n21 n22 n23 n24 n25 n26 n27 n28 n29 n30 n31 n32 n33 n34/\(1<=ls/\ls<=64)/\(1<=lp/\lp<=16)/\lt<=64/\lt<=n21):=by
 unfold WL
 simp only [List.forall_mem_cons,okB]
 constructor
 ·rintro⟨⟨a1,a2,a3,a4,a5,a6,a7,a8,a9,a10,a11,a12,a13,a14,a15,a16,a17,a18,a19,_⟩,m⟩
  refine⟨⟨⟨a6,a7,a8,a9,a10⟩,⟨a11,a12,a13,m,a14⟩,⟨a15,a16,a17,a18,a19⟩,⟨a4,a5⟩⟩,a1,a2,?_⟩
  have h3:=a3.2
  by_cases h:n21<64
  ·rw [if_pos h] at h3;omega
  ·rw [if_neg h] at h3;omega
 ·rintro⟨⟨⟨a6,a7,a8,a9,a10⟩,⟨a11,a12,a13,m,a14⟩,⟨a15,a16,a17,a18,a19⟩,⟨a4,a5⟩⟩,a1,a2,h1,h2⟩
  refine⟨⟨a1,a2,⟨h0,?_⟩,a4,a5,a6,a7,a8,a9,a10,a11,a12,a13,a14,a15,a16,a17,a18,a19,by simp⟩,m⟩
  by_cases h:n21<64
  ·rw [if_pos h];omega
  ·rw [if_neg h];omega
theorem QK {p:oI} {n:Nat} {sl:List oI} {pl:List Int} {tl:List T7}:
  wL p n sl pl tl=true↔(mV p=true/\(∀x∈sl,mV x=true)/\(∀x∈pl,kX x)/\(∀x∈tl,BA n pl x)):=by
 unfold wL
 simp only [Bool.and_eq_true,Bool.not_eq_true',List.any_eq_false,Bool.not_eq_false,decide_eq_true_eq]
theorem TR {p:oI} {ls lp lt n18 n19 n20 n21 n22 n23 n24 n25 n26 n27 n28 n29 n30 n31 n32 n33 n34:Int} {n:Nat} {sl:List oI} {pl:List Int} {tl:List T7} (h0:0<=lt):
  OkP p ls lp lt n18 n19 n20 n21 n22 n23 n24 n25 n26 n27 n28 n29 n30 n31 n32 n33 n34 n sl pl tl↔
   (Zg n18 n19 n20 n21 n22 n23 n24 n25 n26 n27 n28 n29 n30 n31 n32 n33 n34/\aax p ls lp lt n21 n sl pl tl):=by
 constructor
 ·rintro⟨h1,h2,h3⟩
  obtain⟨h4,h5,h6,h7,h8⟩:=(Vt h0).1 ⟨h1,h2⟩
  obtain⟨g1,g2,g3,g4⟩:=QK.1 h3
  exact⟨h4,g1,h5,h6,h7,h8,g2,g3,g4⟩
 ·rintro⟨h4,g1,h5,h6,h7,h8,g2,g3,g4⟩
  obtain⟨h1,h2⟩:=(Vt h0).2 ⟨h4,h5,h6,h7,h8⟩
  exact⟨h1,h2,QK.2 ⟨g1,g2,g3,g4⟩⟩
theorem UR {p:oI} {sl:List oI} {pl:List Int} {tl:List T7} {n:Nat} {q:Int} (hq:1<=q) (hr:∀x∈tl,0<=DN x/\DN x<(n:Int)):
  Xu p sl pl tl q↔Dv p sl pl tl n q:=by
 unfold Dv
 rw [Gp.Cfg.zH]
 constructor
 ·rintro⟨h1,h2,h3⟩
  obtain⟨g1,g2,g3⟩:=(Gp.Cfg.Uw (fi:=mG) (fo:=nO) DN hq hr).1 h3
  refine⟨⟨Gp.Cfg.nH.2 fun i x hx=>(h1 i x hx).1,fun hm=> ?_⟩,Gp.Cfg.nH.2 h2,g1,g2,g3⟩
  obtain⟨i,hi,he⟩:=List.mem_iff_getElem.1 hm
  exact(h1 i p (by rw [List.getElem?_eq_getElem hi,he])).2 rfl
 ·rintro⟨⟨h1,h1'⟩,h2,g1,g2,g3⟩
  refine⟨fun i x hx=>⟨Gp.Cfg.nH.1 h1 i x hx,fun e=>h1' (e ▸ List.mem_of_getElem? hx)⟩,Gp.Cfg.nH.1 h2,(Gp.Cfg.Uw DN hq hr).2 ⟨g1,g2,g3⟩⟩
def chk (p:oI) (ls lp lt n18 n19 n20 n21 n22 n23 n24 n25 n26 n27 n28 n29 n30 n31 n32 n33 n34:Int) (n:Nat) (sl:List oI) (pl:List Int) (tl:List T7) (r:Int):Prop:=
 (¬OkP p ls lp lt n18 n19 n20 n21 n22 n23 n24 n25 n26 n27 n28 n29 n30 n31 n32 n33 n34 n sl pl tl/\r=1)\/
   (OkP p ls lp lt n18 n19 n20 n21 n22 n23 n24 n25 n26 n27 n28 n29 n30 n31 n32 n33 n34 n sl pl tl/\((¬Dv p sl pl tl n n20/\r=9)\/(Dv p sl pl tl n n20/\r=0)))
theorem XO {p:oI} {ls lp lt n18 n19 n20 n21 n22 n23 n24 n25 n26 n27 n28 n29 n30 n31 n32 n33 n34:Int} {n:Nat} {sl:List oI} {pl:List Int} {tl:List T7} {r r':Int}
  (h:chk p ls lp lt n18 n19 n20 n21 n22 n23 n24 n25 n26 n27 n28 n29 n30 n31 n32 n33 n34 n sl pl tl r) (h':chk p ls lp lt n18 n19 n20 n21 n22 n23 n24 n25 n26 n27 n28 n29 n30 n31 n32 n33 n34 n sl pl tl r'):r=r':=by
 rcases h with ⟨h1,rfl⟩|⟨h1,⟨h2,rfl⟩|⟨h2,rfl⟩⟩<;>rcases h' with ⟨g1,rfl⟩|⟨g1,⟨g2,rfl⟩|⟨g2,rfl⟩⟩<;>first|rfl|exact absurd g1 h1|exact absurd h1 g1|exact absurd h2 g2|exact absurd g2 h2
theorem Vy {w:World} {p0 p1 p2 p3 p4 p5 p6 p7 p8 p9 p10 p11 p12 p13 p14 p15:Int} {sw po:b_} {n18 n19 n20 n21 n22 n23 n24 n25 n26 n27 n28 n29 n30 n31 n32 n33 n34:Int} {st:b_} {sl:List oI} {pl:List Int} {tl:List T7} (hsw:kH 16 e16 w sw sl) (hpo:kH 1 eI w po pl) (hst:kH 7 e7 w st tl) (lsw:sw.len<=2^40) (lpo:po.len<=2^40) (lst:st.len<=2^40):
  tZ p0 p1 p2 p3 p4 p5 p6 p7 p8 p9 p10 p11 p12 p13 p14 p15 sw po n18 n19 n20 n21 n22 n23 n24 n25 n26 n27 n28 n29 n30 n31 n32 n33 n34 st w fun r w'=>chk (p0,p1,p2,p3,p4,p5,p6,p7,p8,p9,p10,p11,p12,p13,p14,p15,()) sw.len po.len st.len n18 n19 n20 n21 n22 n23 n24 n25 n26 n27 n28 n29 n30 n31 n32 n33 n34 sw.len sl pl tl r/\Ext w w':=by
 apply O6
 refine fK fun a w1 ra ea z1 f1=> ?_
 simp -zeta only [sx,ra.cell]
 intro J4
 have hJ4:∀j5 W,Ext w1 W->(j5=false↔OkP (p0,p1,p2,p3,p4,p5,p6,p7,p8,p9,p10,p11,p12,p13,p14,p15,()) sw.len po.len st.len n18 n19 n20 n21 n22 n23 n24 n25 n26 n27 n28 n29 n30 n31 n32 n33 n34 sw.len sl pl tl)->J4 j5 W:=by
  intro j5 W hx h5
  simp -zeta only [J4]
  have xW:=f1.trans hx
  cases j5
  ·rw [cond_false]
   have hok:=h5.1 rfl
   have hl:=(TR (by omega)).1 hok
   have hf:=UR (p:=(p0,p1,p2,p3,p4,p5,p6,p7,p8,p9,p10,p11,p12,p13,p14,p15,())) (sl:=sl) (pl:=pl) (q:=n20) hl.1.rooms.1.1 fun x hx=>XT (hl.2.sts x hx)
   have raW:=ra.ext hx
   simp -zeta only [List.getElem?_cons_zero,List.getElem?_cons_succ,fA,fG,fC,raW.cell]
   refine NY (U1 (hsw.ext xW) (hpo.ext xW) (hst.ext xW) lsw lpo lst) ?_
   rintro r w' ⟨hr,hf'⟩
   rw [hf] at hr
   cases r
   ·rw [cond_false]
    refine⟨.inr ⟨hok,.inr ⟨?_,rfl⟩⟩,xW.trans hf'⟩
    by_cases h:Dv (p0,p1,p2,p3,p4,p5,p6,p7,p8,p9,p10,p11,p12,p13,p14,p15,()) sl pl tl sw.len n20
    ·exact h
    ·exact absurd (hr.2 h) (by simp)
   ·rw [cond_true]
    exact⟨.inr ⟨hok,.inl ⟨hr.1 rfl,rfl⟩⟩,xW.trans hf'⟩
  ·rw [cond_true]
   exact⟨.inl ⟨fun h=>(by cases h5.2 h),rfl⟩,xW⟩
 clear_value J4
 refine KP (WQ _) ?_
 rintro r w2 ⟨hr,f2⟩
 cases r
 ·rw [Bool.not_false,cond_true]
  exact hJ4 _ _ f2 ⟨fun h=>(by cases h),fun h=>(by cases hr.2 ((TR (by omega)).1 h).1)⟩
 rw [Bool.not_true,cond_false]
 have ra2:=ra.ext f2
 have x2:=f1.trans f2
 simp -zeta only [List.getElem?_cons_zero,List.getElem?_cons_succ,fA,fG,fC,ra2.cell]
 refine NU (ZM (hsw.ext x2) (hpo.ext x2) (hst.ext x2) lsw lpo lst) ?_
 rintro r w3 ⟨hr3,f3⟩
 refine hJ4 _ _ (f2.trans f3) ?_
 rw [TR (by omega),<- hr,<- hr3]
 cases r<;>simp
end Go.Proofs.CN
end
section
namespace Gp.V4
theorem acX (l:List UInt8):∀n:Nat,l.foldl (fun n b=>n * 256+b.toNat) n=n * 256^l.length+wu l:=by
 induction l with
 |nil=>intro n;simp [wu]
 |cons b l ih=>
  intro n
  simp only [List.foldl_cons,wu,List.length_cons]
  rw [ih,ih (0 * 256+b.toNat)]
  rw [Nat.pow_succ,Nat.add_mul,Nat.add_mul,<- Nat.mul_assoc,Nat.mul_right_comm]
  omega
theorem NM (b:UInt8) (l:List UInt8):wu (b::l)=b.toNat * 256^l.length+wu l:=by
 show (b::l).foldl _ 0=_
 rw [List.foldl_cons,acX];simp
theorem Z8 (l:List UInt8):wu l<256^l.length:=by
 induction l with
 |nil=>simp [wu]
 |cons b l ih=>
  rw [NM,List.length_cons,Nat.pow_succ]
  have:=b.toNat_lt
  have h2:b.toNat * 256^l.length<=255 * 256^l.length:=Nat.mul_le_mul_right _ (by omega)
  omega
theorem YQ (k n:Nat):wu (tJ k n)=n % 256^k:=by
 induction k with
 |zero=>simp [tJ,wu,Nat.mod_one]
 |succ k ih=>
  rw [tJ,NM,kD,ih]
  have e:(UInt8.ofNat (n / 256^k)).toNat=n / 256^k % 256:=by simp
  rw [e,Nat.pow_succ,Nat.mod_mul,Nat.mul_comm (256^k),Nat.add_comm]
end Gp.V4
namespace Go.Proofs
open Gp Gp.V4
set_option maxRecDepth 100000
theorem YL {w:World} {s:b_} {l:List UInt8} (h:rO w s l) (hl:l.length<=2^62) (at_ k:Int):xI s at_ k w fun r e w'=>w'=w/\
  if ¬sizeOk k\/at_<0 then e=1/\r=⟨none,0,0⟩ else if (l.length:Int)<at_+k then e=3/\r=⟨none,0,0⟩ else e=0/\rO w r ((l.drop at_.toNat).take k.toNat)/\∀a,s.a=some a->r.a=some (a.add at_.toNat):=by
 apply SY
 have hlen:=h.1
 refine Lp (xP k w) ?_
 rintro r w1 ⟨rfl,rfl⟩
 by_cases hk:sizeOk k
 ·have hk1:=hk.1
  have hk2:=hk.2
  by_cases ha:at_<0
  ·simp only [hk,ha,decide_true,Bool.not_true,cond_true,cond_false]
   exact⟨by trivial,by simp⟩
  ·have hno:¬(¬sizeOk k\/at_<0):=by rintro(h|h)<;>contradiction
   simp only [hk,ha,decide_true,decide_false,Bool.not_true,cond_false,not_true_eq_false,or_self,if_false]
   by_cases h1:((s.len:Int)<k)
   ·simp only [h1,decide_true,cond_true]
    exact⟨by trivial,by rw [if_pos (by omega)];exact⟨by trivial,by trivial⟩⟩
   ·simp only [h1,decide_false,cond_false]
    rw [wrap_i64 (n:=(s.len:Int) - k) (by omega) (by omega)]
    by_cases h2:at_>(s.len:Int) - k
    ·simp only [h2,decide_true,cond_true]
     exact⟨by trivial,by rw [if_pos (by omega)];exact⟨by trivial,by trivial⟩⟩
    ·simp only [h2,decide_false,cond_false]
     rw [wrap_i64 (n:=at_+k) (by omega) (by omega)]
     have hcap:=h.2.2
     refine⟨by omega,by omega,by omega,by omega,by trivial,?_⟩
     rw [if_neg (by omega)]
     have hc:=h.cut (lo:=at_.toNat) (hi:=(at_+k).toNat) (by omega) (by omega) (at_+k).toNat (Nat.le_refl _) (at_+k).toNat (fun e=>by omega)
     rw [List.drop_take,show (at_+k).toNat - at_.toNat=k.toNat by omega] at hc
     refine⟨by trivial,?_,fun a hsa=> ?_⟩
     ·rw [show (at_+k).toNat - at_.toNat=k.toNat by omega]
      exact hc
     ·have hne:¬((at_+k).toNat=at_.toNat):=by omega
      simp only [Dh,hne,if_false,hsa,Option.map_some,Nat.mul_one]
 ·simp only [hk,decide_false,Bool.not_false,cond_true]
  exact⟨by trivial,by simp⟩
theorem ZJ {n x:Nat} (hn:n<2^40) (hx:x<256):orI .i64 (Xn .i64 (n:Int) 8) (x:Int)=((n * 256+x:Nat):Int):=by
 have e0:Xn .i64 (n:Int) 8=((n * 256:Nat):Int):=by
  unfold Xn
  have:(2:Int)^(min (8:Int).toNat (IntKind.bits .i64))=256:=by decide
  rw [this,wrap_i64 (by omega) (by omega)];omega
 rw [e0]
 unfold orI
 have eb:IntKind.bits .i64=64:=rfl
 have h1:(BitVec.ofInt (IntKind.bits .i64) ((n * 256:Nat):Int)).toNat=n * 256:=by
  rw [eb,BitVec.toNat_ofInt];omega
 have h2:(BitVec.ofInt (IntKind.bits .i64) (x:Int)).toNat=x:=by
  rw [eb,BitVec.toNat_ofInt];omega
 rw [BitVec.toNat_or,h1,h2]
 have h3:n * 256|||x=n * 256+x:=by
  have:=Nat.two_pow_add_eq_or_of_lt (i:=8) (b:=x) (by omega) n
  rw [show (2:Nat)^8=256 by decide] at this
  rw [Nat.mul_comm n 256,this]
 rw [h3,wrap_i64 (by omega) (by omega)]
theorem OZ {l:List UInt8} (h:l.length<=4):wu l<2^32:=by
 have h1:=Z8 l
 have:(256:Nat)^l.length<=256^4:=Nat.pow_le_pow_right (by omega) h
 have e:(256:Nat)^4=4294967296:=by decide
 omega
theorem VZ (l:List UInt8) {i:Nat} (h:i<l.length):wu (l.take (i+1))=wu (l.take i) * 256+l[i].toNat:=by
 unfold wu
 rw [List.take_succ_eq_append_getElem h,List.foldl_append];rfl
def Ql (l:List UInt8) (at_ k:Int) (n e:Int):Prop:=
 if ¬sizeOk k\/at_<0 then e=1/\n=0 else if (l.length:Int)<at_+k then e=3/\n=0 else e=0/\n=(num l at_.toNat k.toNat:Int)
theorem WT {w:World} {s:b_} {l:List UInt8} (h:rO w s l) (hl:l.length<=2^62) (at_ k:Int):zB s at_ k w fun n e w'=>w'=w/\Ql l at_ k n e:=by
 apply Y4
 refine Tq (YL h hl at_ k) ?_
 rintro r e w1 ⟨rfl,hr⟩
 have main:∀(m:List UInt8),rO w1 r m->m.length<=4->∀(K:Int->Prop),K (wu m:Int)->iw (S:=Int×Int×Unit) (fun s7 w8 next9=>
   (bif (decide (s7.2.1<(r.len:Int))) then
    g_ r 1 s7.2.1 fun a10=>Ld (.int .u8) w8 a10 fun x11=>0<=(8:Int)/\next9 ((orI .i64 (Xn .i64 s7.1 8) (IntKind.i64.wrap x11)),(IntKind.i64.wrap (s7.2.1+1)),()) w8
   else (w8=w1/\K s7.1))) (0,0,()) w1:=by
  intro m hm hm4 K hK
  have hml:=hm.1
  refine fE (fun st W=>W=w1/\∃i:Nat,i<=m.length/\st.2.1=i/\st.1=(wu (m.take i):Int)) (fun st _=>m.length - st.2.1.toNat) ⟨rfl,0,by omega,rfl,rfl⟩ ?_
  rintro⟨n,j,⟨⟩⟩ W ⟨rfl,i,hi,rfl,rfl⟩ next hnext
  by_cases hlt:i<m.length
  ·have hlt':((i:Int)<(r.len:Int)):=by omega
   simp only [hlt',decide_true,cond_true]
   obtain⟨a,ha,hc⟩:=hm.at_ (List.getElem?_eq_getElem hlt)
   refine⟨a,ha,by omega,by omega,?_⟩
   simp only [sx,Int.toNat_natCast,Nat.mul_one,hc]
   refine⟨by omega,?_⟩
   have hb:=m[i].toNat_lt
   have hn2:wu (m.take i)<2^32:=OZ (by simp;omega)
   rw [wrap_i64 (n:=((m[i].toNat:Nat):Int)) (by omega) (by omega),ZJ (by omega) (by omega),wrap_i64 (by omega) (by omega)]
   refine hnext _ _ ⟨rfl,i+1,by omega,by simp,?_⟩ (by simp only;omega)
   simp only [VZ _ hlt]
  ·have hlt':¬((i:Int)<(r.len:Int)):=by omega
   simp only [hlt',decide_false,cond_false]
   have:i=m.length:=by omega
   subst this
   rw [List.take_length]
   exact⟨trivial,hK⟩
 by_cases c1:¬sizeOk k\/at_<0
 ·rw [if_pos c1] at hr
  obtain⟨rfl,rfl⟩:=hr
  exact main [] rO.nil (by simp) (fun n=>Ql l at_ k n 1) (by unfold Ql;rw [if_pos c1];exact⟨rfl,rfl⟩)
 ·rw [if_neg c1] at hr
  by_cases c2:(l.length:Int)<at_+k
  ·rw [if_pos c2] at hr
   obtain⟨rfl,rfl⟩:=hr
   exact main [] rO.nil (by simp) (fun n=>Ql l at_ k n 3) (by unfold Ql;rw [if_neg c1,if_pos c2];exact⟨rfl,rfl⟩)
  ·rw [if_neg c2] at hr
   obtain⟨rfl,hr,_⟩:=hr
   refine main _ hr ?_ (fun n=>Ql l at_ k n 0) (by unfold Ql;rw [if_neg c1,if_neg c2];exact⟨rfl,rfl⟩)
   have hk:sizeOk k:=Classical.byContradiction fun h=>c1 (.inl h)
   have:=hk.2
   simp;omega
theorem Q8 {l:List UInt8} {at_ k:Nat} {n e:Int} (hk:1<=k/\k<=4) (h:at_+k<=l.length) (hr:Ql l at_ k n e):n=(num l at_ k:Int):=by
 unfold Ql at hr
 rw [if_neg (by unfold sizeOk;omega),if_neg (by omega)] at hr
 simpa using hr.2
theorem adb {l:List UInt8} {at_ k:Nat} (h:k<=4):num l at_ k<2^32:=OZ (by simp;omega)
theorem byte_at {w:World} {s:b_} {l:List UInt8} (h:rO w s l) {i:Nat} (hi:i<l.length) {K:Addr->Prop} (hK:∀a,w.cell? (a)=some (.int .u8 (l[i].toNat:Int))->(a.block<w.heap.size)->K a):g_ s 1 (i:Int) K:=by
 have hsl:=h.1
 obtain⟨a,ha,hc⟩:=h.at_ (List.getElem?_eq_getElem hi)
 exact⟨a,ha,by omega,by omega,hK _ (by rw [Int.toNat_natCast,Nat.mul_one];exact hc) (by rw [Int.toNat_natCast,Nat.mul_one];exact cell_lt hc)⟩
theorem Q5 {l:List UInt8} {i:Nat} (h:i<l.length):num l i 1=l[i].toNat:=by
 unfold num
 rw [List.drop_eq_getElem_cons h,List.take_succ_cons]
 simp [wu]
def bi (l:List UInt8):List Int:=l.map fun b=>(b.toNat:Int)
theorem acM {l m:List UInt8} (h:bi l=bi m):l=m:=by
 unfold bi at h
 refine(List.map_inj_right ?_).1 h
 intro a b hab
 exact UInt8.toNat_inj.1 (by omega)
theorem acP {l:List UInt8} (h:l.length=16):∃x0 x1 x2 x3 x4 x5 x6 x7 x8 x9 x10 x11 x12 x13 x14 x15:Int,bi l=[x0,x1,x2,x3,x4,x5,x6,x7,x8,x9,x10,x11,x12,x13,x14,x15]/\bytesV l=[.int .u8 x0,.int .u8 x1,.int .u8 x2,.int .u8 x3,.int .u8 x4,.int .u8 x5,.int .u8 x6,.int .u8 x7,.int .u8 x8,.int .u8 x9,.int .u8 x10,.int .u8 x11,.int .u8 x12,.int .u8 x13,.int .u8 x14,.int .u8 x15]:=by
 obtain⟨b0,l0,rfl⟩:=List.exists_cons_of_length_eq_add_one h
 have h0:=Nat.succ.inj h
 obtain⟨b1,l1,rfl⟩:=List.exists_cons_of_length_eq_add_one h0
 have h1:=Nat.succ.inj h0
 obtain⟨b2,l2,rfl⟩:=List.exists_cons_of_length_eq_add_one h1
 have h2:=Nat.succ.inj h1
 obtain⟨b3,l3,rfl⟩:=List.exists_cons_of_length_eq_add_one h2
 have h3:=Nat.succ.inj h2
 obtain⟨b4,l4,rfl⟩:=List.exists_cons_of_length_eq_add_one h3
 have h4:=Nat.succ.inj h3
 obtain⟨b5,l5,rfl⟩:=List.exists_cons_of_length_eq_add_one h4
 have h5:=Nat.succ.inj h4
 obtain⟨b6,l6,rfl⟩:=List.exists_cons_of_length_eq_add_one h5
 have h6:=Nat.succ.inj h5
 obtain⟨b7,l7,rfl⟩:=List.exists_cons_of_length_eq_add_one h6
 have h7:=Nat.succ.inj h6
 obtain⟨b8,l8,rfl⟩:=List.exists_cons_of_length_eq_add_one h7
 have h8:=Nat.succ.inj h7
 obtain⟨b9,l9,rfl⟩:=List.exists_cons_of_length_eq_add_one h8
 have h9:=Nat.succ.inj h8
 obtain⟨b10,l10,rfl⟩:=List.exists_cons_of_length_eq_add_one h9
 have h10:=Nat.succ.inj h9
 obtain⟨b11,l11,rfl⟩:=List.exists_cons_of_length_eq_add_one h10
 have h11:=Nat.succ.inj h10
 obtain⟨b12,l12,rfl⟩:=List.exists_cons_of_length_eq_add_one h11
 have h12:=Nat.succ.inj h11
 obtain⟨b13,l13,rfl⟩:=List.exists_cons_of_length_eq_add_one h12
 have h13:=Nat.succ.inj h12
 obtain⟨b14,l14,rfl⟩:=List.exists_cons_of_length_eq_add_one h13
 have h14:=Nat.succ.inj h13
 obtain⟨b15,l15,rfl⟩:=List.exists_cons_of_length_eq_add_one h14
 have h15:=Nat.succ.inj h14
 obtain rfl:=List.length_eq_zero_iff.1 h15
 exact⟨b0.toNat,b1.toNat,b2.toNat,b3.toNat,b4.toNat,b5.toNat,b6.toNat,b7.toNat,b8.toNat,b9.toNat,b10.toNat,b11.toNat,b12.toNat,b13.toNat,b14.toNat,b15.toNat,rfl,rfl⟩
theorem Ea {b o:Nat} {K:b_->Prop} (h:K ⟨some ⟨b,o,none⟩,16,16⟩):sQ ⟨b,o,none⟩ 16 1 0 (16:Int) K:=by
 refine⟨by omega,by omega,by omega,?_⟩
 have e:(if 16=(0:Int).toNat then (⟨b,o,none⟩:Addr) else (⟨b,o,none⟩:Addr).add ((0:Int).toNat * 1))=⟨b,o,none⟩:=by
  rw [if_neg (by decide)];rfl
 rw [e]
 exact h
theorem JD {w:World} {b o:Nat} {L A C:List Value} {l:List UInt8} (hr:Row w b L) (hL:L=A++(bytesV l++C)) (ho:A.length=o) {n:Nat} (hn:n=l.length):rO w ⟨some ⟨b,o,none⟩,n,n⟩ l:=by
 subst hn
 refine⟨rfl,⟨by rw [iG],fun j hj=> ?_⟩,Nat.le_refl _⟩
 rw [kC,hr.cell,hL,<- ho,List.getElem?_append_right (by omega),Nat.add_sub_cancel_left,List.getElem?_append_left hj]
theorem JF {w:World} {s:b_} {l:List UInt8} (h:rO w s l) {n:Nat} (hn:n<=l.length):sV w s.a (n * 1) (bytesV (l.take n)):=by
 cases ha:s.a with
 |none=>
  have:=h.empty ha
  subst this
  simp only [List.length_nil] at hn
  obtain rfl:n=0:=by omega
  rfl
 |some a=>
  have hc:=h.2.1
  rw [ha] at hc
  refine⟨by rw [iG,List.length_take];omega,fun j hj=> ?_⟩
  rw [iG,List.length_take] at hj
  rw [hc.2 j (by rw [iG];omega)]
  unfold bytesV
  rw [List.getElem?_map,List.getElem?_map,List.getElem?_take,if_pos (by omega)]
end Go.Proofs
namespace Go.Proofs
open Gp
theorem yX (l:List UInt8):bytesV l=(bi l).map fun n=>Value.int .u8 n:=by unfold bytesV bi;rw [List.map_map];rfl
theorem Oz {b o n:Nat} {K:b_->Prop} (hn:0<n) (h:K ⟨some ⟨b,o,none⟩,n,n⟩):sQ ⟨b,o,none⟩ n 1 0 (n:Int) K:=by
 refine⟨by omega,by omega,by omega,?_⟩
 rw [if_neg (by simp;omega)]
 exact h
end Go.Proofs
end
section
namespace Go.Proofs.PN
open Gp Go.Proofs.CN
set_option maxRecDepth 100000
set_option maxHeartbeats 1000000
abbrev O3:=Int×Int×Int
def V_ (x:O3):Value:= .agg ⟨[.int .i64 x.1,.int .i64 x.2.1,.int .i64 x.2.2]⟩
def evU (_:Unit):Value:= .bool true
theorem eqO (a b:O3):A_ Tryz.prog 16 80 (V_ a) (V_ b)=some (decide (a=b)):=by
 have h:A_ Tryz.prog 16 80 (V_ a) (V_ b)=some ((a.1==b.1) && ((a.2.1==b.2.1) && ((a.2.2==b.2.2) && true))):=by kernel_rfl
 rw [h]
 obtain⟨a1,a2,a3⟩:=a
 obtain⟨b1,b2,b3⟩:=b
 have ib:∀x y:Int,(x==y)=decide (x=y):=fun _ _=>rfl
 simp [ib,Bool.decide_and]
theorem abe (a:O3):kZ Tryz.prog 80 (V_ a)=true:=by
 unfold kZ
 rw [eqO];rfl
structure PL (w:World) (p g:Nat) (s:b_) (lo hi:Int) (pl:List Int) (G:List (O3×Unit)):Prop where
 hd:Row w p [.int .i64 lo,.int .i64 hi,.slice s.a s.len s.cap,.map (some g)]
 ad:iI 1 eI w s pl
 gv:oz V_ evU w g G
 nd:(G.map (·.1)).Nodup
 ln:pl.length<=16
 pg:p≠g
 sp:¬b_.at s p
 sg:¬b_.at s g
def fp (p g:Nat) (s:b_) (b:Nat):Prop:=b=p\/b=g\/b_.at s b
variable {w w':World} {p g:Nat} {s:b_} {lo hi:Int} {pl:List Int} {G:List (O3×Unit)}
theorem PL.fr {S:Nat->Prop} (h:PL w p g s lo hi pl G) (hf:fD w w' S) (hs:∀b,fp p g s b->¬S b):PL w' p g s lo hi pl G:=
 ⟨h.hd.fr hf (hs _ (.inl rfl)),h.ad.fr hf fun b hb=>hs _ (.inr (.inr hb)),h.gv.fr hf (hs _ (.inr (.inl rfl))),h.nd,h.ln,h.pg,h.sp,h.sg⟩
theorem PL.ext (h:PL w p g s lo hi pl G) (hf:Ext w w'):PL w' p g s lo hi pl G:=h.fr (hf fun _=>False) (fun _ _=>by simp)
theorem PL.sl (h:PL w p g s lo hi pl G):kH 1 eI w s pl:=h.ad.sl jB (by omega)
theorem PL.sln (h:PL w p g s lo hi pl G):s.len<=2^62:=by rw [h.sl.len];have:=h.ln;omega
theorem zh (h:PL w p g s lo hi pl G):jO (some ⟨p,0,none⟩) w fun r w'=>r=true/\w'=w:=by
 apply Hr
 simp only [sx,h.hd.cell,Bool.not_false]
 exact⟨by trivial,by trivial⟩
theorem Zi (h:PL w p g s lo hi pl G) (x:Int):mQ (some ⟨p,0,none⟩) x w fun r w'=>r=decide (x∈pl)/\w'=w:=by
 apply KT
 refine uH (zh h) ?_
 rintro r w' ⟨rfl,hw⟩
 subst hw
 simp only [sx,h.hd.cell]
 refine jQ (Aj h.sl h.sln x) ?_
 rintro r w' ⟨rfl,hw⟩
 exact⟨rfl,hw⟩
theorem aai (n:Int) (w:World):vH n w fun r w'=>r=decide (n=1\/n=6\/n=17)/\w'=w:=by
 apply P9
 by_cases h1:n=1
 ·subst h1;simp
 by_cases h6:n=6
 ·subst h6;simp
 by_cases h17:n=17
 ·subst h17;simp
 ·simp [h1,h6,h17]
theorem abB (h:PL w p g s lo hi pl G) {x y z:Int} (h1:x=1\/x=6\/x=17) (h2:y∈pl) (h3:0<=z) (h4:z<65536) (hn:(x,y,z)∉G.map (·.1)):
  oq (some ⟨p,0,none⟩) x y z w fun e w'=>e=0/\PL w' p g s lo hi pl (Ej G (x,y,z) ())/\fD w w' (·=g):=by
 apply IY
 refine fK fun t w1 r1 e1 z1 f1=> ?_
 have hp:=h.ext f1
 refine uH (zh hp) ?_
 rintro r w1 ⟨rfl,hw⟩
 subst hw
 simp only [Bool.not_true,cond_false,sx,r1.cell]
 refine Qc (aai x w1) ?_
 rintro r w1 ⟨rfl,hw⟩
 subst hw
 simp only [h1,decide_true,Bool.not_true,cond_false,sx,r1.cell]
 refine BK (Zi hp y) ?_
 rintro r w1 ⟨rfl,hw⟩
 subst hw
 have h3':¬(z<0):=by omega
 have h4':¬(z>=65536):=by omega
 simp only [h2,h3',h4',decide_true,decide_false,Bool.not_true,cond_false,sx,r1.cell,hp.hd.drew.cell,r1.drew.cell]
 have fd:=Ext.drew w1
 refine BP (k:= .bool) ((hp.gv).ext fd) eqO (x,y,z) (abe _) (fun _=> ?_) (fun b hb=>absurd hb (by rw [rM.2 hn];simp))
 simp only [sx,hp.hd.drew.drew.cell,r1.drew.drew.cell]
 refine I9 (ev:=evU) (((hp.gv).ext fd).ext (Ext.drew _)) eqO (x,y,z) () (abe _) fun w2 g2 f2 z2=> ?_
 have hp2:=(hp.ext fd).ext (Ext.drew _)
 exact⟨by trivial,⟨hp2.hd.fr f2 h.pg,hp2.ad.fr f2 (fun b hb e=>h.sg (e ▸ hb)),g2,EY h.nd _ _,h.ln,h.pg,h.sp,h.sg⟩,((f1.trans fd).trans (Ext.drew _)).fr f2⟩
theorem abK (h:PL w p g s lo hi pl G) {x y z:Int} (hm:(x,y,z)∈G.map (·.1)):
  nS (some ⟨p,0,none⟩) x y z w fun r w'=>r=true/\PL w' p g s lo hi pl (uN G (x,y,z))/\fD w w' (·=g):=by
 apply Jb
 refine fK fun t w1 r1 e1 z1 f1=> ?_
 have fd:=Ext.drew w1
 have hp:=(h.ext f1).ext fd
 have hp2:=hp.ext (Ext.drew _)
 refine uH (zh hp) ?_
 rintro r w1 ⟨rfl,hw⟩
 subst hw
 simp only [Bool.not_true,cond_false,sx,hp.hd.cell,r1.drew.cell]
 refine BP (k:= .bool) hp.gv eqO (x,y,z) (abe _) (fun hb=>absurd hm (rM.1 hb)) (fun b _=> ?_)
 simp only [evU,Bool.not_true,cond_false,sx,hp2.hd.cell,r1.drew.drew.cell]
 refine JR (ev:=evU) hp2.gv eqO (x,y,z) (abe _) fun w2 g2 f2 z2=> ?_
 exact⟨by trivial,⟨hp2.hd.fr f2 h.pg,hp2.ad.fr f2 (fun b hb e=>h.sg (e ▸ hb)),g2,h.nd.sublist ((Jm G _).map _),h.ln,h.pg,h.sp,h.sg⟩,((f1.trans fd).trans (Ext.drew _)).fr f2⟩
theorem KY {s:b_} {lo hi:Int} {pl:List Int} (hs:kH 1 eI w s pl) (h0:1<=pl.length) (h16:pl.length<=16) (hn:pl.Nodup) (hh:∀a∈pl,kX a) (h1:1<=lo) (h2:lo<=hi) (h3:hi<65536):
  zu s lo hi w fun r e w'=>e=0/\Ext w w'/\∃p g s',r=some ⟨p,0,none⟩/\PL w' p g s' lo hi pl []/\∀b,fp p g s' b->w.heap.size<=b:=by
 apply Ve
 have hl:s.len=pl.length:=hs.len
 intro J4
 have a1:¬((s.len:Int)<1):=by omega
 have a2:¬((s.len:Int)>16):=by omega
 have a3:¬(lo<1):=by omega
 have a4:¬(hi<lo):=by omega
 have a5:¬(hi>=65536):=by omega
 simp -zeta only [a1,a2,a3,a4,a5,decide_false,cond_false]
 simp only [J4,cond_false]
 refine fE (fun st W=>∃i:Nat,i<=pl.length/\st.1=(i:Int)/\Ext w W) (fun st _=>pl.length - st.1.toNat) ⟨0,by omega,rfl,Ext.refl _⟩ ?_
 rintro⟨i',⟨⟩⟩ W ⟨i,hi',hi2,hx⟩ next hnext
 simp only at hi2
 subst hi2
 by_cases hlt:i<pl.length
 ·have hlt':((i:Int)<(s.len:Int)):=by omega
  simp only [hlt',decide_true,cond_true]
  have hmem:pl[i]∈pl:=List.getElem_mem hlt
  refine SN.RV (hs.ext hx) (List.getElem?_eq_getElem hlt) fun a c0=> ?_
  simp only [XK,c0,fA,fC]
  refine vV (yL _ W) ?_
  rintro _ w1 ⟨rfl,f1⟩
  simp only [hh _ hmem,decide_true,Bool.not_true,cond_false]
  refine abx jB (hs.ext (hx.trans f1)) (by omega) (by omega) (by omega) fun s1 hs1=> ?_
  have hl1:s1.len<=2^62:=by rw [hs1.len];simp;omega
  refine jQ (Aj hs1 hl1 _) ?_
  rintro _ w2 ⟨rfl,hw⟩
  subst hw
  have hno:pl[i]∉(pl.take (i:Int).toNat).drop (0:Int).toNat:=by
   simp only [Int.toNat_natCast,Int.toNat_zero,List.drop_zero]
   exact Gp.Cfg.nH.1 hn i _ (List.getElem?_eq_getElem hlt)
  simp only [hno,decide_false,cond_false]
  rw [wrap_i64 (by omega) (by omega)]
  exact hnext _ _ ⟨i+1,by omega,by simp,hx.trans f1⟩ (by simp only;omega)
 ·have hlt':¬((i:Int)<(s.len:Int)):=by omega
  simp only [hlt',decide_false,cond_false]
  refine uV (SN.QD (hs.ext hx) (by omega)) ?_
  rintro s' w1 ⟨f1,hb,hnew⟩
  refine SN.CW (enc:=V_) (ev:=evU) fun w2 hm z2 f2=> ?_
  refine fK fun p w3 r3 e3 z3 f3=> ?_
  have hlt1:∀b,b_.at s' b->b<w1.heap.size:=fun b hb'=>hb.lt hb'
  refine⟨by trivial,((hx.trans f1).trans f2).trans f3,p,w1.heap.size,s',rfl,⟨r3,(hb.ext f2).ext f3,hm.ext f3,by simp,h16,by omega,fun h=>by have:=hlt1 _ h;omega,fun h=>by have:=hlt1 _ h;omega⟩,?_⟩
  have hz:=(hx.trans f1).size
  have hz1:=hx.size
  rintro b (rfl|rfl|hb')
  ·omega
  ·omega
  ·have:=hnew b hb';omega
end Go.Proofs.PN
end
