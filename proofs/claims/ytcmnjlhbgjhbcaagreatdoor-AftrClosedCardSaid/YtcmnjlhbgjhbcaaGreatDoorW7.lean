import Derived.Test.YtcmnjlhbgjhbcaaGreatDoorPc1
import Derived.Test.YtcmnjlhbgjhbcaaGreatDoorW5
import Derived.Test.YtcmnjlhbgjhbcaaGreatDoorW3
open List (any_eq_false)
open Bool (and_eq_true not_eq_true')
set_option maxRecDepth 100000
set_option maxHeartbeats 2000000
section
open List (getElem?_cons_succ getElem?_cons_zero getElem?_eq_getElem getElem?_map getElem_mem length_cons length_nil map_cons map_id' take_of_length_le)
open Int (toNat_natCast)
open Bool (decide_and)
namespace Go.Proofs.CN
open Gp
theorem Ws (x:T16):∀v∈e16 x,iC v=true:=by
 obtain⟨x0,x1,x2,x3,x4,x5,x6,x7,x8,x9,j,u,z,I,J,U,⟨⟩⟩:=x;intro v hv;have:(e16 (x0,x1,x2,x3,x4,x5,x6,x7,x8,x9,j,u,z,I,J,U,())).all iC=true:=rfl;exact List.all_eq_true.1 this v hv
theorem abL {w:World} {s:eY} {xs:List T16} (hs:lV 16 e16 w s xs) (hl:s.len<=2^40):
  iG s w λr w'=>Ext w w'/\jB 16 e16 w' r xs/\∀b,eY.at r b->w.heap.size<=b:=by
 apply wu;have hlen:=hs.len
 cases ha:s.a with
 |none=>
  have hc:=hs.cells;rw[ha] at hc;have h0:xs.flatMap e16=[]:=hc;have j:=kR e16 16 pW xs;rw[h0] at j;have:xs=[]:=by
   cases xs with
   |nil=>rfl
   |cons _ _=>simp only[length_cons,length_nil] at j;omega
  subst this;simp only[Option.isNone_none,cond_true];exact⟨Ext.refl _,jB.nil,λb ⟨o,hb⟩=>by cases hb⟩
 |some a=>
  simp only[Option.isNone_some,cond_false];refine fP λt w1 rt et zt f1=> ?_;have hb:jB 16 e16 w1 ⟨some ⟨t,0,none⟩,0,0⟩ ([]:List T16):=jB.row (xs:=[]) rt;refine tX pW hb (hs.ext f1) rfl (by omega) Ws (by simp only[length_nil];omega) (by simp only[length_nil];omega) λs' w' h1 h2 h3=> ?_;refine⟨f1.new h2 λb hb ⟨o,he⟩=>by cases he;omega,h1,λb hb=> ?_⟩;rcases h3 b hb with ⟨o,he⟩|h
  ·cases he;omega
  ·omega
def EK (x:T7):Int:=x.1
def cnt (tl:List T7) (k:Nat):Nat:=tl.countP λy=>EK y==(k:Int)
def cnts (n:Nat) (tl:List T7):List Int:=(List.range n).map λk=>(cnt tl k:Int)
theorem Dn (n:Nat) (tl:List T7):(cnts n tl).flatMap eI=(List.range n).map λk=>Value.int .i64 (cnt tl k:Int):=by
 unfold cnts;generalize List.range n=l
 induction l with
 |nil=>rfl
 |cons a l ih=>simp only[map_cons,List.flatMap_cons,ih];rfl
theorem ake {α:Type} {n:Nat} {f:α->List Value} {w:World} {s:eY} {xs:List α} {a:Addr} (hn:∀x,(f x).length=n) (hn0:0<n) (h:lV n f w s xs) (ha:s.a=some a) (hx:0<xs.length):a.block<w.heap.size:=by
 have hc:=h.cells;rw[ha] at hc;have hfl:=kR f n hn xs;have hp:0<xs.length * n:=Nat.mul_pos hx hn0;have h0:=hc.2 0 (by omega);rw[getElem?_eq_getElem (by omega)] at h0;exact cell_lt h0
theorem aeI (tl:List T7) (x:T7) (k:Nat):cnt (tl++[x]) k=cnt tl k+if EK x=(k:Int) then 1 else 0:=by
 unfold cnt;rw[List.countP_append,List.countP_singleton];congr 1;by_cases h:EK x=(k:Int)<;>simp[h]
theorem aeJ {n:Nat} {tl:List T7} {x:T7} (h0:0<=EK x):
  ((cnts n tl).flatMap eI).set (EK x).toNat (.int .i64 ((cnt tl (EK x).toNat:Int)+1))=(cnts n (tl++[x])).flatMap eI:=by
 rw[Dn,Dn];refine List.ext_getElem? λi=> ?_;rw[List.getElem?_set];by_cases hi:i<n
 ·rw[getElem?_map,getElem?_map,List.getElem?_range hi];simp only[Option.map_some,List.length_map,List.length_range];rw[aeI];by_cases he:(EK x).toNat=i
  ·subst he;rw[if_pos rfl,if_pos hi,if_pos (by omega)];rfl
  ·rw[if_neg he,if_neg (by omega)];rfl
 ·rw[List.getElem?_eq_none (by simp;omega),List.getElem?_eq_none (by simp;omega)];by_cases he:(EK x).toNat=i
  ·rw[if_pos he,if_neg (by simp;omega)]
  ·rw[if_neg he]
def fineP (p:T16) (sl:List T16) (pl:List Int) (tl:List T7) (n:Nat) (q:Int):Prop:=
 (sl++[p]).Nodup/\pl.Nodup/\(tl.map lY).Nodup/\(tl.map oH).Nodup/\∀k:Nat,k<n->(cnt tl k:Int)<=q
theorem ael {n:Nat} {tl:List T7} {q:Int}:((cnts n tl).any λx=>decide (x>q))=true↔¬∀k:Nat,k<n->(cnt tl k:Int)<=q:=by
 rw[List.any_eq_true];constructor
 ·rintro⟨x,hx,hq⟩ h;obtain⟨k,hk,rfl⟩:=List.mem_map.1 hx;have:=h k (List.mem_range.1 hk);simp only[decide_eq_true_eq] at hq;omega
 ·intro h;by_cases hk:∃k:Nat,k<n/\q<(cnt tl k:Int)
  ·obtain⟨k,h1,h2⟩:=hk;exact⟨_,List.mem_map.2 ⟨k,List.mem_range.2 h1,rfl⟩,by simpa using h2⟩
  ·exact absurd (λk hk'=>by
    by_cases hh:(cnt tl k:Int)<=q
    ·exact hh
    ·exact absurd ⟨k,hk',by omega⟩ hk) h
theorem aaq {w:World} {p0 p1 p2 p3 p4 p5 p6 p7 p8 p9 z I J U Y Z:Int} {sw po:eY} {n18 n19 n20 n21 n22 n23 n24 n25 n26 n27 n28 n29 n30 n31 n32 n33 n34:Int} {st:eY} {sl:List T16} {pl:List Int} {tl:List T7} (ah:lV 16 e16 w sw sl) (ab:lV 1 eI w po pl) (u:lV 7 e7 w st tl) (lsw:sw.len<=2^40) (lpo:po.len<=2^40) (lst:st.len<=2^40)
  (hr:∀x∈tl,0<=EK x/\EK x<(sw.len:Int)):
  og p0 p1 p2 p3 p4 p5 p6 p7 p8 p9 z I J U Y Z sw po n18 n19 n20 n21 n22 n23 n24 n25 n26 n27 n28 n29 n30 n31 n32 n33 n34 st w λr w'=>(r=true↔¬fineP (p0,p1,p2,p3,p4,p5,p6,p7,p8,p9,z,I,J,U,Y,Z,()) sl pl tl sw.len n20)/\Ext w w':=by
 apply LC;have lens:=ah.len;refine fP λa w1 ra ea z1 f1=> ?_;simp -zeta only[sx,ra.drew.cell];intro J4;have hJ4:∀s W,Ext w1 W->jB 16 e16 W s (sl++[(p0,p1,p2,p3,p4,p5,p6,p7,p8,p9,z,I,J,U,Y,Z,())])->J4 s W:=by
  intro s W hx hb;have ra:=ra.ext hx;have ab:=(ab.ext f1).ext hx;have u:=(u.ext f1).ext hx;have xx:=f1.trans hx;simp -zeta only[J4];intro J7;have hJ7:∀c W',Ext W W'->(c=true↔¬((sl++[(p0,p1,p2,p3,p4,p5,p6,p7,p8,p9,z,I,J,U,Y,Z,())]).Nodup/\pl.Nodup/\(tl.map lY).Nodup/\(tl.map oH).Nodup))->J7 c W':=by
   intro c W' hx' hc;simp only[J7]
   cases c
   ·have ra:=ra.ext hx';have u:=u.ext hx';have hf:(sl++[(p0,p1,p2,p3,p4,p5,p6,p7,p8,p9,z,I,J,U,Y,Z,())]).Nodup/\pl.Nodup/\(tl.map lY).Nodup/\(tl.map oH).Nodup:=by
     by_cases h:(sl++[(p0,p1,p2,p3,p4,p5,p6,p7,p8,p9,z,I,J,U,Y,Z,())]).Nodup/\pl.Nodup/\(tl.map lY).Nodup/\(tl.map oH).Nodup
     ·exact h
     ·exact absurd (hc.2 h) (by simp)
    simp only[cond_false,cond_false,getElem?_cons_zero,getElem?_cons_succ,fC,fE,ra.cell];refine C9 (by omega) (by omega) (by omega) (by omega) λm w2 rm em z2 f2=> ?_;have f2:Ext W' w2:=f2;have la1:=ra.lt;have ai:=u;have ra:=ra.ext f2;have u:=u.ext f2;have hlt:=u.len;simp only[sx,toNat_natCast,ra.cell];have rm0:Row w2 m ((cnts sw.len (tl.take 0)).flatMap eI):=by
     have e:(cnts sw.len (tl.take 0)).flatMap eI=fO [Value.int .i64 0] ((sw.len:Int)).toNat:=by
      rw[Dn,toNat_natCast];generalize sw.len=n;rw[List.take_zero];have:∀l:List Nat,(l.map λk=>Value.int .i64 ((cnt [] k:Nat):Int))=fO [Value.int .i64 0] l.length:=by
       intro l
       induction l with
       |nil=>rfl
       |cons a l ih=>simp only[map_cons,length_cons,fO,ih];rfl
      rw[this,List.length_range]
     rw[e];exact rm
    refine fZ (λst' V=>∃j:Nat,j<=tl.length/\st'.1=(j:Int)/\Row V m ((cnts sw.len (tl.take j)).flatMap eI)/\fV w2 V (·=m)) (λst' _=>(tl.length - st'.1).toNat) ⟨0,by omega,rfl,rm0,fV.refl _ _⟩ ?_;rintro⟨i,⟨⟩⟩ V ⟨j,hj,hi,rmV,ag⟩ next ac
    simp only at hi;subst hi;have lra:=ra.lt;have zW:=hx'.size;have raV:=ra.fr ag (by omega);have aj:=u.fr ag (λa' ha' hl'=>by
     have:=ake wR (by omega) ai ha' hl';omega)
    by_cases ae:(j:Int)<(st.len:Int)
    ·simp only[ae,decide_true,cond_true];have hx:=getElem?_eq_getElem (show j<tl.length by omega);have af:=getElem_mem (show j<tl.length by omega);generalize tl[j]=x at hx af;have am:=Gp.Cfg.take_snoc hx;have ak:=hr x af;have aa:=aeJ (n:=sw.len) (tl:=tl.take j) (x:=x) ak.1;rw[<- am] at aa;have al:cnt (tl.take j) (EK x).toNat<=tl.length:=Nat.le_trans (List.countP_le_length) (by simp;omega);refine SlN_ix wR (by omega) aj (by omega) (by rw[toNat_natCast];exact hx) λa' hc=> ?_;obtain⟨x0,x1,x2,x3,x4,x5,x6,⟨⟩⟩:=x;have c0:V.cell? (a'.add 0)=some (.int .i64 x0):=hc 0 _ rfl;have c1:V.cell? (a'.add 1)=some (.int .i64 x1):=hc 1 _ rfl;have c2:V.cell? (a'.add 2)=some (.int .i64 x2):=hc 2 _ rfl;have c3:V.cell? (a'.add 3)=some (.int .i64 x3):=hc 3 _ rfl;have c4:V.cell? (a'.add 4)=some (.int .i64 x4):=hc 4 _ rfl;have c5:V.cell? (a'.add 5)=some (.int .i64 x5):=hc 5 _ rfl;have c6:V.cell? (a'.add 6)=some (.int .i64 x6):=hc 6 _ rfl;simp only[fC,fD,c0,c1,c2,c3,c4,c5,c6];refine uP rfl rfl λt w3 rt et zt f3=> ?_;have rm3:=rmV.ext f3;have hq0:0<=x0/\x0<(sw.len:Int):=ak;have hg:((cnts sw.len (tl.take j)).flatMap eI)[x0.toNat]? =some (.int .i64 (cnt (tl.take j) x0.toNat:Int)):=by
      rw[Dn,getElem?_map,List.getElem?_range (by omega)];rfl
     have al:cnt (tl.take j) x0.toNat<=tl.length:=al;have aa:((cnts sw.len (tl.take j)).flatMap eI).set x0.toNat (.int .i64 ((cnt (tl.take j) x0.toNat:Int)+1))=(cnts sw.len (tl.take (j+1))).flatMap eI:=aa;simp only[getElem?_cons_zero,fC,fD,rt.cell,Nat.mul_one,rm3.cell,hg];refine⟨hq0.1,hq0.2,hq0.1,hq0.2,?_⟩;rw[wrap_i64 (by omega) (by omega),wrap_i64 (by omega) (by omega)];refine gB rm3 rfl (by rw[Dn];simp;omega) λw4 rm4 f4 z4=> ?_;rw[aa] at rm4;exact ac _ _ ⟨j+1,by omega,by simp,rm4,(ag.ext f3).trans (f4 (·=m) rfl) λ_ _ e=>e⟩ (by simp only;omega)
    ·simp only[ae,decide_false,cond_false];rw[take_of_length_le (by omega)] at rmV;have an:lV 1 eI V ⟨some ⟨m,0,none⟩,sw.len,sw.len⟩ (cnts sw.len tl):=by
      have:=(jB.row (xs:=cnts sw.len tl) (f:=eI) (n:=1) rmV).sl qG (by omega);simpa [cnts] using this
     refine oz (Qu an (by simp only;omega) ahm λW hW=>raV.ext hW) ?_;rintro r w5 ⟨rfl,f5⟩;have e5:Ext W' V:=f2.new ag λb hb e=>by omega
     refine⟨?_,((xx.trans hx').trans e5).trans f5⟩;rw[ael];exact⟨λh hh=>h hh.2.2.2.2,λh hh=>h ⟨hf.1,hf.2.1,hf.2.2.1,hf.2.2.2,hh⟩⟩
   ·simp only[cond_true];exact⟨⟨λ_ h=>hc.1 rfl ⟨h.1,h.2.1,h.2.2.1,h.2.2.2.1⟩,λ_=>by trivial⟩,xx.trans hx'⟩
  refine wO (Fz (hb.sl pW (by omega)) ?_ rfl YK) ?_
  ·rw[hb.len];simp only[List.length_append,length_cons,length_nil];omega
  rintro v w2 ⟨f2,C,hi,hC⟩;rw[map_id'] at hi;refine Dl (aiC hi hC) ?_;rintro r w3 ⟨h1,f3⟩
  cases r
  ·have f3:=f2.trans f3;have n1:(sl++[(p0,p1,p2,p3,p4,p5,p6,p7,p8,p9,z,I,J,U,Y,Z,())]).Nodup:=by
    by_cases h:(sl++[(p0,p1,p2,p3,p4,p5,p6,p7,p8,p9,z,I,J,U,Y,Z,())]).Nodup
    ·exact h
    ·exact absurd (h1.2 h) (by simp)
   have ra:=ra.ext f3;have ab:=ab.ext f3;have u:=u.ext f3;simp -zeta only[cond_false,cond_false,getElem?_cons_zero,getElem?_cons_succ,fC,fE,ra.cell];refine D5 (Wx ab (by simp only;omega) rfl aaB) ?_;rintro v w4 ⟨f4,C,hi,hC⟩;rw[map_id'] at hi;refine Hq (alP hi hC) ?_;rintro r w5 ⟨h2,f5⟩;have f5:=f4.trans f5
   cases r
   ·have n2:pl.Nodup:=by
     by_cases h:pl.Nodup
     ·exact h
     ·exact absurd (h2.2 h) (by simp)
    have ra:=ra.ext f5;have u:=u.ext f5;simp -zeta only[cond_false,cond_false,getElem?_cons_zero,getElem?_cons_succ,fC,fE,ra.cell];refine sS (Bc u (by simp only;omega) rfl ae_) ?_;rintro v w6 ⟨f6,C,hi,hC⟩;refine A_ (alR hi hC) ?_;rintro r w7 ⟨h3,f7⟩;have f7:=f6.trans f7
    cases r
    ·have n3:(tl.map lY).Nodup:=by
      by_cases h:(tl.map lY).Nodup
      ·exact h
      ·exact absurd (h3.2 h) (by simp)
     have ra:=ra.ext f7;have u:=u.ext f7;simp -zeta only[cond_false,cond_false,getElem?_cons_zero,getElem?_cons_succ,fC,fE,ra.cell];refine sU (Bd u (by simp only;omega) rfl afa) ?_;rintro v w8 ⟨f8,C,hi,hC⟩;refine Ba (alQ hi hC) ?_;rintro r w9 ⟨h4,f9⟩;refine hJ7 _ _ ((((f3.trans f5).trans f7).trans f8).trans f9) (h4.trans ⟨λh hh=>h hh.2.2.2,λh hh=>h ⟨n1,n2,n3,hh⟩⟩)
    ·simp -zeta only[cond_true];exact hJ7 _ _ ((f3.trans f5).trans f7) ⟨λ_ h=>h3.1 rfl h.2.2.1,λ_=>rfl⟩
   ·simp -zeta only[cond_true];exact hJ7 _ _ (f3.trans f5) ⟨λ_ h=>h2.1 rfl h.2.1,λ_=>rfl⟩
  ·simp -zeta only[cond_true];exact hJ7 _ _ (f2.trans f3) ⟨λ_ h=>h1.1 rfl h.1,λ_=>rfl⟩
 have hd:=Ext.drew w1;refine⟨?_,?_⟩
 ·refine nN (abL ((ah.ext f1).ext hd) lsw) ?_;rintro r w2 ⟨f2,hb,hb2⟩;have e2:=hd.trans f2;have ra2:=ra.ext e2;simp only[sx,gJ,ig,ra2.cell,true_and];refine fP λt w3 rt et zt f3=> ?_;have ra3:=ra2.ext f3;simp only[sx,gJ,ig,ra3.cell,true_and];have ht:lV 16 e16 w3 ⟨some ⟨t,0,none⟩,1,1⟩ [((p0,p1,p2,p3,p4,p5,p6,p7,p8,p9,z,I,J,U,Y,Z,()):T16)]:=(jB.row (xs:=[((p0,p1,p2,p3,p4,p5,p6,p7,p8,p9,z,I,J,U,Y,Z,()):T16)]) (f:=e16) (n:=16) rt).sl pW (by omega);refine tX pW (hb.ext f3) ht rfl (by omega) Ws (by simp only[length_cons,length_nil];omega) (by simp only[length_cons,length_nil];omega) λs' w' h1 h2 h3=> ?_;have hz:w1.heap.size<=w1.drew.heap.size:=hd.size;exact hJ4 _ _ (((e2.trans f3).fr h2).new λb hb' hs=>by have:=hb2 b hs;omega) h1
 ·refine fP λt w2 rt et zt f2=> ?_;have e2:=hd.trans f2;have ra2:=ra.ext e2;simp only[sx,gJ,ig,ra2.cell,true_and];refine nN (abL ((ah.ext f1).ext e2) lsw) ?_;rintro r w3 ⟨f3,hb,hb2⟩;have e3:=e2.trans f3;have ra3:=ra2.ext f3;simp only[sx,gJ,ig,ra3.cell,true_and];have ht:lV 16 e16 w3 ⟨some ⟨t,0,none⟩,1,1⟩ [((p0,p1,p2,p3,p4,p5,p6,p7,p8,p9,z,I,J,U,Y,Z,()):T16)]:=((jB.row (xs:=[((p0,p1,p2,p3,p4,p5,p6,p7,p8,p9,z,I,J,U,Y,Z,()):T16)]) (f:=e16) (n:=16) rt).sl pW (by omega)).ext f3;refine tX pW hb ht rfl (by omega) Ws (by simp only[length_cons,length_nil];omega) (by simp only[length_cons,length_nil];omega) λs' w' h1 h2 h3=> ?_;have hz:w1.heap.size<=w2.heap.size:=e2.size;exact hJ4 _ _ ((e3.fr h2).new λb hb' hs=>by have:=hb2 b hs;omega) h1
end Go.Proofs.CN
namespace Go.Proofs.CN
open Gp
def TF (ls lp lt n18 n19 n20 n21 n22 n23 n24 n25 n26 n27 n29 n30 n31 n32 n33 n34:Int):List T3:=
 [(ls,1,64,()),(lp,1,16,()),(lt,0,if n21<64 then n21 else 64,()),(n18,1,65535,()),(n19,n18,65535,()),(n20,1,4096,()),(n21,1,4096,()),(n22,1,4096,()),(n23,0,4096,()),
  (n24,0,67108864,()),(n25,1280,65535,()),(n26,1280,65535,()),(n27,1,255,()),(n29,0,2,()),(n30,120,1048576,()),(n31,7440,1048576,()),(n32,240,1048576,()),(n33,60,1048576,()),(n34,1,1048576,())]
theorem aeV (x:T3):(e3 x).length=3:=rfl
def okB (b:T3):Prop:=b.2.1<=b.1/\b.1<=b.2.2.1
instance (b:T3):Decidable (okB b):=inferInstanceAs (Decidable (_/\_))
theorem acL {p0 p1 p2 p3 p4 p5 p6 p7 p8 p9 j u z I J U:Int} {sw po:eY} {n18 n19 n20 n21 n22 n23 n24 n25 n26 n27 n28 n29 n30 n31 n32 n33 n34:Int} {st:eY} (w:World):oW p0 p1 p2 p3 p4 p5 p6 p7 p8 p9 j u z I J U sw po n18 n19 n20 n21 n22 n23 n24 n25 n26 n27 n28 n29 n30 n31 n32 n33 n34 st w λr w'=>Ext w w'/\r.len=19/\lV 3 e3 w' r (TF sw.len po.len st.len n18 n19 n20 n21 n22 n23 n24 n25 n26 n27 n29 n30 n31 n32 n33 n34):=by
 apply Nu;refine fP λa w1 ra ea z1 f1=> ?_;simp only[sx,ra.cell];refine fP λb w2 rb eb z2 f2=> ?_;have hb:=jB.row (n:=3) (f:=e3) (xs:=TF sw.len po.len st.len n18 n19 n20 n21 n22 n23 n24 n25 n26 n27 n29 n30 n31 n32 n33 n34) (w:=w2) (b:=b) rb;exact⟨f1.trans f2,by trivial,hb.sl aeV (by omega)⟩
structure OkP (p:T16) (ls lp lt n18 n19 n20 n21 n22 n23 n24 n25 n26 n27 n28 n29 n30 n31 n32 n33 n34:Int) (n:Nat) (sl:List T16) (pl:List Int) (tl:List T7):Prop where
 nums:∀b∈TF ls lp lt n18 n19 n20 n21 n22 n23 n24 n25 n26 n27 n29 n30 n31 n32 n33 n34,okB b
 mss:Y5 n28
 parts:xg p n sl pl tl=true
theorem acj {n:Nat} {pl:List Int} {x:T7} (h:DF n pl x):0<=EK x/\EK x<(n:Int):=by
 obtain⟨q0,q1,q2,q3,q4,q5,q6,⟨⟩⟩:=x;have:(0<=q0/\q0<=(n:Int) - 1):=h.2.2.2;show 0<=q0/\q0<(n:Int);omega
theorem aa6 {p:T16} {n:Nat} {sl:List T16} {pl:List Int} {tl:List T7} (h:xg p n sl pl tl=true):∀x∈tl,DF n pl x:=by
 intro x hx;unfold xg at h;simp only[and_eq_true,not_eq_true',any_eq_false] at h;have:=h.2.2.2 x hx;simpa using this
theorem yj {w:World} {p0 p1 p2 p3 p4 p5 p6 p7 p8 p9 u z I J U Y:Int} {sw po:eY} {n18 n19 n20 n21 n22 n23 n24 n25 n26 n27 n28 n29 n30 n31 n32 n33 n34:Int} {st:eY} {sl:List T16} {pl:List Int} {tl:List T7} (aj:lV 16 e16 w sw sl) (ak:lV 1 eI w po pl) (al:lV 7 e7 w st tl) (lsw:sw.len<=2^40) (lpo:po.len<=2^40) (lst:st.len<=2^40):
  qw p0 p1 p2 p3 p4 p5 p6 p7 p8 p9 u z I J U Y sw po n18 n19 n20 n21 n22 n23 n24 n25 n26 n27 n28 n29 n30 n31 n32 n33 n34 st w λr w'=>((¬OkP (p0,p1,p2,p3,p4,p5,p6,p7,p8,p9,u,z,I,J,U,Y,()) sw.len po.len st.len n18 n19 n20 n21 n22 n23 n24 n25 n26 n27 n28 n29 n30 n31 n32 n33 n34 sw.len sl pl tl/\r=1)\/
   (OkP (p0,p1,p2,p3,p4,p5,p6,p7,p8,p9,u,z,I,J,U,Y,()) sw.len po.len st.len n18 n19 n20 n21 n22 n23 n24 n25 n26 n27 n28 n29 n30 n31 n32 n33 n34 sw.len sl pl tl/\((¬fineP (p0,p1,p2,p3,p4,p5,p6,p7,p8,p9,u,z,I,J,U,Y,()) sl pl tl sw.len n20/\r=9)\/(fineP (p0,p1,p2,p3,p4,p5,p6,p7,p8,p9,u,z,I,J,U,Y,()) sl pl tl sw.len n20/\r=0))))/\Ext w w':=by
 apply O8;refine fP λa w1 ra ea z1 f1=> ?_;simp -zeta only[sx,ra.cell];refine MR (acL w1) ?_;rintro bs w2 ⟨f2,hl19,af⟩;generalize am:TF sw.len po.len st.len n18 n19 n20 n21 n22 n23 n24 n25 n26 n27 n29 n30 n31 n32 n33 n34=bl at af;have hlb:bs.len=bl.length:=af.len;refine fZ (λst' W=>∃j:Nat,j<=19/\st'.1=(j:Int)/\Ext w2 W/\∀b∈bl.take j,okB b) (λst' _=>(19 - st'.1).toNat) ⟨0,by omega,rfl,Ext.refl _,by simp⟩ ?_;rintro⟨i,⟨⟩⟩ W ⟨j,hj,hi,hx,Z⟩ next ab
 simp only at hi;subst hi;have ag:=f1.trans f2;have raW:=(ra.ext f2).ext hx;by_cases an:(j:Int)<(bs.len:Int)
 ·simp -zeta only[an,decide_true,cond_true];have ah:=getElem?_eq_getElem (show j<bl.length by omega);have ac:=getElem_mem (show j<bl.length by omega);generalize bl[j]=x at ah ac;have ao:=Gp.Cfg.take_snoc ah;refine SlN_ix aeV (by omega) (af.ext hx) (by omega) (by rw[toNat_natCast];exact ah) λa' hc=> ?_;obtain⟨x0,x1,x2,⟨⟩⟩:=x;have c0:W.cell? (a'.add 0)=some (.int .i64 x0):=hc 0 _ rfl;have c1:W.cell? (a'.add 1)=some (.int .i64 x1):=hc 1 _ rfl;have c2:W.cell? (a'.add 2)=some (.int .i64 x2):=hc 2 _ rfl;simp -zeta only[fC,fD,c0,c1,c2];refine uP rfl rfl λt w3 rt et zt f3=> ?_;simp -zeta only[sx,rt.cell];refine lM (xH _ _ _ _) ?_;rintro _ w4 ⟨rfl,f4⟩;by_cases aa:x1<=x0/\x0<=x2
  ·simp -zeta only[aa,and_self,decide_true,Bool.not_true,cond_false];rw[wrap_i64 (by omega) (by omega)];refine ab _ _ ⟨j+1,by omega,by simp,(hx.trans f3).trans f4,?_⟩ (by simp only;omega);rw[ao];intro b hb;rcases List.mem_append.1 hb with hb|hb
   ·exact Z b hb
   ·rw[List.mem_singleton.1 hb];exact aa
  ·simp -zeta only[aa,decide_false,Bool.not_false,cond_true];exact⟨.inl ⟨λh=>aa (h.nums (x0,x1,x2,()) (by rw[am];exact ac)),by trivial⟩,((ag.trans hx).trans f3).trans f4⟩
 ·simp -zeta only[an,decide_false,cond_false];rw[take_of_length_le (by omega)] at Z;intro ai;have hJ:∀c W',Ext W W'->(c=false↔Y5 n28/\xg (p0,p1,p2,p3,p4,p5,p6,p7,p8,p9,u,z,I,J,U,Y,()) sw.len sl pl tl=true)->ai c W':=by
   intro c W' hx' hc;have raW:=raW.ext hx';have xx:=(ag.trans hx).trans hx';simp only[ai]
   cases c
   ·obtain⟨h1,h2⟩:=hc.1 rfl;have aa:OkP (p0,p1,p2,p3,p4,p5,p6,p7,p8,p9,u,z,I,J,U,Y,()) sw.len po.len st.len n18 n19 n20 n21 n22 n23 n24 n25 n26 n27 n28 n29 n30 n31 n32 n33 n34 sw.len sl pl tl:=⟨by rw[am];exact Z,h1,h2⟩;simp only[cond_false,cond_false,getElem?_cons_zero,getElem?_cons_succ,fC,fE,fD,raW.cell];refine KI (aaq (aj.ext xx) (ak.ext xx) (al.ext xx) lsw lpo lst λx hx=>acj (aa6 h2 x hx)) ?_;rintro r w5 ⟨h5,f5⟩
    cases r
    ·have ae:fineP (p0,p1,p2,p3,p4,p5,p6,p7,p8,p9,u,z,I,J,U,Y,()) sl pl tl sw.len n20:=by
      by_cases h:fineP (p0,p1,p2,p3,p4,p5,p6,p7,p8,p9,u,z,I,J,U,Y,()) sl pl tl sw.len n20
      ·exact h
      ·exact absurd (h5.2 h) (by simp)
     exact⟨.inr ⟨aa,.inr ⟨ae,by trivial⟩⟩,xx.trans f5⟩
    ·exact⟨.inr ⟨aa,.inl ⟨h5.1 rfl,by trivial⟩⟩,xx.trans f5⟩
   ·simp only[cond_true];refine⟨.inl ⟨λh=> ?_,by trivial⟩,xx⟩;have:=hc.2 ⟨h.mss,h.parts⟩
    cases this
  clear_value ai;simp -zeta only[getElem?_cons_zero,getElem?_cons_succ,fC,fD,raW.cell];refine OW (agc _ _) ?_;rintro _ w3 ⟨rfl,f3⟩;by_cases hm:Y5 n28
  ·have raW:=raW.ext f3;rw[decide_eq_true hm,Bool.not_true,cond_false];simp -zeta only[getElem?_cons_zero,getElem?_cons_succ,fC,fE,fD,raW.cell];have xx:=(ag.trans hx).trans f3;refine OU (afY (aj.ext xx) (ak.ext xx) (al.ext xx) (Nat.le_trans lsw (by omega)) (Nat.le_trans lpo (by omega)) (Nat.le_trans lst (by omega))) ?_;rintro _ w4 ⟨rfl,f4⟩;exact hJ _ _ (f3.trans f4) (by cases xg (p0,p1,p2,p3,p4,p5,p6,p7,p8,p9,u,z,I,J,U,Y,()) sw.len sl pl tl<;>simp[hm])
  ·rw[decide_eq_false hm,Bool.not_false,cond_true];exact hJ _ _ f3 (by simp[hm])
end Go.Proofs.CN
namespace Go.Proofs.CN
open Gp
theorem jR {n lo hi:Int} {w:World} {K:Bool->b_} (h:lo<=n/\n<=hi->K true w) (h':¬(lo<=n/\n<=hi)->K false w):gX n lo hi w K:=by
 refine Yp (amT n lo hi w) ?_;rintro r w' ⟨hr,hw⟩;subst hw;by_cases hb:lo<=n/\n<=hi
 ·rw[decide_eq_true hb] at hr;subst hr;exact h hb
 ·rw[decide_eq_false hb] at hr;subst hr;exact h' hb
def Gj (n20 n21 n22 n23 n24:Int):Prop:=(1<=n20/\n20<=4096)/\(1<=n21/\n21<=4096)/\(1<=n22/\n22<=4096)/\(0<=n23/\n23<=4096)/\(0<=n24/\n24<=67108864)
def IY (n25 n26 n27 n28 n29:Int):Prop:=(1280<=n25/\n25<=65535)/\(1280<=n26/\n26<=65535)/\(1<=n27/\n27<=255)/\(n28=0\/(536<=n28/\n28<=65535))/\(0<=n29/\n29<=2)
def Gs (n30 n31 n32 n33 n34:Int):Prop:=(120<=n30/\n30<=1048576)/\(7440<=n31/\n31<=1048576)/\(240<=n32/\n32<=1048576)/\(60<=n33/\n33<=1048576)/\(1<=n34/\n34<=1048576)
def NH (n18 n19:Int):Prop:=(1<=n18/\n18<=65535)/\(n18<=n19/\n19<=65535)
structure afV (n18 n19 n20 n21 n22 n23 n24 n25 n26 n27 n28 n29 n30 n31 n32 n33 n34:Int):Prop where
 rooms:Gj n20 n21 n22 n23 n24
 ways:IY n25 n26 n27 n28 n29
 waits:Gs n30 n31 n32 n33 n34
 ports:NH n18 n19
theorem aaY {p0 p1 p2 p3 p4 p5 p6 p7 p8 p9 U Y Z aa ab ac:Int} {sw po:eY} {n18 n19 n20 n21 n22 n23 n24 n25 n26 n27 n28 n29 n30 n31 n32 n33 n34:Int} {st:eY} (w:World):o7 p0 p1 p2 p3 p4 p5 p6 p7 p8 p9 U Y Z aa ab ac sw po n18 n19 n20 n21 n22 n23 n24 n25 n26 n27 n28 n29 n30 n31 n32 n33 n34 st w λr w'=>(r=true↔afV n18 n19 n20 n21 n22 n23 n24 n25 n26 n27 n28 n29 n30 n31 n32 n33 n34)/\Ext w w':=by
 apply Nw;refine fP λa w1 ra ea z1 f1=> ?_;simp -zeta only[sx,ra.cell];intro J4;have hJ4:∀j5,(j5=true↔Gj n20 n21 n22 n23 n24)->J4 j5 w1:=by
  intro j5 h5;simp -zeta only[J4];simp -zeta only[getElem?_cons_zero,getElem?_cons_succ,fC,fD,ra.cell];intro J7;have hJ7:∀j8,(j8=true↔IY n25 n26 n27 n28 n29)->J7 j8 w1:=by
   intro j8 h8;simp -zeta only[J7];simp -zeta only[getElem?_cons_zero,getElem?_cons_succ,fC,fD,ra.cell];intro J;have hJ10:∀z,(z=true↔Gs n30 n31 n32 n33 n34)->J z w1:=by
    intro z ae;simp -zeta only[J];intro I;have hJ13:∀u,(u=true↔(j5=true/\j8=true/\z=true/\NH n18 n19))->I u w1:=by
     intro u af;simp -zeta only[I];refine⟨af.trans ?_,f1⟩;rw[h5,h8,ae];exact⟨λh=>⟨h.1,h.2.1,h.2.2.1,h.2.2.2⟩,λh=>⟨h.rooms,h.ways,h.waits,h.ports⟩⟩
    clear_value I
    cases j5
    ·rw[cond_false];exact hJ13 _ ⟨λh=>(by cases h),λh=>(by cases h.1)⟩
    cases j8
    ·rw[cond_true,cond_false];exact hJ13 _ ⟨λh=>(by cases h),λh=>(by cases h.2.1)⟩
    cases z
    ·rw[cond_true,cond_true,cond_false];exact hJ13 _ ⟨λh=>(by cases h),λh=>(by cases h.2.2.1)⟩
    rw[cond_true,cond_true,cond_true];have hJ:∀u,(u=true↔NH n18 n19)->I u w1:=λj h=>hJ13 j ⟨λe=>⟨rfl,rfl,rfl,h.1 e⟩,λe=>h.2 e.2.2.2⟩;clear hJ13;simp -zeta only[getElem?_cons_zero,getElem?_cons_succ,fC,fD,ra.cell];refine jR (λh0=> ?_) (λhn=> ?_);rotate_left
    ·rw[cond_false];exact hJ _ ⟨λh=>(by cases h),λh=>absurd (by unfold NH at h;omega) hn⟩
    rw[cond_true]
    try simp -zeta only[getElem?_cons_zero,getElem?_cons_succ,fC,fD,ra.cell]
    refine jR (λh1=> ?_) (λhn=> ?_);rotate_left;exact hJ _ ⟨λh=>(by cases h),λh=>absurd (by unfold NH at h;omega) hn⟩;exact hJ _ ⟨λ_=>(by unfold NH;omega),λ_=>rfl⟩
   clear_value J;refine jR (λh0=> ?_) (λhn=> ?_);rotate_left
   ·rw[cond_false];exact hJ10 _ ⟨λh=>(by cases h),λh=>absurd (by unfold Gs at h;omega) hn⟩
   rw[cond_true]
   try simp -zeta only[getElem?_cons_zero,getElem?_cons_succ,fC,fD,ra.cell]
   refine jR (λh1=> ?_) (λhn=> ?_);rotate_left
   ·rw[cond_false];exact hJ10 _ ⟨λh=>(by cases h),λh=>absurd (by unfold Gs at h;omega) hn⟩
   rw[cond_true]
   try simp -zeta only[getElem?_cons_zero,getElem?_cons_succ,fC,fD,ra.cell]
   refine jR (λh2=> ?_) (λhn=> ?_);rotate_left
   ·rw[cond_false];exact hJ10 _ ⟨λh=>(by cases h),λh=>absurd (by unfold Gs at h;omega) hn⟩
   rw[cond_true]
   try simp -zeta only[getElem?_cons_zero,getElem?_cons_succ,fC,fD,ra.cell]
   refine jR (λh3=> ?_) (λhn=> ?_);rotate_left
   ·rw[cond_false];exact hJ10 _ ⟨λh=>(by cases h),λh=>absurd (by unfold Gs at h;omega) hn⟩
   rw[cond_true]
   try simp -zeta only[getElem?_cons_zero,getElem?_cons_succ,fC,fD,ra.cell]
   refine jR (λh4=> ?_) (λhn=> ?_);rotate_left;exact hJ10 _ ⟨λh=>(by cases h),λh=>absurd (by unfold Gs at h;omega) hn⟩;exact hJ10 _ ⟨λ_=>(by unfold Gs;omega),λ_=>rfl⟩
  clear_value J7;refine jR (λh0=> ?_) (λhn=> ?_);rotate_left
  ·rw[cond_false];exact hJ7 _ ⟨λh=>(by cases h),λh=>absurd (by unfold IY at h;omega) hn⟩
  rw[cond_true]
  try simp -zeta only[getElem?_cons_zero,getElem?_cons_succ,fC,fD,ra.cell]
  refine jR (λh1=> ?_) (λhn=> ?_);rotate_left
  ·rw[cond_false];exact hJ7 _ ⟨λh=>(by cases h),λh=>absurd (by unfold IY at h;omega) hn⟩
  rw[cond_true]
  try simp -zeta only[getElem?_cons_zero,getElem?_cons_succ,fC,fD,ra.cell]
  refine jR (λh2=> ?_) (λhn=> ?_);rotate_left
  ·rw[cond_false];exact hJ7 _ ⟨λh=>(by cases h),λh=>absurd (by unfold IY at h;omega) hn⟩
  rw[cond_true]
  try simp -zeta only[getElem?_cons_zero,getElem?_cons_succ,fC,fD,ra.cell]
  by_cases hm:n28=0
  ·rw[show (n28==0)=true by simpa using hm,cond_true]
   try simp -zeta only[sx,ra.cell]
   refine jR (λh3=> ?_) (λhn=> ?_);rotate_left;exact hJ7 _ ⟨λh=>(by cases h),λh=>absurd (by unfold IY at h;omega) hn⟩;exact hJ7 _ ⟨λ_=>(by unfold IY;omega),λ_=>rfl⟩
  rw[show (n28==0)=false by simpa using hm,cond_false]
  try simp -zeta only[sx,ra.cell]
  refine jR (λh4=> ?_) (λhn=> ?_);rotate_left
  ·rw[cond_false];exact hJ7 _ ⟨λh=>(by cases h),λh=>absurd (by unfold IY at h;omega) hn⟩
  rw[cond_true]
  try simp -zeta only[getElem?_cons_zero,getElem?_cons_succ,fC,fD,ra.cell]
  refine jR (λh5=> ?_) (λhn=> ?_);rotate_left;exact hJ7 _ ⟨λh=>(by cases h),λh=>absurd (by unfold IY at h;omega) hn⟩;exact hJ7 _ ⟨λ_=>(by unfold IY;omega),λ_=>rfl⟩
 clear_value J4;refine jR (λh0=> ?_) (λhn=> ?_);rotate_left
 ·rw[cond_false];exact hJ4 _ ⟨λh=>(by cases h),λh=>absurd (by unfold Gj at h;omega) hn⟩
 rw[cond_true]
 try simp -zeta only[getElem?_cons_zero,getElem?_cons_succ,fC,fD,ra.cell]
 refine jR (λh1=> ?_) (λhn=> ?_);rotate_left
 ·rw[cond_false];exact hJ4 _ ⟨λh=>(by cases h),λh=>absurd (by unfold Gj at h;omega) hn⟩
 rw[cond_true]
 try simp -zeta only[getElem?_cons_zero,getElem?_cons_succ,fC,fD,ra.cell]
 refine jR (λh2=> ?_) (λhn=> ?_);rotate_left
 ·rw[cond_false];exact hJ4 _ ⟨λh=>(by cases h),λh=>absurd (by unfold Gj at h;omega) hn⟩
 rw[cond_true]
 try simp -zeta only[getElem?_cons_zero,getElem?_cons_succ,fC,fD,ra.cell]
 refine jR (λh3=> ?_) (λhn=> ?_);rotate_left
 ·rw[cond_false];exact hJ4 _ ⟨λh=>(by cases h),λh=>absurd (by unfold Gj at h;omega) hn⟩
 rw[cond_true]
 try simp -zeta only[getElem?_cons_zero,getElem?_cons_succ,fC,fD,ra.cell]
 refine jR (λh4=> ?_) (λhn=> ?_);rotate_left;exact hJ4 _ ⟨λh=>(by cases h),λh=>absurd (by unfold Gj at h;omega) hn⟩;exact hJ4 _ ⟨λ_=>(by unfold Gj;omega),λ_=>rfl⟩
theorem aa_ {w:World} {p0 p1 p2 p3 p4 p5 p6 p7 p8 p9 J U Y Z aa ab:Int} {sw po:eY} {n18 n19 n20 n21 n22 n23 n24 n25 n26 n27 n28 n29 n30 n31 n32 n33 n34:Int} {st:eY} (x:Int) {pl:List Int} (z:lV 1 eI w po pl) (hl:po.len<=2^62):
  vC p0 p1 p2 p3 p4 p5 p6 p7 p8 p9 J U Y Z aa ab sw po n18 n19 n20 n21 n22 n23 n24 n25 n26 n27 n28 n29 n30 n31 n32 n33 n34 st x w λr w'=>r=decide (x∈pl)/\Ext w w':=by
 apply Uu;refine fP λa w1 ra ea z1 f1=> ?_;have z:=z.ext f1;have hlen:=z.len;refine fZ (λst' W=>∃j:Nat,j<=pl.length/\st'.1=(j:Int)/\W=w1/\x∉pl.take j) (λst' _=>(po.len - st'.1).toNat) ⟨0,by omega,rfl,rfl,by simp⟩ ?_;rintro⟨i,⟨⟩⟩ W ⟨j,hj,hi,hw,hm⟩ next u
 simp only at hi;subst hi;subst hw;simp only[sx,ra.cell];by_cases I:(j:Int)<(po.len:Int)
 ·simp only[I,decide_true,cond_true];have hx:=getElem?_eq_getElem (show j<pl.length by omega);refine SlN_ix qG (by omega) z (by omega) (by rw[toNat_natCast];exact hx) λa hc=> ?_;have c0:=hc 0 _ rfl;rw[show a.add 0=a from rfl] at c0;simp only[fC,fD,c0];by_cases he:pl[j]=x
  ·rw[show (pl[j]==x)=true by simpa using he,cond_true];exact⟨(decide_eq_true (by rw[<- he];exact getElem_mem _)).symm,f1⟩
  ·rw[show (pl[j]==x)=false by simpa using he,cond_false];rw[wrap_i64 (by omega) (by omega)];refine u _ _ ⟨j+1,by omega,by simp,rfl,?_⟩ (by simp only;omega);rw[Gp.Cfg.take_snoc hx,List.mem_append,List.mem_singleton];exact λh=>h.elim hm λe=>he e.symm
 ·simp only[I,decide_false,cond_false];rw[take_of_length_le (by omega)] at hm;exact⟨(decide_eq_false hm).symm,f1⟩
theorem adX {w:World} {p0 p1 p2 p3 p4 p5 p6 p7 p8 p9 U Y Z aa ab ac:Int} {sw po:eY} {n18 n19 n20 n21 n22 n23 n24 n25 n26 n27 n28 n29 n30 n31 n32 n33 n34:Int} {st:eY} {q0 q1 q2 q3 q4 q5 q6:Int} {pl:List Int} (hsl:sw.len<=2^62) (ae:lV 1 eI w po pl) (af:po.len<=2^62):
  qC p0 p1 p2 p3 p4 p5 p6 p7 p8 p9 U Y Z aa ab ac sw po n18 n19 n20 n21 n22 n23 n24 n25 n26 n27 n28 n29 n30 n31 n32 n33 n34 st q0 q1 q2 q3 q4 q5 q6 w λr w'=>(r=true↔DF sw.len pl (q0,q1,q2,q3,q4,q5,q6,()))/\Ext w w':=by
 apply Ph;refine fP λa w1 ra ea z1 f1=>fP λb w2 rb eb z2 f2=> ?_;have ra:=ra.ext f2;have x2:=f1.trans f2;clear f1 f2;simp -zeta only[sx,rb.cell];intro J7;have hJ7:∀j8,(j8=true↔(q1=1\/q1=6\/q1=17))->J7 j8:=by
  intro j8 h8;simp -zeta only[J7]
  try simp -zeta only[sx,rb.cell]
  intro J9;have hJ9:∀j,(j=true↔((0<=q3/\q3<=65535)/\(0<=q6/\q6<=65535)))->J9 j w2:=by
   intro j ag;simp -zeta only[J9];intro z;have hJ12:∀I W,Ext w2 W->(I=true↔(j8=true/\j=true/\q4=q1/\(0<=q0/\q0<=(sw.len:Int) - 1)/\lN q2/\q5∈pl))->z I W:=by
    intro I W hx ah;simp -zeta only[z];refine⟨ah.trans ?_,x2.trans hx⟩;rw[h8,ag];exact⟨λ⟨h1,h2,h3,h4,h5,h6⟩=>⟨h2,⟨h5,h6⟩,⟨h1,h3.symm⟩,h4⟩,λ⟨h2,J,u,h4⟩=>⟨u.1,h2,u.2.symm,h4,J.1,J.2⟩⟩
   clear_value z
   cases j8
   ·rw[cond_false];exact hJ12 _ _ (Ext.refl _) ⟨λh=>(by cases h),λh=>(by cases h.1)⟩
   cases j
   ·rw[cond_true,cond_false];exact hJ12 _ _ (Ext.refl _) ⟨λh=>(by cases h),λh=>(by cases h.2.1)⟩
   rw[cond_true,cond_true]
   try simp -zeta only[getElem?_cons_zero,getElem?_cons_succ,fC,fD,rb.cell]
   by_cases he:q4=q1;rotate_left
   ·rw[show (q4==q1)=false by simpa using he,cond_false];exact hJ12 _ _ (Ext.refl _) ⟨λh=>(by cases h),λh=>absurd h.2.2.1 he⟩
   rw[show (q4==q1)=true by simpa using he,cond_true];have rb0:w2.cell? ⟨b,0,none⟩=some (.int .i64 q0):=rb.cell 0;simp -zeta only[getElem?_cons_zero,getElem?_cons_succ,fC,fE,ra.cell];rw[wrap_i64 (by omega) (by omega)];refine jR (λh4=> ?_) (λhn=> ?_);rotate_left
   ·rw[cond_false];exact hJ12 _ _ (Ext.refl _) ⟨λh=>(by cases h),λh=>absurd h.2.2.2.1 hn⟩
   rw[cond_true]
   try simp -zeta only[getElem?_cons_zero,getElem?_cons_succ,fC,fD,rb.cell]
   refine Iy (Oy _ _) ?_;rintro _ w' ⟨rfl,hw⟩;subst hw;by_cases h5:lN q2;rotate_left
   ·rw[decide_eq_false h5,cond_false];exact hJ12 _ _ (Ext.refl _) ⟨λh=>(by cases h),λh=>absurd h.2.2.2.2.1 h5⟩
   rw[decide_eq_true h5,cond_true];simp -zeta only[getElem?_cons_zero,getElem?_cons_succ,fC,fE,fD,ra.cell,rb.cell];refine TU (aa_ _ (ae.ext x2) af) ?_;rintro _ w' ⟨rfl,hf⟩;exact hJ12 _ _ hf ⟨λh=>⟨rfl,rfl,he,h4,h5,of_decide_eq_true h⟩,λh=>decide_eq_true h.2.2.2.2.2⟩
  clear_value J9;refine jR (λh1=> ?_) (λhn=> ?_);rotate_left
  ·rw[cond_false];exact hJ9 _ ⟨λh=>(by cases h),λh=>absurd h.1 hn⟩
  rw[cond_true]
  try simp -zeta only[getElem?_cons_zero,getElem?_cons_succ,fC,fD,rb.cell]
  refine jR (λh2=> ?_) (λhn=> ?_)
  ·exact hJ9 _ ⟨λ_=>⟨h1,h2⟩,λ_=>rfl⟩
  ·exact hJ9 _ ⟨λh=>(by cases h),λh=>absurd h.2 hn⟩
 clear_value J7;by_cases h1:q1=1
 ·rw[show (q1==1)=true by simpa using h1,cond_true];exact hJ7 _ ⟨λ_=> .inl h1,λ_=>rfl⟩
 rw[show (q1==1)=false by simpa using h1,cond_false]
 try simp -zeta only[sx,rb.cell]
 by_cases h6:q1=6
 ·rw[show (q1==6)=true by simpa using h6,cond_true];exact hJ7 _ ⟨λ_=> .inr (.inl h6),λ_=>rfl⟩
 rw[show (q1==6)=false by simpa using h6,cond_false]
 try simp -zeta only[sx,rb.cell]
 exact hJ7 _ ⟨λh=> .inr (.inr (by simpa using h)),λh=>by rcases h with h|h|h;exact absurd h h1;exact absurd h h6;simpa using h⟩
end Go.Proofs.CN
namespace Go.Proofs.CN
open Gp
structure afC (p:T16) (ls lp lt n21:Int) (n:Nat) (sl:List T16) (pl:List Int) (tl:List T7):Prop where
 own:mX p=true
 nsw:1<=ls/\ls<=64
 npo:1<=lp/\lp<=16
 nst:lt<=64
 nbi:lt<=n21
 sws:∀x∈sl,mX x=true
 pos:∀x∈pl,lN x
 sts:∀x∈tl,DF n pl x
theorem Kv {α:Type} {P:α->Prop} {l:List α} {j:Nat} {x:α} (hx:l[j]? =some x) (h:∀y∈l.take j,P y) (hp:P x):∀y∈l.take (j+1),P y:=by
 rw[Gp.Cfg.take_snoc hx];intro y hy;rcases List.mem_append.1 hy with hy|hy
 ·exact h y hy
 ·rw[List.mem_singleton.1 hy];exact hp
theorem afD {w:World} {p0 p1 p2 p3 p4 p5 p6 p7 p8 p9 ae af ag ah ai aj:Int} {sw po:eY} {n18 n19 n20 n21 n22 n23 n24 n25 n26 n27 n28 n29 n30 n31 n32 n33 n34:Int} {st:eY} {sl:List T16} {pl:List Int} {tl:List T7} (al:lV 16 e16 w sw sl) (ak:lV 1 eI w po pl) (am:lV 7 e7 w st tl) (lsw:sw.len<=2^40) (lpo:po.len<=2^40) (lst:st.len<=2^40):
  sH p0 p1 p2 p3 p4 p5 p6 p7 p8 p9 ae af ag ah ai aj sw po n18 n19 n20 n21 n22 n23 n24 n25 n26 n27 n28 n29 n30 n31 n32 n33 n34 st w λr w'=>(r=true↔afC (p0,p1,p2,p3,p4,p5,p6,p7,p8,p9,ae,af,ag,ah,ai,aj,()) sw.len po.len st.len n21 sw.len sl pl tl)/\Ext w w':=by
 apply RN;refine fP λa w1 ra ea z1 f1=> ?_;simp -zeta only[sx,ra.cell];have hlsw:=al.len;have hlpo:=ak.len;have hlst:=am.len;intro J4;have hJ4:∀j5 W0,Ext w1 W0->(j5=false↔mX (p0,p1,p2,p3,p4,p5,p6,p7,p8,p9,ae,af,ag,ah,ai,aj,())=true/\(1<=(sw.len:Int)/\(sw.len:Int)<=64)/\(1<=(po.len:Int)/\(po.len:Int)<=16)/\(st.len:Int)<=64/\(st.len:Int)<=n21)->J4 j5 W0:=by
  intro j5 W0 x0 h5;simp -zeta only[J4];have x0:=f1.trans x0
  cases j5
  rotate_left
  ·rw[cond_true];exact⟨⟨λh=>(by cases h),λh=>(by cases h5.2 ⟨h.own,h.nsw,h.npo,h.nst,h.nbi⟩)⟩,x0⟩
  rw[cond_false];obtain⟨g1,g2,g3,g4,g5⟩:=h5.1 rfl;clear h5;refine fZ (λst' W=>∃j:Nat,j<=sl.length/\st'.1=(j:Int)/\Ext W0 W/\∀x∈sl.take j,mX x=true) (λst' _=>(sl.length - st'.1).toNat) ⟨0,by omega,rfl,Ext.refl _,by simp⟩ ?_;rintro⟨i,⟨⟩⟩ W ⟨j,hj,hi,hx,Z⟩ next u
  simp only at hi;subst hi;have xW:=x0.trans hx;have raW:=(ra.ext (by assumption)).ext hx;simp -zeta only[getElem?_cons_zero,getElem?_cons_succ,fC,fE,raW.cell];by_cases an:(j:Int)<(sw.len:Int)
  ·rw[decide_eq_true an,cond_true];have I:=getElem?_eq_getElem (show j<sl.length by omega);have z:=getElem_mem (show j<sl.length by omega);generalize sl[j]=x at I z;have aa:=Kv I Z;refine SlN_ix pW (by omega) (al.ext xW) (by omega) (by rw[toNat_natCast];exact I) λa' hc=> ?_;obtain⟨x0,x1,x2,x3,x4,x5,x6,x7,x8,x9,ao,aq,ar,au,av,aw,⟨⟩⟩:=x;have c0:W.cell? (a'.add 0)=some (.int .u8 x0):=hc 0 _ rfl;have c1:W.cell? (a'.add 1)=some (.int .u8 x1):=hc 1 _ rfl;have c2:W.cell? (a'.add 2)=some (.int .u8 x2):=hc 2 _ rfl;have c3:W.cell? (a'.add 3)=some (.int .u8 x3):=hc 3 _ rfl;have c4:W.cell? (a'.add 4)=some (.int .u8 x4):=hc 4 _ rfl;have c5:W.cell? (a'.add 5)=some (.int .u8 x5):=hc 5 _ rfl;have c6:W.cell? (a'.add 6)=some (.int .u8 x6):=hc 6 _ rfl;have c7:W.cell? (a'.add 7)=some (.int .u8 x7):=hc 7 _ rfl;have c8:W.cell? (a'.add 8)=some (.int .u8 x8):=hc 8 _ rfl;have c9:W.cell? (a'.add 9)=some (.int .u8 x9):=hc 9 _ rfl;have ax:W.cell? (a'.add 10)=some (.int .u8 ao):=hc 10 _ rfl;have ay:W.cell? (a'.add 11)=some (.int .u8 aq):=hc 11 _ rfl;have az:W.cell? (a'.add 12)=some (.int .u8 ar):=hc 12 _ rfl;have aA:W.cell? (a'.add 13)=some (.int .u8 au):=hc 13 _ rfl;have aB:W.cell? (a'.add 14)=some (.int .u8 av):=hc 14 _ rfl;have aC:W.cell? (a'.add 15)=some (.int .u8 aw):=hc 15 _ rfl;simp -zeta only[fC,fD,c0,c1,c2,c3,c4,c5,c6,c7,c8,c9,ax,ay,az,aA,aB,aC];refine Iz (Sj _) ?_;rintro r w3 ⟨hr,f3⟩
   cases hh:mX (x0,x1,x2,x3,x4,x5,x6,x7,x8,x9,ao,aq,ar,au,av,aw,())
   ·rw[hh] at hr;subst hr;rw[Bool.not_false,cond_true];exact⟨⟨λh=>(by cases h),λh=>(by have:=h.sws _ z;rw[hh] at this;cases this)⟩,xW.trans f3⟩
   ·rw[hh] at hr;subst hr;rw[Bool.not_true,cond_false,wrap_i64 (by omega) (by omega)];exact u _ _ ⟨j+1,by omega,by simp,hx.trans f3,aa hh⟩ (by simp only;omega)
  rw[decide_eq_false an,cond_false];rw[take_of_length_le (by omega)] at Z;clear u;refine fZ (λst' V=>∃j:Nat,j<=pl.length/\st'.1=(j:Int)/\Ext W V/\∀x∈pl.take j,lN x) (λst' _=>(pl.length - st'.1).toNat) ⟨0,by omega,rfl,Ext.refl _,by simp⟩ ?_;rintro⟨i,⟨⟩⟩ V ⟨k,hk,hi,hv,J⟩ next u
  simp only at hi;subst hi;have xV:=xW.trans hv;have raV:=raW.ext hv;simp -zeta only[getElem?_cons_zero,getElem?_cons_succ,fC,fE,raV.cell];by_cases ab:(k:Int)<(po.len:Int)
  ·rw[decide_eq_true ab,cond_true];have I:=getElem?_eq_getElem (show k<pl.length by omega);have z:=getElem_mem (show k<pl.length by omega);generalize pl[k]=x at I z;have aa:=Kv I J;refine SlN_ix qG (by omega) (ak.ext xV) (by omega) (by rw[toNat_natCast];exact I) λa' hc=> ?_;have c0:=hc 0 _ rfl;rw[show a'.add 0=a' from rfl] at c0;simp -zeta only[fC,fD,c0];refine Iy (Oy _ _) ?_;rintro r w3 ⟨hr,hw⟩;subst hw;by_cases hh:lN x
   ·rw[decide_eq_true hh] at hr;subst hr;rw[Bool.not_true,cond_false,wrap_i64 (by omega) (by omega)];exact u _ _ ⟨k+1,by omega,by simp,hv,aa hh⟩ (by simp only;omega)
   ·rw[decide_eq_false hh] at hr;subst hr;rw[Bool.not_false,cond_true];exact⟨⟨λh=>(by cases h),λh=>absurd (h.pos _ z) hh⟩,xV⟩
  rw[decide_eq_false ab,cond_false];rw[take_of_length_le (by omega)] at J;clear u;refine fZ (λst' U=>∃j:Nat,j<=tl.length/\st'.1=(j:Int)/\Ext V U/\∀x∈tl.take j,DF sw.len pl x) (λst' _=>(tl.length - st'.1).toNat) ⟨0,by omega,rfl,Ext.refl _,by simp⟩ ?_;rintro⟨i,⟨⟩⟩ U ⟨m,hm,hi,hu,Y⟩ next u
  simp only at hi;subst hi;have xU:=xV.trans hu;have raU:=raV.ext hu;have rdU:=raU.drew;have dU:=xU.trans (Ext.drew U);simp -zeta only[getElem?_cons_zero,getElem?_cons_succ,fC,fE,raU.cell];by_cases ac:(m:Int)<(st.len:Int)
  ·rw[decide_eq_true ac,cond_true];have I:=getElem?_eq_getElem (show m<tl.length by omega);have z:=getElem_mem (show m<tl.length by omega);generalize tl[m]=x at I z;have aa:=Kv I Y;simp -zeta only[getElem?_cons_zero,getElem?_cons_succ,fC,fE,fD,rdU.cell];refine SlN_ix wR (by omega) (am.ext dU) (by omega) (by rw[toNat_natCast];exact I) λa' hc=> ?_;obtain⟨x0,x1,x2,x3,x4,x5,x6,⟨⟩⟩:=x;have c0:U.drew.cell? (a'.add 0)=some (.int .i64 x0):=hc 0 _ rfl;have c1:U.drew.cell? (a'.add 1)=some (.int .i64 x1):=hc 1 _ rfl;have c2:U.drew.cell? (a'.add 2)=some (.int .i64 x2):=hc 2 _ rfl;have c3:U.drew.cell? (a'.add 3)=some (.int .i64 x3):=hc 3 _ rfl;have c4:U.drew.cell? (a'.add 4)=some (.int .i64 x4):=hc 4 _ rfl;have c5:U.drew.cell? (a'.add 5)=some (.int .i64 x5):=hc 5 _ rfl;have c6:U.drew.cell? (a'.add 6)=some (.int .i64 x6):=hc 6 _ rfl;simp -zeta only[fC,fD,c0,c1,c2,c3,c4,c5,c6];refine OX (adX (Nat.le_trans lsw (by omega)) (ak.ext dU) (Nat.le_trans lpo (by omega))) ?_;rintro r w3 ⟨hr,f3⟩
   cases r
   ·rw[Bool.not_false,cond_true];exact⟨⟨λh=>(by cases h),λh=>(by cases hr.2 (h.sts _ z))⟩,dU.trans f3⟩
   ·rw[Bool.not_true,cond_false,wrap_i64 (by omega) (by omega)];exact u _ _ ⟨m+1,by omega,by simp,(hu.trans (Ext.drew U)).trans f3,aa (hr.1 rfl)⟩ (by simp only;omega)
  rw[decide_eq_false ac,cond_false];rw[take_of_length_le (by omega)] at Y;exact⟨⟨λ_=>⟨g1,g2,g3,g4,g5,Z,J,Y⟩,λ_=>by trivial⟩,xU⟩
 clear_value J4;refine Iz (Sj _) ?_;rintro r w3 ⟨hr,f3⟩
 cases hh:mX (p0,p1,p2,p3,p4,p5,p6,p7,p8,p9,ae,af,ag,ah,ai,aj,())
 ·rw[hh] at hr;subst hr;rw[Bool.not_false,cond_true];exact hJ4 _ _ f3 ⟨λh=>(by cases h),λh=>(by rw[hh] at h;cases h.1)⟩
 rw[hh] at hr;subst hr;rw[Bool.not_true,cond_false];have ra3:=ra.ext f3;simp -zeta only[getElem?_cons_zero,getElem?_cons_succ,fC,fE,ra3.cell];refine jR (λh2=> ?_) (λhn=> ?_);rotate_left
 ·rw[Bool.not_false,cond_true];exact hJ4 _ _ f3 ⟨λh=>(by cases h),λh=>absurd h.2.1 hn⟩
 rw[Bool.not_true,cond_false]
 try simp -zeta only[getElem?_cons_zero,getElem?_cons_succ,fC,fE,ra3.cell]
 refine jR (λh3=> ?_) (λhn=> ?_);rotate_left
 ·rw[Bool.not_false,cond_true];exact hJ4 _ _ f3 ⟨λh=>(by cases h),λh=>absurd h.2.2.1 hn⟩
 rw[Bool.not_true,cond_false]
 try simp -zeta only[getElem?_cons_zero,getElem?_cons_succ,fC,fE,fD,ra3.cell]
 by_cases h4:(st.len:Int)>64
 ·rw[decide_eq_true h4,cond_true];exact hJ4 _ _ f3 ⟨λh=>(by cases h),λh=>by have:=h.2.2.2.1;omega⟩
 rw[decide_eq_false h4,cond_false]
 try simp -zeta only[sx,ra3.cell]
 by_cases h5:(st.len:Int)>n21
 ·rw[decide_eq_true h5];exact hJ4 _ _ f3 ⟨λh=>(by cases h),λh=>by have:=h.2.2.2.2;omega⟩
 ·rw[decide_eq_false h5];exact hJ4 _ _ f3 ⟨λ_=>⟨hh,h2,h3,by omega,by omega⟩,λ_=>by trivial⟩
end Go.Proofs.CN
namespace Go.Proofs.CN
open Gp
theorem aiP {a0 a1 a2 a3 a4 a5 a6 a7 a8 a9 j u a12 z I J:Int} {b0 b1 b2 b3 b4 b5 b6 b7 b8 b9 U Y Z aa ab ac:Int} (c:Bool) (hc:c=((a0==b0) && ((a1==b1) && ((a2==b2) && ((a3==b3) && ((a4==b4) && ((a5==b5) && ((a6==b6) && ((a7==b7) && ((a8==b8) && ((a9==b9) && ((j==U) && ((u==Y) && ((a12==Z) && ((z==aa) && ((I==ab) && ((J==ac) && true))))))))))))))))):c=decide (((a0,a1,a2,a3,a4,a5,a6,a7,a8,a9,j,u,a12,z,I,J,()):T16)=(b0,b1,b2,b3,b4,b5,b6,b7,b8,b9,U,Y,Z,aa,ab,ac,())):=by
 subst hc;simp[T_,decide_and]
theorem aop {a0 a1 a2 a3:Int} {b0 b1 b2 b3:Int} (c:Bool) (hc:c=((a0==b0) && ((a1==b1) && ((a2==b2) && ((a3==b3) && true))))):c=decide (((a0,a1,a2,a3,()):T4)=(b0,b1,b2,b3,())):=by
 subst hc;simp[T_,decide_and]
theorem aoo {a0 a1 a2:Int} {b0 b1 b2:Int} (c:Bool) (hc:c=((a0==b0) && ((a1==b1) && ((a2==b2) && true)))):c=decide (((a0,a1,a2,()):T3)=(b0,b1,b2,())):=by
 subst hc;simp[T_,decide_and]
structure abO (p:T16) (sl:List T16) (pl:List Int) (tl:List T7) (q:Int):Prop where
 sws:∀(i:Nat) x,sl[i]? =some x->x∉sl.take i/\x≠p
 pos:∀(i:Nat) x,pl[i]? =some x->x∉pl.take i
 sts:∀(i:Nat) x,tl[i]? =some x->Gp.Cfg.Fine lY oH EK q tl i x
theorem W_ {α:Type} {P:Nat->α->Prop} {l:List α} {j:Nat} {x:α} (hx:l[j]? =some x) (h:∀(i:Nat) y,i<j->l[i]? =some y->P i y) (hp:P j x):∀(i:Nat) y,i<j+1->l[i]? =some y->P i y:=by
 intro i y hi hy;by_cases he:i=j
 ·subst he;rw[hx] at hy
  cases hy
  exact hp
 ·exact h i y (by omega) hy
theorem aaP {α:Type} {P:Nat->α->Prop} {l:List α} {j:Nat} (hj:l.length<=j) (h:∀(i:Nat) y,i<j->l[i]? =some y->P i y):∀(i:Nat) y,l[i]? =some y->P i y:=
 λi y hy=>h i y (by have:=(List.getElem?_eq_some_iff.1 hy).1;omega) hy
theorem FK {α:Type} {l:List α} {k j:Nat} {x:α} (hx:l[k]? =some x) (h:k<j):x∈l.take j:=by
 obtain⟨h1,rfl⟩:=List.getElem?_eq_some_iff.1 hx;exact List.mem_take_iff_getElem.2 ⟨k,by omega,rfl⟩
theorem Zz {w:World} {p0 p1 p2 p3 p4 p5 p6 p7 p8 p9 aw ax ay az aA aB:Int} {sw po:eY} {n18 n19 n20 n21 n22 n23 n24 n25 n26 n27 n28 n29 n30 n31 n32 n33 n34:Int} {st:eY} {sl:List T16} {pl:List Int} {tl:List T7} (aD:lV 16 e16 w sw sl) (aE:lV 1 eI w po pl) (aC:lV 7 e7 w st tl) (lsw:sw.len<=2^40) (lpo:po.len<=2^40) (lst:st.len<=2^40):
  sJ p0 p1 p2 p3 p4 p5 p6 p7 p8 p9 aw ax ay az aA aB sw po n18 n19 n20 n21 n22 n23 n24 n25 n26 n27 n28 n29 n30 n31 n32 n33 n34 st w λr w'=>(r=true↔¬abO (p0,p1,p2,p3,p4,p5,p6,p7,p8,p9,aw,ax,ay,az,aA,aB,()) sl pl tl n20)/\Ext w w':=by
 apply RP;refine fP λa w1 ra ea z1 f1=> ?_;have hlsw:=aD.len;have hlpo:=aE.len;have hlst:=aC.len;refine fZ (λst' W=>∃j:Nat,j<=sl.length/\st'.1=(j:Int)/\Ext w1 W/\∀(i:Nat) x,i<j->sl[i]? =some x->x∉sl.take i/\x≠(p0,p1,p2,p3,p4,p5,p6,p7,p8,p9,aw,ax,ay,az,aA,aB,())) (λst' _=>(sl.length - st'.1).toNat) ⟨0,by omega,rfl,Ext.refl _,by omega⟩ ?_;rintro⟨i,⟨⟩⟩ W ⟨j,hj,hi,hx,af⟩ next u
 simp only at hi;subst hi;have xW:=f1.trans hx;have raW:=ra.ext hx;simp -zeta only[sx,raW.cell];by_cases aF:(j:Int)<(sw.len:Int)
 ·rw[decide_eq_true aF,cond_true];have J:=getElem?_eq_getElem (show j<sl.length by omega);generalize sl[j]=x at J;refine fZ (λst' V=>∃k:Nat,k<=j/\st'.1=(k:Int)/\Ext W V/\x∉sl.take k) (λst' _=>(j - st'.1).toNat) ⟨0,by omega,rfl,Ext.refl _,by simp⟩ ?_;rintro⟨i,⟨⟩⟩ V ⟨k,hk,hi,hv,ai⟩ next2 I;simp only at hi;subst hi;have dV:=hv.trans (Ext.drew V);have xV:=xW.trans dV;have raV:=raW.ext dV;have ah:=aD.ext xV;by_cases ac:(k:Int)<(j:Int)
  ·rw[decide_eq_true ac,cond_true];simp -zeta only[getElem?_cons_zero,getElem?_cons_succ,fC,fE,raV.cell];have Y:=getElem?_eq_getElem (show k<sl.length by omega);generalize sl[k]=y at Y;refine SlN_ix pW (by omega) ah (by omega) (by rw[toNat_natCast];exact Y) λa' hc=> ?_;obtain⟨y0,y1,y2,y3,y4,y5,y6,y7,y8,y9,aG,aH,aI,aJ,aK,aL,⟨⟩⟩:=y;have c0:V.drew.cell? (a'.add 0)=some (.int .u8 y0):=hc 0 _ rfl;have c1:V.drew.cell? (a'.add 1)=some (.int .u8 y1):=hc 1 _ rfl;have c2:V.drew.cell? (a'.add 2)=some (.int .u8 y2):=hc 2 _ rfl;have c3:V.drew.cell? (a'.add 3)=some (.int .u8 y3):=hc 3 _ rfl;have c4:V.drew.cell? (a'.add 4)=some (.int .u8 y4):=hc 4 _ rfl;have c5:V.drew.cell? (a'.add 5)=some (.int .u8 y5):=hc 5 _ rfl;have c6:V.drew.cell? (a'.add 6)=some (.int .u8 y6):=hc 6 _ rfl;have c7:V.drew.cell? (a'.add 7)=some (.int .u8 y7):=hc 7 _ rfl;have c8:V.drew.cell? (a'.add 8)=some (.int .u8 y8):=hc 8 _ rfl;have c9:V.drew.cell? (a'.add 9)=some (.int .u8 y9):=hc 9 _ rfl;have aM:V.drew.cell? (a'.add 10)=some (.int .u8 aG):=hc 10 _ rfl;have aN:V.drew.cell? (a'.add 11)=some (.int .u8 aH):=hc 11 _ rfl;have aO:V.drew.cell? (a'.add 12)=some (.int .u8 aI):=hc 12 _ rfl;have aP:V.drew.cell? (a'.add 13)=some (.int .u8 aJ):=hc 13 _ rfl;have aQ:V.drew.cell? (a'.add 14)=some (.int .u8 aK):=hc 14 _ rfl;have aR:V.drew.cell? (a'.add 15)=some (.int .u8 aL):=hc 15 _ rfl;simp -zeta only[fC,fD,c0,c1,c2,c3,c4,c5,c6,c7,c8,c9,aM,aN,aO,aP,aQ,aR];refine SlN_ix pW (by omega) ah (by omega) (by rw[toNat_natCast];exact J) λa'' hd=> ?_;obtain⟨x0,x1,x2,x3,x4,x5,x6,x7,x8,x9,aj,ak,al,am,an,ao,⟨⟩⟩:=x;have d0:V.drew.cell? (a''.add 0)=some (.int .u8 x0):=hd 0 _ rfl;have d1:V.drew.cell? (a''.add 1)=some (.int .u8 x1):=hd 1 _ rfl;have d2:V.drew.cell? (a''.add 2)=some (.int .u8 x2):=hd 2 _ rfl;have d3:V.drew.cell? (a''.add 3)=some (.int .u8 x3):=hd 3 _ rfl;have d4:V.drew.cell? (a''.add 4)=some (.int .u8 x4):=hd 4 _ rfl;have d5:V.drew.cell? (a''.add 5)=some (.int .u8 x5):=hd 5 _ rfl;have d6:V.drew.cell? (a''.add 6)=some (.int .u8 x6):=hd 6 _ rfl;have d7:V.drew.cell? (a''.add 7)=some (.int .u8 x7):=hd 7 _ rfl;have d8:V.drew.cell? (a''.add 8)=some (.int .u8 x8):=hd 8 _ rfl;have d9:V.drew.cell? (a''.add 9)=some (.int .u8 x9):=hd 9 _ rfl;have d10:V.drew.cell? (a''.add 10)=some (.int .u8 aj):=hd 10 _ rfl;have d11:V.drew.cell? (a''.add 11)=some (.int .u8 ak):=hd 11 _ rfl;have d12:V.drew.cell? (a''.add 12)=some (.int .u8 al):=hd 12 _ rfl;have d13:V.drew.cell? (a''.add 13)=some (.int .u8 am):=hd 13 _ rfl;have d14:V.drew.cell? (a''.add 14)=some (.int .u8 an):=hd 14 _ rfl;have d15:V.drew.cell? (a''.add 15)=some (.int .u8 ao):=hd 15 _ rfl;simp -zeta only[fC,fD,d0,d1,d2,d3,d4,d5,d6,d7,d8,d9,d10,d11,d12,d13,d14,d15];rw[aiP _ rfl];by_cases he:((y0,y1,y2,y3,y4,y5,y6,y7,y8,y9,aG,aH,aI,aJ,aK,aL,()):T16)=(x0,x1,x2,x3,x4,x5,x6,x7,x8,x9,aj,ak,al,am,an,ao,())
   ·rw[decide_eq_true he,cond_true];refine⟨⟨λ_ h=> ?_,λ_=>by trivial⟩,xV⟩;exact(h.sws j _ J).1 (he ▸ FK Y (by omega))
   ·rw[decide_eq_false he,cond_false,wrap_i64 (by omega) (by omega)];refine I _ _ ⟨k+1,by omega,by simp,dV,?_⟩ (by simp only;omega);rw[Gp.Cfg.take_snoc Y];intro hm;rcases List.mem_append.1 hm with hm|hm
    ·exact ai hm
    ·exact he (List.mem_singleton.1 hm).symm
  ·have aq:k=j:=by omega
   subst aq;rw[decide_eq_false ac,cond_false];simp -zeta only[getElem?_cons_zero,getElem?_cons_succ,fC,fE,fD,raV.cell];refine SlN_ix pW (by omega) ah (by omega) (by rw[toNat_natCast];exact J) λa'' hd=> ?_;obtain⟨x0,x1,x2,x3,x4,x5,x6,x7,x8,x9,aj,ak,al,am,an,ao,⟨⟩⟩:=x;have d0:V.drew.cell? (a''.add 0)=some (.int .u8 x0):=hd 0 _ rfl;have d1:V.drew.cell? (a''.add 1)=some (.int .u8 x1):=hd 1 _ rfl;have d2:V.drew.cell? (a''.add 2)=some (.int .u8 x2):=hd 2 _ rfl;have d3:V.drew.cell? (a''.add 3)=some (.int .u8 x3):=hd 3 _ rfl;have d4:V.drew.cell? (a''.add 4)=some (.int .u8 x4):=hd 4 _ rfl;have d5:V.drew.cell? (a''.add 5)=some (.int .u8 x5):=hd 5 _ rfl;have d6:V.drew.cell? (a''.add 6)=some (.int .u8 x6):=hd 6 _ rfl;have d7:V.drew.cell? (a''.add 7)=some (.int .u8 x7):=hd 7 _ rfl;have d8:V.drew.cell? (a''.add 8)=some (.int .u8 x8):=hd 8 _ rfl;have d9:V.drew.cell? (a''.add 9)=some (.int .u8 x9):=hd 9 _ rfl;have d10:V.drew.cell? (a''.add 10)=some (.int .u8 aj):=hd 10 _ rfl;have d11:V.drew.cell? (a''.add 11)=some (.int .u8 ak):=hd 11 _ rfl;have d12:V.drew.cell? (a''.add 12)=some (.int .u8 al):=hd 12 _ rfl;have d13:V.drew.cell? (a''.add 13)=some (.int .u8 am):=hd 13 _ rfl;have d14:V.drew.cell? (a''.add 14)=some (.int .u8 an):=hd 14 _ rfl;have d15:V.drew.cell? (a''.add 15)=some (.int .u8 ao):=hd 15 _ rfl;simp -zeta only[fC,fD,d0,d1,d2,d3,d4,d5,d6,d7,d8,d9,d10,d11,d12,d13,d14,d15];rw[aiP _ rfl];by_cases he:((x0,x1,x2,x3,x4,x5,x6,x7,x8,x9,aj,ak,al,am,an,ao,()):T16)=(p0,p1,p2,p3,p4,p5,p6,p7,p8,p9,aw,ax,ay,az,aA,aB,())
   ·rw[decide_eq_true he,cond_true];exact⟨⟨λ_ h=>(h.sws _ _ J).2 he,λ_=>by trivial⟩,xV⟩
   ·rw[decide_eq_false he,cond_false,wrap_i64 (by omega) (by omega)];exact u _ _ ⟨k+1,by omega,by simp,hx.trans dV,W_ J af ⟨ai,he⟩⟩ (by simp only;omega)
 rw[decide_eq_false aF,cond_false];have af:=aaP (by omega) af;clear u;refine fZ (λst' V=>∃j:Nat,j<=pl.length/\st'.1=(j:Int)/\Ext W V/\∀(i:Nat) x,i<j->pl[i]? =some x->x∉pl.take i) (λst' _=>(pl.length - st'.1).toNat) ⟨0,by omega,rfl,Ext.refl _,by omega⟩ ?_;rintro⟨i,⟨⟩⟩ V ⟨j2,hj2,hi,hv,aa⟩ next u
 simp only at hi;subst hi;have xV:=xW.trans hv;have raV:=raW.ext hv;simp -zeta only[getElem?_cons_zero,getElem?_cons_succ,fC,fE,raV.cell];by_cases ac:(j2:Int)<(po.len:Int)
 ·rw[decide_eq_true ac,cond_true];have J:=getElem?_eq_getElem (show j2<pl.length by omega);generalize pl[j2]=x at J;refine fZ (λst' U=>∃k:Nat,k<=j2/\st'.1=(k:Int)/\Ext V U/\x∉pl.take k) (λst' _=>(j2 - st'.1).toNat) ⟨0,by omega,rfl,Ext.refl _,by simp⟩ ?_;rintro⟨i,⟨⟩⟩ U ⟨k,hk,hi,hu,ai⟩ next2 I;simp only at hi;subst hi;by_cases ae:(k:Int)<(j2:Int)
  ·have dU:=hu.trans (Ext.drew U);have xU:=xV.trans dU;have raU:=raV.ext dU;have ar:=aE.ext xU;rw[decide_eq_true ae,cond_true];simp -zeta only[getElem?_cons_zero,getElem?_cons_succ,fC,fE,raU.cell];have Y:=getElem?_eq_getElem (show k<pl.length by omega);generalize pl[k]=y at Y;refine SlN_ix qG (by omega) ar (by omega) (by rw[toNat_natCast];exact Y) λa' hc=> ?_;have c0:=hc 0 _ rfl;rw[show a'.add 0=a' from rfl] at c0;simp -zeta only[fC,fD,c0];refine SlN_ix qG (by omega) ar (by omega) (by rw[toNat_natCast];exact J) λa'' hd=> ?_;have d0:=hd 0 _ rfl;rw[show a''.add 0=a'' from rfl] at d0;simp -zeta only[fC,fD,d0];rw[T_];by_cases he:y=x
   ·rw[decide_eq_true he,cond_true];refine⟨⟨λ_ h=> ?_,λ_=>by trivial⟩,xU⟩;exact h.pos j2 _ J (he ▸ FK Y (by omega))
   ·rw[decide_eq_false he,cond_false,wrap_i64 (by omega) (by omega)];refine I _ _ ⟨k+1,by omega,by simp,dU,?_⟩ (by simp only;omega);rw[Gp.Cfg.take_snoc Y];intro hm;rcases List.mem_append.1 hm with hm|hm
    ·exact ai hm
    ·exact he (List.mem_singleton.1 hm).symm
  ·have aq:k=j2:=by omega
   subst aq;rw[decide_eq_false ae,cond_false,wrap_i64 (by omega) (by omega)];exact u _ _ ⟨k+1,by omega,by simp,hv.trans hu,W_ J aa ai⟩ (by simp only;omega)
 rw[decide_eq_false ac,cond_false];have aa:=aaP (by omega) aa;clear u;refine fZ (λst' U=>∃j:Nat,j<=tl.length/\st'.1=(j:Int)/\Ext V U/\∀(i:Nat) x,i<j->tl[i]? =some x->Gp.Cfg.Fine lY oH EK n20 tl i x) (λst' _=>(tl.length - st'.1).toNat) ⟨0,by omega,rfl,Ext.refl _,by omega⟩ ?_;rintro⟨i,⟨⟩⟩ U ⟨j3,hj3,hi,hu,ab⟩ next u
 simp only at hi;subst hi;have xU:=xV.trans hu;have raU:=raV.ext hu;simp -zeta only[getElem?_cons_zero,getElem?_cons_succ,fC,fE,raU.cell];by_cases ae:(j3:Int)<(st.len:Int)
 ·rw[decide_eq_true ae,cond_true];have J:=getElem?_eq_getElem (show j3<tl.length by omega);generalize tl[j3]=x at J;refine fZ (λst' T=>∃k:Nat,k<=j3/\st'.2.1=(k:Int)/\st'.1=1+(((tl.take k).countP λy=>EK y==EK x:Nat):Int)/\Ext U T/\∀y∈tl.take k,lY y≠lY x/\oH y≠oH x) (λst' _=>(j3 - st'.2.1).toNat) ⟨0,by omega,rfl,by simp,Ext.refl _,by simp⟩ ?_;rintro⟨n,i,⟨⟩⟩ T ⟨k,hk,hi,hn,ht,au⟩ next2 I;simp only at hi hn;subst hi;by_cases av:(k:Int)<(j3:Int)
  ·have dT:=ht.trans (Ext.drew T);have xT:=xU.trans dT;have raT:=raU.ext dT;rw[decide_eq_true av,cond_true];have Y:=getElem?_eq_getElem (show k<tl.length by omega);generalize tl[k]=y at Y;have hcl:(tl.take k).countP (λy=>EK y==EK x)<=tl.length:=Nat.le_trans (List.countP_le_length) (by simp;omega);have ag:(tl.take (k+1)).countP (λz=>EK z==EK x)=(tl.take k).countP (λz=>EK z==EK x)+if EK y=EK x then 1 else 0:=by
    rw[Gp.Cfg.take_snoc Y,List.countP_append,List.countP_singleton];congr 1;by_cases h:EK y=EK x<;>simp[h]
   have aS:=Kv (P:=λy=>lY y≠lY x/\oH y≠oH x) Y au;intro J101;have hJ101:∀n' T',Ext T.drew T'->n'=1+(((tl.take (k+1)).countP λy=>EK y==EK x:Nat):Int)->(lY y≠lY x/\oH y≠oH x)->J101 n' T':=by
    intro n' T' hT hn' ho;simp -zeta only[J101];rw[wrap_i64 (by omega) (by omega)];exact I _ _ ⟨k+1,by omega,by simp,hn',dT.trans hT,aS ho⟩ (by simp only;omega)
   clear_value J101;intro J104;have hJ104:∀b T',Ext T.drew T'->(b=true↔¬(lY y≠lY x/\oH y≠oH x))->J104 b T':=by
    intro b T' hT hb;simp -zeta only[J104];have xT':=xT.trans hT
    cases b
    ·have ho:lY y≠lY x/\oH y≠oH x:=by
      by_cases h:lY y≠lY x/\oH y≠oH x
      ·exact h
      ·exact absurd (hb.2 h) (by simp)
     rw[cond_false];have hT2:=hT.trans (Ext.drew T');have raT':=raT.ext hT2;have Z:=aC.ext (xT.trans hT2);simp -zeta only[getElem?_cons_zero,getElem?_cons_succ,fC,fE,raT'.cell];refine SlN_ix wR (by omega) Z (by omega) (by rw[toNat_natCast];exact Y) λa' hc=> ?_;have c0:T'.drew.cell? (a'.add 0)=some (.int .i64 (EK y)):=by obtain⟨y0,y1,y2,y3,y4,y5,y6,⟨⟩⟩:=y;exact hc 0 _ rfl
     rw[show a'.add 0=a' from rfl] at c0;simp -zeta only[fC,fD,c0];refine SlN_ix wR (by omega) Z (by omega) (by rw[toNat_natCast];exact J) λa'' hd=> ?_;have d0:T'.drew.cell? (a''.add 0)=some (.int .i64 (EK x)):=by obtain⟨x0,x1,x2,x3,x4,x5,x6,⟨⟩⟩:=x;exact hd 0 _ rfl
     rw[show a''.add 0=a'' from rfl] at d0;simp -zeta only[fC,fD,d0];rw[T_];by_cases he:EK y=EK x
     ·rw[if_pos he] at ag;rw[decide_eq_true he,cond_true,wrap_i64 (by omega) (by omega)];exact hJ101 _ _ hT2 (by rw[ag,hn];omega) ho
     ·rw[if_neg he] at ag;rw[decide_eq_false he,cond_false];exact hJ101 _ _ hT2 (by rw[ag,hn];omega) ho
    ·rw[cond_true];exact⟨⟨λ_ h=>(hb.1 rfl) ((h.sts j3 _ J).one y (FK Y (by omega))),λ_=>by trivial⟩,xT'⟩
   clear_value J104;have Z:=aC.ext xT;simp -zeta only[getElem?_cons_zero,getElem?_cons_succ,fC,fE,raT.cell];refine SlN_ix wR (by omega) Z (by omega) (by rw[toNat_natCast];exact Y) λa' hc=> ?_;obtain⟨y0,y1,y2,y3,y4,y5,y6,⟨⟩⟩:=y;have c0:T.drew.cell? (a'.add 0)=some (.int .i64 y0):=hc 0 _ rfl;have c1:T.drew.cell? (a'.add 1)=some (.int .i64 y1):=hc 1 _ rfl;have c2:T.drew.cell? (a'.add 2)=some (.int .i64 y2):=hc 2 _ rfl;have c3:T.drew.cell? (a'.add 3)=some (.int .i64 y3):=hc 3 _ rfl;have c4:T.drew.cell? (a'.add 4)=some (.int .i64 y4):=hc 4 _ rfl;have c5:T.drew.cell? (a'.add 5)=some (.int .i64 y5):=hc 5 _ rfl;have c6:T.drew.cell? (a'.add 6)=some (.int .i64 y6):=hc 6 _ rfl;simp -zeta only[fC,fD,c0,c1,c2,c3];refine SlN_ix wR (by omega) Z (by omega) (by rw[toNat_natCast];exact J) λa'' hd=> ?_;obtain⟨x0,x1,x2,x3,x4,x5,x6,⟨⟩⟩:=x;have d0:T.drew.cell? (a''.add 0)=some (.int .i64 x0):=hd 0 _ rfl;have d1:T.drew.cell? (a''.add 1)=some (.int .i64 x1):=hd 1 _ rfl;have d2:T.drew.cell? (a''.add 2)=some (.int .i64 x2):=hd 2 _ rfl;have d3:T.drew.cell? (a''.add 3)=some (.int .i64 x3):=hd 3 _ rfl;have d4:T.drew.cell? (a''.add 4)=some (.int .i64 x4):=hd 4 _ rfl;have d5:T.drew.cell? (a''.add 5)=some (.int .i64 x5):=hd 5 _ rfl;have d6:T.drew.cell? (a''.add 6)=some (.int .i64 x6):=hd 6 _ rfl;simp -zeta only[fC,fD,d0,d1,d2,d3];rw[aop _ rfl];by_cases he:((y0,y1,y2,y3,()):T4)=(x0,x1,x2,x3,())
   ·rw[decide_eq_true he,cond_true];exact hJ104 _ _ (Ext.refl _) ⟨λ_ h=>h.1 he,λ_=>rfl⟩
   rw[decide_eq_false he,cond_false]
   try simp -zeta only[sx,raT.cell]
   refine SlN_ix wR (by omega) Z (by omega) (by rw[toNat_natCast];exact Y) λb' hc=> ?_;have c4:T.drew.cell? ((b'.add 4).add 0)=some (.int .i64 y4):=hc 4 _ rfl;have c5:T.drew.cell? ((b'.add 4).add 1)=some (.int .i64 y5):=hc 5 _ rfl;have c6:T.drew.cell? ((b'.add 4).add 2)=some (.int .i64 y6):=hc 6 _ rfl;simp -zeta only[fC,fD,c4,c5,c6];refine SlN_ix wR (by omega) Z (by omega) (by rw[toNat_natCast];exact J) λb'' hd=> ?_;have d4:T.drew.cell? ((b''.add 4).add 0)=some (.int .i64 x4):=hd 4 _ rfl;have d5:T.drew.cell? ((b''.add 4).add 1)=some (.int .i64 x5):=hd 5 _ rfl;have d6:T.drew.cell? ((b''.add 4).add 2)=some (.int .i64 x6):=hd 6 _ rfl;simp -zeta only[fC,fD,d4,d5,d6];rw[aoo _ rfl];refine hJ104 _ _ (Ext.refl _) ?_;by_cases ho:((y4,y5,y6,()):T3)=(x4,x5,x6,())
   ·rw[decide_eq_true ho];exact⟨λ_ h=>h.2 ho,λ_=>rfl⟩
   ·rw[decide_eq_false ho];exact⟨λh=>(by cases h),λh=>absurd ⟨he,ho⟩ h⟩
  ·have aq:k=j3:=by omega
   subst aq;have raT:=raU.ext ht;rw[decide_eq_false av,cond_false];simp -zeta only[getElem?_cons_zero,getElem?_cons_succ,fC,fD,raT.cell];by_cases hq:n>n20
   ·rw[decide_eq_true hq,cond_true];exact⟨⟨λ_ h=>by have:=(h.sts _ _ J).few;omega,λ_=>by trivial⟩,xU.trans ht⟩
   ·rw[decide_eq_false hq,cond_false,wrap_i64 (by omega) (by omega)];exact u _ _ ⟨k+1,by omega,by simp,hu.trans ht,W_ J ab ⟨au,by omega⟩⟩ (by simp only;omega)
 rw[decide_eq_false ae,cond_false];have ab:=aaP (by omega) ab;exact⟨⟨λh=>(by cases h),λh=>absurd ⟨af,aa,ab⟩ h⟩,xU⟩
end Go.Proofs.CN
namespace Go.Proofs.CN
open Gp
theorem Y9 {ls lp lt n18 n19 n20 n21 n22 n23 n24 n25 n26 n27 n28 n29 n30 n31 n32 n33 n34:Int} (h0:0<=lt):
  ((∀b∈TF ls lp lt n18 n19 n20 n21 n22 n23 n24 n25 n26 n27 n29 n30 n31 n32 n33 n34,okB b)/\Y5 n28)↔
   (afV n18 n19 n20 n21 n22 n23 n24 n25 n26 n27 n28 n29 n30 n31 n32 n33 n34/\(1<=ls/\ls<=64)/\(1<=lp/\lp<=16)/\lt<=64/\lt<=n21):=by
 unfold TF;simp only[List.forall_mem_cons,okB];constructor
 ·rintro⟨⟨a1,a2,a3,a4,a5,a6,a7,a8,a9,j,u,a12,z,I,J,U,a17,Y,Z,_⟩,m⟩;refine⟨⟨⟨a6,a7,a8,a9,j⟩,⟨u,a12,z,m,I⟩,⟨J,U,a17,Y,Z⟩,⟨a4,a5⟩⟩,a1,a2,?_⟩;have h3:=a3.2;by_cases h:n21<64
  ·rw[if_pos h] at h3;omega
  ·rw[if_neg h] at h3;omega
 ·rintro⟨⟨⟨a6,a7,a8,a9,j⟩,⟨u,a12,z,m,I⟩,⟨J,U,a17,Y,Z⟩,⟨a4,a5⟩⟩,a1,a2,h1,h2⟩;refine⟨⟨a1,a2,⟨h0,?_⟩,a4,a5,a6,a7,a8,a9,j,u,a12,z,I,J,U,a17,Y,Z,by simp⟩,m⟩;by_cases h:n21<64
  ·rw[if_pos h];omega
  ·rw[if_neg h];omega
theorem Vh {p:T16} {n:Nat} {sl:List T16} {pl:List Int} {tl:List T7}:
  xg p n sl pl tl=true↔(mX p=true/\(∀x∈sl,mX x=true)/\(∀x∈pl,lN x)/\(∀x∈tl,DF n pl x)):=by
 unfold xg;simp only[and_eq_true,not_eq_true',any_eq_false,Bool.not_eq_false,decide_eq_true_eq]
theorem Xe {p:T16} {ls lp lt n18 n19 n20 n21 n22 n23 n24 n25 n26 n27 n28 n29 n30 n31 n32 n33 n34:Int} {n:Nat} {sl:List T16} {pl:List Int} {tl:List T7} (h0:0<=lt):
  OkP p ls lp lt n18 n19 n20 n21 n22 n23 n24 n25 n26 n27 n28 n29 n30 n31 n32 n33 n34 n sl pl tl↔
   (afV n18 n19 n20 n21 n22 n23 n24 n25 n26 n27 n28 n29 n30 n31 n32 n33 n34/\afC p ls lp lt n21 n sl pl tl):=by
 constructor
 ·rintro⟨h1,h2,h3⟩;obtain⟨h4,h5,h6,h7,h8⟩:=(Y9 h0).1 ⟨h1,h2⟩;obtain⟨g1,g2,g3,g4⟩:=Vh.1 h3;exact⟨h4,g1,h5,h6,h7,h8,g2,g3,g4⟩
 ·rintro⟨h4,g1,h5,h6,h7,h8,g2,g3,g4⟩;obtain⟨h1,h2⟩:=(Y9 h0).2 ⟨h4,h5,h6,h7,h8⟩;exact⟨h1,h2,Vh.2 ⟨g1,g2,g3,g4⟩⟩
theorem Yx {p:T16} {sl:List T16} {pl:List Int} {tl:List T7} {n:Nat} {q:Int} (hq:1<=q) (hr:∀x∈tl,0<=EK x/\EK x<(n:Int)):
  abO p sl pl tl q↔fineP p sl pl tl n q:=by
 unfold fineP;rw[Gp.Cfg.AO];constructor
 ·rintro⟨h1,h2,h3⟩;obtain⟨g1,g2,g3⟩:=(Gp.Cfg.YI (fi:=lY) (fo:=oH) EK hq hr).1 h3;refine⟨⟨Gp.Cfg.nG.2 λi x hx=>(h1 i x hx).1,λhm=> ?_⟩,Gp.Cfg.nG.2 h2,g1,g2,g3⟩;obtain⟨i,hi,he⟩:=List.mem_iff_getElem.1 hm;exact(h1 i p (by rw[getElem?_eq_getElem hi,he])).2 rfl
 ·rintro⟨⟨h1,h1'⟩,h2,g1,g2,g3⟩;refine⟨λi x hx=>⟨Gp.Cfg.nG.1 h1 i x hx,λe=>h1' (e ▸ List.mem_of_getElem? hx)⟩,Gp.Cfg.nG.1 h2,(Gp.Cfg.YI EK hq hr).2 ⟨g1,g2,g3⟩⟩
def chk (p:T16) (ls lp lt n18 n19 n20 n21 n22 n23 n24 n25 n26 n27 n28 n29 n30 n31 n32 n33 n34:Int) (n:Nat) (sl:List T16) (pl:List Int) (tl:List T7) (r:Int):Prop:=
 (¬OkP p ls lp lt n18 n19 n20 n21 n22 n23 n24 n25 n26 n27 n28 n29 n30 n31 n32 n33 n34 n sl pl tl/\r=1)\/
   (OkP p ls lp lt n18 n19 n20 n21 n22 n23 n24 n25 n26 n27 n28 n29 n30 n31 n32 n33 n34 n sl pl tl/\((¬fineP p sl pl tl n n20/\r=9)\/(fineP p sl pl tl n n20/\r=0)))
theorem chk_one {p:T16} {ls lp lt n18 n19 n20 n21 n22 n23 n24 n25 n26 n27 n28 n29 n30 n31 n32 n33 n34:Int} {n:Nat} {sl:List T16} {pl:List Int} {tl:List T7} {r r':Int}
  (h:chk p ls lp lt n18 n19 n20 n21 n22 n23 n24 n25 n26 n27 n28 n29 n30 n31 n32 n33 n34 n sl pl tl r) (h':chk p ls lp lt n18 n19 n20 n21 n22 n23 n24 n25 n26 n27 n28 n29 n30 n31 n32 n33 n34 n sl pl tl r'):r=r':=by
 rcases h with ⟨h1,rfl⟩|⟨h1,⟨h2,rfl⟩|⟨h2,rfl⟩⟩<;>rcases h' with ⟨g1,rfl⟩|⟨g1,⟨g2,rfl⟩|⟨g2,rfl⟩⟩<;>first|rfl|exact absurd g1 h1|exact absurd h1 g1|exact absurd h2 g2|exact absurd g2 h2
theorem Zy {w:World} {p0 p1 p2 p3 p4 p5 p6 p7 p8 p9 j u z I J U:Int} {sw po:eY} {n18 n19 n20 n21 n22 n23 n24 n25 n26 n27 n28 n29 n30 n31 n32 n33 n34:Int} {st:eY} {sl:List T16} {pl:List Int} {tl:List T7} (Z:lV 16 e16 w sw sl) (aa:lV 1 eI w po pl) (ab:lV 7 e7 w st tl) (lsw:sw.len<=2^40) (lpo:po.len<=2^40) (lst:st.len<=2^40):
  sG p0 p1 p2 p3 p4 p5 p6 p7 p8 p9 j u z I J U sw po n18 n19 n20 n21 n22 n23 n24 n25 n26 n27 n28 n29 n30 n31 n32 n33 n34 st w λr w'=>chk (p0,p1,p2,p3,p4,p5,p6,p7,p8,p9,j,u,z,I,J,U,()) sw.len po.len st.len n18 n19 n20 n21 n22 n23 n24 n25 n26 n27 n28 n29 n30 n31 n32 n33 n34 sw.len sl pl tl r/\Ext w w':=by
 apply RJ;refine fP λa w1 ra ea z1 f1=> ?_;simp -zeta only[sx,ra.cell];intro J4;have hJ4:∀j5 W,Ext w1 W->(j5=false↔OkP (p0,p1,p2,p3,p4,p5,p6,p7,p8,p9,j,u,z,I,J,U,()) sw.len po.len st.len n18 n19 n20 n21 n22 n23 n24 n25 n26 n27 n28 n29 n30 n31 n32 n33 n34 sw.len sl pl tl)->J4 j5 W:=by
  intro j5 W hx h5;simp -zeta only[J4];have xW:=f1.trans hx
  cases j5
  ·rw[cond_false];have Y:=h5.1 rfl;have hl:=(Xe (by omega)).1 Y;have hf:=Yx (p:=(p0,p1,p2,p3,p4,p5,p6,p7,p8,p9,j,u,z,I,J,U,())) (sl:=sl) (pl:=pl) (q:=n20) hl.1.rooms.1.1 λx hx=>acj (hl.2.sts x hx);have raW:=ra.ext hx;simp -zeta only[getElem?_cons_zero,getElem?_cons_succ,fC,fE,fD,raW.cell];refine Qn (Zz (Z.ext xW) (aa.ext xW) (ab.ext xW) lsw lpo lst) ?_;rintro r w' ⟨hr,hf'⟩;rw[hf] at hr
   cases r
   ·rw[cond_false];refine⟨.inr ⟨Y,.inr ⟨?_,rfl⟩⟩,xW.trans hf'⟩;by_cases h:fineP (p0,p1,p2,p3,p4,p5,p6,p7,p8,p9,j,u,z,I,J,U,()) sl pl tl sw.len n20
    ·exact h
    ·exact absurd (hr.2 h) (by simp)
   ·rw[cond_true];exact⟨.inr ⟨Y,.inl ⟨hr.1 rfl,rfl⟩⟩,xW.trans hf'⟩
  ·rw[cond_true];exact⟨.inl ⟨λh=>(by cases h5.2 h),rfl⟩,xW⟩
 clear_value J4;refine MV (aaY _) ?_;rintro r w2 ⟨hr,f2⟩
 cases r
 ·rw[Bool.not_false,cond_true];exact hJ4 _ _ f2 ⟨λh=>(by cases h),λh=>(by cases hr.2 ((Xe (by omega)).1 h).1)⟩
 rw[Bool.not_true,cond_false];have ra2:=ra.ext f2;have x2:=f1.trans f2;simp -zeta only[getElem?_cons_zero,getElem?_cons_succ,fC,fE,fD,ra2.cell];refine Qm (afD (Z.ext x2) (aa.ext x2) (ab.ext x2) lsw lpo lst) ?_;rintro r w3 ⟨hr3,f3⟩;refine hJ4 _ _ (f2.trans f3) ?_;rw[Xe (by omega),<- hr,<- hr3]
 cases r<;>simp
end Go.Proofs.CN
end
section
namespace Go.Proofs.PN
open Gp Go.Proofs.CN
abbrev O3:=Int×Int×Int
def amO (x:O3):Value:= .agg ⟨[.int .i64 x.1,.int .i64 x.2.1,.int .i64 x.2.2]⟩
def evU (_:Unit):Value:= .bool true
structure PL (w:World) (p g:Nat) (s:eY) (lo hi:Int) (pl:List Int) (G:List (O3×Unit)):Prop where
 hd:Row w p [.int .i64 lo,.int .i64 hi,.slice s.a s.len s.cap,.map (some g)]
 ad:jB 1 eI w s pl
 gv:nU amO evU w g G
 nd:(G.map (·.1)).Nodup
 ln:pl.length<=16
 pg:p≠g
 sp:¬eY.at s p
 sg:¬eY.at s g
def fp (p g:Nat) (s:eY) (b:Nat):Prop:=b=p\/b=g\/eY.at s b
variable {w w':World} {p g:Nat} {s:eY} {lo hi:Int} {pl:List Int} {G:List (O3×Unit)}
theorem PL.fr {S:Nat->Prop} (h:PL w p g s lo hi pl G) (hf:fV w w' S) (hs:∀b,fp p g s b->¬S b):PL w' p g s lo hi pl G:=
 ⟨h.hd.fr hf (hs _ (.inl rfl)),h.ad.fr hf λb hb=>hs _ (.inr (.inr hb)),h.gv.fr hf (hs _ (.inr (.inl rfl))),h.nd,h.ln,h.pg,h.sp,h.sg⟩
theorem PL.ext (h:PL w p g s lo hi pl G) (hf:Ext w w'):PL w' p g s lo hi pl G:=h.fr (hf λ_=>False) (λ_ _=>by simp)
theorem PL.sl (h:PL w p g s lo hi pl G):lV 1 eI w s pl:=h.ad.sl qG (by omega)
theorem PL.sln (h:PL w p g s lo hi pl G):s.len<=2^62:=by rw[h.sl.len];have:=h.ln;omega
theorem tJ (h:PL w p g s lo hi pl G):mV (some ⟨p,0,none⟩) w λr w'=>r=true/\w'=w:=by
 apply JM;simp only[sx,h.hd.cell,Bool.not_false];exact⟨by trivial,by trivial⟩
theorem Eb (h:PL w p g s lo hi pl G) (x:Int):oZ (some ⟨p,0,none⟩) x w λr w'=>r=decide (x∈pl)/\w'=w:=by
 apply Nv;refine Jj (tJ h) ?_;rintro r w' ⟨rfl,hw⟩;subst hw;simp only[sx,h.hd.cell];refine iO (BI h.sl h.sln x) ?_;rintro r w' ⟨rfl,hw⟩;exact⟨rfl,hw⟩
theorem Rk {s:eY} {lo hi:Int} {pl:List Int} (hs:lV 1 eI w s pl) (h0:1<=pl.length) (Y:pl.length<=16) (hn:pl.Nodup) (hh:∀a∈pl,lN a) (h1:1<=lo) (h2:lo<=hi) (h3:hi<65536):
  Ad s lo hi w λr e w'=>e=0/\Ext w w'/\∃p g s',r=some ⟨p,0,none⟩/\PL w' p g s' lo hi pl []/\∀b,fp p g s' b->w.heap.size<=b:=by
 apply Zg;have hl:s.len=pl.length:=hs.len;intro J4;have a1:¬((s.len:Int)<1):=by omega
 have a2:¬((s.len:Int)>16):=by omega
 have a3:¬(lo<1):=by omega
 have a4:¬(hi<lo):=by omega
 have a5:¬(hi>=65536):=by omega
 simp -zeta only[a1,a2,a3,a4,a5,decide_false,cond_false];simp only[J4,cond_false];refine fZ (λst W=>∃i:Nat,i<=pl.length/\st.1=(i:Int)/\Ext w W) (λst _=>pl.length - st.1.toNat) ⟨0,by omega,rfl,Ext.refl _⟩ ?_;rintro⟨i',⟨⟩⟩ W ⟨i,hi',hi2,hx⟩ next u
 simp only at hi2;subst hi2;by_cases I:i<pl.length
 ·have j:((i:Int)<(s.len:Int)):=by omega
  simp only[j,decide_true,cond_true];have J:pl[i]∈pl:=List.getElem_mem I;refine SN.agP (hs.ext hx) (List.getElem?_eq_getElem I) λa c0=> ?_;simp only[aiL,c0,fC,fD];refine qV (D_ _ W) ?_;rintro _ w1 ⟨rfl,f1⟩;simp only[hh _ J,decide_true,Bool.not_true,cond_false];refine abC qG (hs.ext (hx.trans f1)) (by omega) (by omega) (by omega) λs1 hs1=> ?_;have hl1:s1.len<=2^62:=by rw[hs1.len];simp;omega
  refine iO (BI hs1 hl1 _) ?_;rintro _ w2 ⟨rfl,hw⟩;subst hw;have Z:pl[i]∉(pl.take (i:Int).toNat).drop (0:Int).toNat:=by
   simp only[Int.toNat_natCast,Int.toNat_zero,List.drop_zero];exact Gp.Cfg.nG.1 hn i _ (List.getElem?_eq_getElem I)
  simp only[Z,decide_false,cond_false];rw[wrap_i64 (by omega) (by omega)];exact u _ _ ⟨i+1,by omega,by simp,hx.trans f1⟩ (by simp only;omega)
 ·have j:¬((i:Int)<(s.len:Int)):=by omega
  simp only[j,decide_false,cond_false];refine uF (SN.UM (hs.ext hx) (by omega)) ?_;rintro s' w1 ⟨f1,hb,U⟩;refine SN.J5 (enc:=amO) (ev:=evU) λw2 hm z2 f2=> ?_;refine fP λp w3 r3 e3 z3 f3=> ?_;have z:∀b,eY.at s' b->b<w1.heap.size:=λb hb'=>hb.lt hb';refine⟨by trivial,((hx.trans f1).trans f2).trans f3,p,w1.heap.size,s',rfl,⟨r3,(hb.ext f2).ext f3,hm.ext f3,by simp,Y,by omega,λh=>by have:=z _ h;omega,λh=>by have:=z _ h;omega⟩,?_⟩;have hz:=(hx.trans f1).size;have hz1:=hx.size;rintro b (rfl|rfl|hb')
  ·omega
  ·omega
  ·have:=U b hb';omega
end Go.Proofs.PN
end
section
namespace Go.Proofs.EN
open Gp Go.Proofs
open Gp.Bind (Bnd Slots live GoodB In64)
structure EA where
 x:Nat
 p:Nat
 g:Nat
 ps:eY
 qb:Nat
 qs:Nat
 B:XR
 T:SN.XR
 d:Nat
 m:Nat
 ss:List eY
def own (a:EA):Nat->Nat->Prop
 |0,b=>b=a.x
 |1,b=>PN.fp a.p a.g a.ps b
 |2,b=>b=a.qb\/b=a.qs
 |3,b=>fp a.B b
 |4,b=>SN.fp a.T b
 |5,b=>WN.fpW a.d a.m a.ss b
 |_,_=>False
structure Cf where
 C:List Value
 sw:eY
 pl:List Int
 lo:Int
 hi:Int
 q:Int
 nb:Int
 ns:Int
structure anW (c:Cf):Prop where
 len:c.C.length=36
 c16:c.C[16]? =some (.slice c.sw.a c.sw.len c.sw.cap)
 c20:c.C[20]? =some (.int .i64 c.q)
 c21:c.C[21]? =some (.int .i64 c.nb)
 c22:c.C[22]? =some (.int .i64 c.ns)
 sw:c.sw.len<=64
 b1:1<=c.nb/\c.nb<=4096
 q1:1<=c.q/\c.q<=4096
 s1:1<=c.ns/\c.ns<=4096
 hp:∀x∈c.pl,CN.lN x
structure ES where
 now:Nat
 S:Slots
 Mi:ByteArray->Option Int
 Mo:ByteArray->Option Int
 Q:List Int
 G:List (PN.O3×Unit)
 SS:Gp.Ses.Slots
 M:ByteArray->Option Int
 l:WN.PL
 wn:Nat
 tn:Int
 F:Gp.Wh.Fs
structure P5 (w:World) (a:EA) (c:Cf) (e:ES):Prop where
 cf:anW c
 hd:Row w a.x ([.pointer (some ⟨a.p,0,none⟩),.pointer (some ⟨a.qb,0,none⟩),.pointer (some ⟨a.B.d,0,none⟩),.pointer (some ⟨a.T.d,0,none⟩),.pointer (some ⟨a.d,0,none⟩)]++c.C++[.int .i64 (e.now:Int)])
 pl:PN.PL w a.p a.g a.ps c.lo c.hi c.pl e.G
 qr:QN.QR w a.qb a.qs e.Q c.q
 qo:QN.QOk e.Q c.q
 db:DB w a.B c.nb.toNat e.S e.Mi e.Mo
 se:SN.TA w a.T c.ns.toNat e.SS e.M
 wh:WN.WS w a.d a.m a.ss e.l e.wn e.tn c.ns e.F
 ap:∀k k' b,own a k b->own a k' b->k=k'
 lt:∀k b,own a k b->b<w.heap.size
variable {w w':World} {a:EA} {c:Cf} {e:ES}
theorem P5.fr {S:Nat->Prop} (h:P5 w a c e) (hf:fV w w' S) (hs:∀k b,own a k b->¬S b):P5 w' a c e:=
 ⟨h.cf,h.hd.fr hf (hs 0 _ rfl),h.pl.fr hf (hs 1),h.qr.fr hf (hs 2 _ (.inl rfl)) (hs 2 _ (.inr rfl)),h.qo,h.db.fr hf (hs 3),h.se.fr hf (hs 4),h.wh.fr hf (hs 5),h.ap,
  λk b hb=>Nat.lt_of_lt_of_le (h.lt k b hb) hf.size⟩
theorem P5.ext (h:P5 w a c e) (hf:Ext w w'):P5 w' a c e:=h.fr (hf λ_=>False) (λ_ _ _=>by simp)
theorem P5.c0 (h:P5 w a c e):w.cell? ⟨a.x,0,none⟩=some (.pointer (some ⟨a.p,0,none⟩)):=by rw[h.hd.cell];rfl
theorem P5.c2 (h:P5 w a c e):w.cell? ⟨a.x,2,none⟩=some (.pointer (some ⟨a.B.d,0,none⟩)):=by rw[h.hd.cell];rfl
theorem P5.c4 (h:P5 w a c e):w.cell? ⟨a.x,4,none⟩=some (.pointer (some ⟨a.d,0,none⟩)):=by rw[h.hd.cell];rfl
theorem P5.c41 (h:P5 w a c e):w.cell? ⟨a.x,41,none⟩=some (.int .i64 (e.now:Int)):=by
 rw[h.hd.cell,List.append_assoc,List.getElem?_append_right (by simp),List.getElem?_append_right (by have:=h.cf.len;simp;omega)];have:41 - [Value.pointer (some ⟨a.p,0,none⟩),.pointer (some ⟨a.qb,0,none⟩),.pointer (some ⟨a.B.d,0,none⟩),.pointer (some ⟨a.T.d,0,none⟩),.pointer (some ⟨a.d,0,none⟩)].length - c.C.length=0:=by rw[h.cf.len];rfl
 rw[this];rfl
theorem MX (h:P5 w a c e):jm (some ⟨a.x,0,none⟩) w λr w'=>r=true/\w'=w:=by
 apply F7;simp only[sx,h.c0,Bool.not_false];exact⟨by trivial,by trivial⟩
def amS (c:Cf) (i:Int):Prop:=0<=i/\i<(c.sw.len:Int)
instance (c:Cf) (i:Int):Decidable (amS c i):=inferInstanceAs (Decidable (_/\_))
def aot (c:Cf) (b:Bnd):Prop:=
 (b.pr=1\/b.pr=6\/b.pr=17)/\CN.lN b.ad/\b.oad∈c.pl/\(0<=b.po/\b.po<=65535)/\(0<=b.opo/\b.opo<=65535)/\b.pr=b.opr/\amS c b.sw
instance (c:Cf) (b:Bnd):Decidable (aot c b):=inferInstanceAs (Decidable (_/\_))
end Go.Proofs.EN
end
section
namespace Go.Proofs.EN
open Gp Go.Proofs Go.Proofs.CN
open Gp.Bind (Bnd Slots live GoodB In64)
theorem sZ:∀(k j:Nat),live j (List.replicate k none)=[]
 |0,_=>rfl
 |k+1,j=>by rw[List.replicate_succ,live];exact sZ k _
def e0 (n nb ns:Nat):ES:=⟨0,List.replicate nb none,λ_=>none,λ_=>none,List.replicate n 0,[],List.replicate ns none,λ_=>none,[],0,0,λ_ _=>[]⟩
theorem ah1 {ls lp lt n18 n19 n20 n21 n22 n23 n24 n25 n26 n27 n28 n29 n30 n31 n32 n33 n34:Int} {p:T16} {n:Nat} {sl:List T16} {pl:List Int} {tl:List T7} (h:OkP p ls lp lt n18 n19 n20 n21 n22 n23 n24 n25 n26 n27 n28 n29 n30 n31 n32 n33 n34 n sl pl tl):
  (1<=ls/\ls<=64)/\(1<=lp/\lp<=16)/\(0<=lt/\lt<=64)/\(1<=n18/\n18<=65535)/\(n18<=n19/\n19<=65535)/\(1<=n20/\n20<=4096)/\(1<=n21/\n21<=4096)/\(1<=n22/\n22<=4096):=by
 have b:=h.nums;simp only[TF,List.mem_cons,List.not_mem_nil,or_false,forall_eq_or_imp,forall_eq,okB] at b;obtain⟨b1,b2,b3,b4,b5,b6,b7,b8,_⟩:=b;refine⟨b1,b2,⟨b3.1,?_⟩,b4,b5,b6,b7,b8⟩;have:=b3.2;split at this<;>omega
theorem RY {p:T16} {n:Nat} {sl:List T16} {pl:List Int} {tl:List T7} (h:xg p n sl pl tl=true):∀x∈pl,lN x:=by
 intro x hx;unfold xg at h;simp only[and_eq_true,not_eq_true',any_eq_false] at h;have:=h.2.2.1 x hx;simpa using this
theorem afS {w:World} {p0 p1 p2 p3 p4 p5 p6 p7 p8 p9 j u z I J U:Int} {sw po:eY} {n18 n19 n20 n21 n22 n23 n24 n25 n26 n27 n28 n29 n30 n31 n32 n33 n34:Int} {st:eY} {sl:List T16} {pl:List Int} {tl:List T7} (ao:lV 16 e16 w sw sl) (ag:lV 1 eI w po pl) (al:lV 7 e7 w st tl) (lsw:sw.len<=2^40) (lpo:po.len<=2^40) (lst:st.len=0)
  {K:eG->Int->b_}
  (ah:∀r w',Ext w w'->r≠0->chk (p0,p1,p2,p3,p4,p5,p6,p7,p8,p9,j,u,z,I,J,U,()) sw.len po.len st.len n18 n19 n20 n21 n22 n23 n24 n25 n26 n27 n28 n29 n30 n31 n32 n33 n34 sw.len sl pl tl r->K none r w')
  (aq:OkP (p0,p1,p2,p3,p4,p5,p6,p7,p8,p9,j,u,z,I,J,U,()) sw.len po.len st.len n18 n19 n20 n21 n22 n23 n24 n25 n26 n27 n28 n29 n30 n31 n32 n33 n34 sw.len sl pl tl->fineP (p0,p1,p2,p3,p4,p5,p6,p7,p8,p9,j,u,z,I,J,U,()) sl pl tl sw.len n20->
   ∀w' a,Ext w w'->P5 w' a ⟨jo p0 p1 p2 p3 p4 p5 p6 p7 p8 p9 j u z I J U sw po n18 n19 n20 n21 n22 n23 n24 n25 n26 n27 n28 n29 n30 n31 n32 n33 n34 st,sw,pl,n18,n19,n20,n21,n22⟩ (e0 sw.len n21.toNat n22.toNat)->(∀k b,own a k b->w.heap.size<=b)->K (some ⟨a.x,0,none⟩) 0 w'):
  Jc p0 p1 p2 p3 p4 p5 p6 p7 p8 p9 j u z I J U sw po n18 n19 n20 n21 n22 n23 n24 n25 n26 n27 n28 n29 n30 n31 n32 n33 n34 st w K:=by
 apply Ze;refine fP λa w1 r1 e1 z1 f1=> ?_;have rd:∀W (Q:_),Row W a (jo p0 p1 p2 p3 p4 p5 p6 p7 p8 p9 j u z I J U sw po n18 n19 n20 n21 n22 n23 n24 n25 n26 n27 n28 n29 n30 n31 n32 n33 n34 st)->Q p0 p1 p2 p3 p4 p5 p6 p7 p8 p9 j u z I J U sw po n18 n19 n20 n21 n22 n23 n24 n25 n26 n27 n28 n29 n30 n31 n32 n33 n34 st->rX W ⟨a,0,none⟩ Q:=by
  intro W Q hr hq;simp only[sx,hr.cell];exact hq
 refine rd _ _ r1 ?_;refine OT (yj (ao.ext f1) (ag.ext f1) (al.ext f1) lsw lpo (by omega)) ?_;rintro r w2 ⟨hc,f2⟩;have x2:=f1.trans f2;by_cases hr:r=0;rotate_left
 ·have:(r !=0)=true:=by rw[bne_iff_ne];exact hr
  rw[this,cond_true];exact ah r w2 x2 hr hc
 have:(r !=0)=false:=by rw[bne_eq_false_iff_eq];exact hr
 rw[this,cond_false];subst hr;rcases hc with ⟨_,h⟩|⟨ac,⟨_,h⟩|⟨Y,_⟩⟩
 ·cases h
 ·cases h
 have hK:=aq ac Y;have hn:=ah1 ac;obtain⟨b1,b2,b3,b4,b5,b6,b7,b8⟩:=hn;have r2:=r1.ext f2;refine rd _ _ r2 ?_;refine fP λx w3 r3 e3 z3 f3=> ?_;have x3:=x2.trans f3;have r2:=r2.ext f3;refine fJ (k:= .slice) (i:=17) (x:=po) r2 rfl (fJ (k:= .int .i64) (i:=18) (x:=n18) r2 rfl (fJ (k:= .int .i64) (i:=19) (x:=n19) r2 rfl ?_));have hpl:=(ag.ext x3).len;refine Yn (PN.Rk (ag.ext x3) (by omega) (by omega) Y.2.1 (RY ac.parts) (by omega) (by omega) (by omega)) ?_;rintro _ _ w4 ⟨rfl,f4,p,g,ps,rfl,hP,nP⟩;have lP:∀b,PN.fp p g ps b->b<w4.heap.size:=λb hb=>by
  rcases hb with h|h|h
  ·rw[h];exact hP.hd.lt
  ·rw[h];exact hP.gv.lt
  ·exact hP.ad.lt h
 have r2:=r2.ext f4;refine jc.2 (gB (i:=0) (r3.ext f4) rfl (by simp) λw5 r5 f5' z5=> ?_);have f5:fV w4 w5 (·=x):=f5' _ rfl;have zx:x<w3.heap.size/\a<x:=by have:=f2.size;omega
 have hP:=hP.fr f5 λb hb e=>by have:=nP b hb;omega
 have r2:=r2.fr f5 (by omega);refine fJ (k:= .slice) (i:=16) (x:=sw) r2 rfl (fJ (k:= .int .i64) (i:=20) (x:=n20) r2 rfl ?_);refine V_ (QN.Rk (sw.len:Int) n20 w5) ?_;rintro q _ w6 ⟨f6,hq⟩;have f6:Ext w5 w6:=f6;rcases hq with ⟨Z,rfl,qb,qs,rfl,nq1,nq2,hQ⟩|⟨aa,_,_⟩;rotate_left
 ·exact absurd ⟨by omega,by omega,by omega,by omega⟩ aa
 have lQ:qb<w6.heap.size/\qs<w6.heap.size:=⟨hQ.hd.lt,hQ.row.lt⟩;have hP:=hP.ext f6;have r2:=r2.ext f6;refine jc.2 (gB (i:=1) (r5.ext f6) rfl (by simp) λw7 r7 f7' z7=> ?_);have f7:fV w6 w7 (·=x):=f7' _ rfl;have s4:=f4.size;have s6:=f6.size;have hP:=hP.fr f7 λb hb e=>by have:=nP b hb;omega
 have hQ:=hQ.fr f7 (by omega) (by omega);have r2:=r2.fr f7 (by omega);refine fJ (k:= .int .i64) (i:=21) (x:=n21) r2 rfl ?_;refine Yk (ahc n21 w7) ?_;rintro _ _ w8 ⟨f8,⟨aa,_,_⟩|⟨_,_,rfl,B,rfl,nB,hB⟩⟩
 ·exact absurd ⟨by omega,by omega⟩ aa
 have hP:=hP.ext f8;have hQ:=hQ.fr (f8 λ_=>False) (by simp) (by simp);have r2:=r2.ext f8;refine jc.2 (gB (i:=2) (r7.ext f8) rfl (by simp) λw9 r9 f9' z9=> ?_);have f9:fV w8 w9 (·=x):=f9' _ rfl;have s8:=f8.size;have hP:=hP.fr f9 λb hb e=>by have:=nP b hb;omega
 have hQ:=hQ.fr f9 (by omega) (by omega);have hB:=hB.fr f9 λb hb e=>by have:=(nB b hb).1;omega
 have r2:=r2.fr f9 (by omega);refine fJ (k:= .int .i64) (i:=22) (x:=n22) r2 rfl ?_;refine Qo (SN.aiz n22 w9) ?_;rintro _ _ ai ⟨f10,⟨aa,_,_⟩|⟨_,_,rfl,T,rfl,nT,hT⟩⟩
 ·exact absurd ⟨by omega,by omega⟩ aa
 have hP:=hP.ext f10;have hQ:=hQ.fr (f10 λ_=>False) (by simp) (by simp);have hB:=hB.ext f10;have r2:=r2.ext f10;refine jc.2 (gB (i:=3) (r9.ext f10) rfl (by simp) λae ar aj z11=> ?_);have f11:fV ai ae (·=x):=aj _ rfl;have s10:=f10.size;have lT:∀b,SN.fp T b->b<ai.heap.size:=λb hb=>hT.lt hb;have hP:=hP.fr f11 λb hb e=>by have:=nP b hb;omega
 have hQ:=hQ.fr f11 (by omega) (by omega);have hB:=hB.fr f11 λb hb e=>by have:=(nB b hb).1;omega
 have hT:=hT.fr f11 λb hb e=>by have:=nT b hb;omega
 have r2:=r2.fr f11 (by omega);refine fJ (k:= .int .i64) (i:=22) (x:=n22) r2 rfl ?_;refine Wn (WN.aiH n22 ⟨by omega,by omega⟩ ae) ?_;rintro _ _ af ⟨f12,rfl,d,m,ss,rfl,hW,nW⟩;have f12:Ext ae af:=f12;have hP:=hP.ext f12;have hQ:=hQ.fr (f12 λ_=>False) (by simp) (by simp);have hB:=hB.ext f12;have hT:=hT.ext f12;have r2:=r2.ext f12;refine jc.2 (gB (i:=4) (ar.ext f12) rfl (by simp) λab am ak z13=> ?_);have f13:fV af ab (·=x):=ak _ rfl;have s12:=f12.size;have lW:∀b,WN.fpW d m ss b->b<af.heap.size:=λb hb=>hW.wm.lt hb;have hP:=hP.fr f13 λb hb e=>by have:=nP b hb;omega
 have hQ:=hQ.fr f13 (by omega) (by omega);have hB:=hB.fr f13 λb hb e=>by have:=(nB b hb).1;omega
 have hT:=hT.fr f13 λb hb e=>by have:=nT b hb;omega
 have hW:=hW.fr f13 λb hb e=>by have:=nW b hb;omega
 have r2:=r2.fr f13 (by omega);simp only[List.set_cons_zero,List.set_cons_succ] at am;have au:Ext w ab:=by
  have q5:=(x3.trans f4).new f5 λb hb e=>by have:=x2.size;omega
  have q7:=(q5.trans f6).new f7 λb hb e=>by have:=x2.size;omega
  have q9:=(q7.trans f8).new f9 λb hb e=>by have:=x2.size;omega
  have av:=(q9.trans f10).new f11 λb hb e=>by have:=x2.size;omega
  exact(av.trans f12).new f13 λb hb e=>by have:=x2.size;omega
 have an:=QN.ahW Z;rw[Int.toNat_natCast] at an;have hQ':QN.QR ab qb qs (List.replicate sw.len 0) n20:=by simpa using hQ
 have key:∀k b,own ⟨x,p,g,ps,qb,qs,B,T,d,m,ss⟩ k b->(k=0/\b=x)\/(k=1/\w3.heap.size<=b/\b<w4.heap.size)\/(k=2/\w5.heap.size<=b/\b<w6.heap.size)\/(k=3/\w7.heap.size<=b/\b<w8.heap.size)\/(k=4/\w9.heap.size<=b/\b<ai.heap.size)\/(k=5/\ae.heap.size<=b/\b<af.heap.size):=by
  intro k b ho
  match k,ho with
  |0,ho=>exact .inl ⟨rfl,ho⟩
  |1,ho=>exact .inr (.inl ⟨rfl,nP b ho,lP b ho⟩)
  |2,ho=>
   refine .inr (.inr (.inl ⟨rfl,?_⟩));rcases ho with h|h<;>simp only at h<;>omega
  |3,ho=>exact .inr (.inr (.inr (.inl ⟨rfl,nB b ho⟩)))
  |4,ho=>exact .inr (.inr (.inr (.inr (.inl ⟨rfl,nT b ho,lT b ho⟩))))
  |5,ho=>exact .inr (.inr (.inr (.inr (.inr ⟨rfl,nW b ho,lW b ho⟩))))
  |(n+6),ho=>exact ho.elim
 have hE:P5 ab ⟨x,p,g,ps,qb,qs,B,T,d,m,ss⟩ ⟨jo p0 p1 p2 p3 p4 p5 p6 p7 p8 p9 j u z I J U sw po n18 n19 n20 n21 n22 n23 n24 n25 n26 n27 n28 n29 n30 n31 n32 n33 n34 st,sw,pl,n18,n19,n20,n21,n22⟩ (e0 sw.len n21.toNat n22.toNat):=by
  refine⟨⟨rfl,rfl,rfl,rfl,rfl,by simp only;omega,by simp only;omega,by simp only;omega,by simp only;omega,RY ac.parts⟩,am,hP,hQ',an,hB,hT,hW,?_,?_⟩
  ·intro k k' b h1 h2;have h1:=key k b h1;have h2:=key k' b h2;omega
  ·intro k b h1;have h1:=key k b h1;omega
 have Z:∀k b,own ⟨x,p,g,ps,qb,qs,B,T,d,m,ss⟩ k b->w.heap.size<=b:=λk b h=>by
  have h1:=key k b h;have:=x2.size;omega
 refine fJ (k:= .slice) (i:=35) (x:=st) r2 rfl ?_;have hlt:=al.len;refine fZ (λs W=>s.1=0/\W=ab) (λ_ _=>0) ⟨rfl,rfl⟩ ?_;rintro⟨i,⟨⟩⟩ W ⟨hi,rfl⟩ next hnext
 simp only at hi;subst hi;have hl:¬(0:Int)<(st.len:Int):=by omega
 simp only[hl,decide_false,cond_false];exact hK _ _ au hE Z
end Go.Proofs.EN
end
section
namespace Go.Proofs.EN
open Gp Go.Proofs Go.Proofs.CN
theorem agf {w:World} {p0 p1 p2 p3 p4 p5 p6 p7 p8 p9 j u z I U Y:Int} {sw po:eY} {n18 n19 n20 n21 n22 n23 n24 n25 n26 n27 n28 n29 n30 n31 n32 n33 n34:Int} {st:eY}:sF p0 p1 p2 p3 p4 p5 p6 p7 p8 p9 j u z I U Y sw po n18 n19 n20 n21 n22 n23 n24 n25 n26 n27 n28 n29 n30 n31 n32 n33 n34 st w λr w'=>r=decide (sw.len<=8/\po.len<=4/\st.len<=12)/\Ext w w':=by
 apply RH;refine fP λa w1 r1 e1 z1 f1=> ?_;intro J;have hJ:∀q,q=decide (sw.len<=8/\po.len<=4/\st.len<=12)->J q:=λq hq=>⟨hq,f1⟩;clear_value J;refine fJ (k:= .slice) (i:=16) (x:=sw) r1 rfl ?_;by_cases c1:(sw.len:Int)<=8;rotate_left
 ·rw[decide_eq_false c1,cond_false];exact hJ _ (decide_eq_false λh=>by omega).symm
 rw[decide_eq_true c1,cond_true];refine fJ (k:= .slice) (i:=17) (x:=po) r1 rfl ?_;by_cases c2:(po.len:Int)<=4;rotate_left
 ·rw[decide_eq_false c2,cond_false];exact hJ _ (decide_eq_false λh=>by omega).symm
 rw[decide_eq_true c2,cond_true];refine fJ (k:= .slice) (i:=35) (x:=st) r1 rfl ?_;refine hJ _ (decide_eq_decide.2 ?_);omega
theorem tK {w:World} {p0 p1 p2 p3 p4 p5 p6 p7 p8 p9 j u z I U Y:Int} {sw po:eY} {n18 n19 n20 n21 n22 n23 n24 n25 n26 n27 n28 n29 n30 n31 n32 n33 n34:Int} {st:eY} {sl:List T16} {pl:List Int} {tl:List T7} (Z:lV 16 e16 w sw sl) (aa:lV 1 eI w po pl) (ab:lV 7 e7 w st tl) {K:Bool->b_}
  (h0:∀w',Ext w w'->K false w')
  (h1:∀w',Ext w w'->sw.len<=8->po.len<=4->st.len<=12->chk (p0,p1,p2,p3,p4,p5,p6,p7,p8,p9,j,u,z,I,U,Y,()) sw.len po.len st.len n18 n19 n20 n21 n22 n23 n24 n25 n26 n27 n28 n29 n30 n31 n32 n33 n34 sw.len sl pl tl 0->K true w'):
  Ce p0 p1 p2 p3 p4 p5 p6 p7 p8 p9 j u z I U Y sw po n18 n19 n20 n21 n22 n23 n24 n25 n26 n27 n28 n29 n30 n31 n32 n33 n34 st w K:=by
 apply RG;refine fP λa w1 r1 e1 z1 f1=> ?_;have rd:∀W (Q:_),Row W a (jo p0 p1 p2 p3 p4 p5 p6 p7 p8 p9 j u z I U Y sw po n18 n19 n20 n21 n22 n23 n24 n25 n26 n27 n28 n29 n30 n31 n32 n33 n34 st)->Q p0 p1 p2 p3 p4 p5 p6 p7 p8 p9 j u z I U Y sw po n18 n19 n20 n21 n22 n23 n24 n25 n26 n27 n28 n29 n30 n31 n32 n33 n34 st->rX W ⟨a,0,none⟩ Q:=by
  intro W Q hr hq;simp only[sx,hr.cell];exact hq
 intro J;have hJ0:∀W,Ext w W->J false W:=λW hW=>h0 W hW;have hJ1:∀W,Ext w W->sw.len<=8->po.len<=4->st.len<=12->chk (p0,p1,p2,p3,p4,p5,p6,p7,p8,p9,j,u,z,I,U,Y,()) sw.len po.len st.len n18 n19 n20 n21 n22 n23 n24 n25 n26 n27 n28 n29 n30 n31 n32 n33 n34 sw.len sl pl tl 0->J true W:=λW hW=>h1 W hW;clear_value J;refine rd _ _ r1 ?_;refine Qk agf ?_;rintro _ w2 ⟨rfl,f2⟩;by_cases hs:sw.len<=8/\po.len<=4/\st.len<=12;rotate_left
 ·rw[decide_eq_false hs,cond_false];exact hJ0 _ (f1.trans f2)
 rw[decide_eq_true hs,cond_true];have x2:=f1.trans f2;refine rd _ _ (r1.ext f2) ?_;refine Ql (Zy (Z.ext x2) (aa.ext x2) (ab.ext x2) (by omega) (by omega) (by omega)) ?_;rintro r w3 ⟨hc,f3⟩;by_cases hr:r=0
 ·subst hr;exact hJ1 _ (x2.trans f3) hs.1 hs.2.1 hs.2.2 hc
 ·have:(r==0)=false:=by simpa using hr
  rw[this];exact hJ0 _ (x2.trans f3)
end Go.Proofs.EN
end
