import Derived.Test.YtlpphhjbjjdhfaaGreatDoorW12
import Derived.Test.YtlpphhjbjjdhfaaGreatDoorW5
import Derived.WalkKit
import Derived.LaidEql
import Derived.Stop.Asserts
import Derived.RowKitTokens
set_option maxRecDepth 100000
set_option maxHeartbeats 4000000
section
namespace Go.Proofs.AN
open Gp Gp.V4 Go.Proofs Go.Proofs.VN
open Gp.Bind (In64)
section
variable {w0 w w':θ}
theorem jX {W:θ} {b:Nat} {vs:List Value} (hr:Row W b vs) (hv:∀v∈vs,∀n,v≠.int .u8 n) {s:fU} {L:List UInt8} (hs:iD W s L) {ad:Addr} (ha:s.a=some ad) (hl:0<L.length):¬ad.block=b:=by
 intro e;obtain⟨x,hx⟩:∃x,L[0]? =some x:=⟨_,ade hl⟩;obtain⟨a',ha',hc⟩:=hs.at_ hx;rw[ha] at ha'
 cases ha'
 obtain⟨T,hT⟩:=hr;obtain⟨bk,off,pth⟩:=ad;simp only at e;subst e;have h0:(Addr.add ⟨bk,off,pth⟩ 0)=⟨bk,off,pth⟩:=by simp[Addr.add]
 rw[h0] at hc;simp only[World.cell?,hT] at hc;split at hc
 ·cases hc
 ·rw[List.getElem?_toArray] at hc;exact hv _ (akK hc) _ rfl
instance (n:Int):Decidable (In64 n):=inferInstanceAs (Decidable (_/\_))
theorem Y2 (l:List UInt8) (i k:Nat) (hk:k<=4):In64 (num l i k:Int):=by
 have h1:=Oj ((l.drop i).take k);have h2:(256:Nat)^((l.drop i).take k).length<=256^4:=al6 (by omega) (by simp;omega);unfold In64 num;omega
theorem XK {l:List UInt8} {i k n e:Int} (h:ML l i k n e) (hk:k<=4):In64 n:=by
 unfold ML at h;split at h
 ·rw[h.2];unfold In64;omega
 ·split at h
  ·rw[h.2];unfold In64;omega
  ·rw[h.2];exact Y2 l _ _ (by omega)
@[reducible] def mg (n:Int):Prop:=0<=n/\n<=65535
theorem ajw (l:List UInt8) (i:Nat):mg (num l i 2:Int):=by
 have h1:=Oj ((l.drop i).take 2);have h2:(256:Nat)^((l.drop i).take 2).length<=256^2:=al6 (by omega) (by simp;omega);unfold num;omega
theorem ahi {l:List UInt8} {i n e:Int} (h:ML l i 2 n e):mg n:=by
 unfold ML at h;split at h
 ·rw[h.2];decide
 ·split at h
  ·rw[h.2];decide
  ·rw[h.2];exact ajw l _
theorem SH (l:List UInt8) (j:Nat):mg ((wordAt l j:Nat):Int):=by
 have:=EY l j;omega
theorem aeZ (x:Int):mg (lu .i64 x 65535):=by
 unfold lu;have h:IntKind.bits .i64=64:=rfl;have e1:(BitVec.ofInt (IntKind.bits .i64) x).toNat=(x % 18446744073709551616).toNat:=by rw[h,als];rfl
 have e2:(BitVec.ofInt (IntKind.bits .i64) 65535).toNat=2^16 - 1:=by rw[h,als];rfl
 rw[al3,e1,e2,amH];rw[Α];omega
theorem Tq (x:Int) (n:Nat) (hn:n<=62) (m:Int) (hm:m=(2^n - 1:Nat)):lu .i64 x m=x % ((2^n:Nat):Int):=by
 subst hm;unfold lu;have h:IntKind.bits .i64=64:=rfl;have h1:2^n<=2^62:=al6 (by omega) hn;have h0:0<2^n:=Nat.pos_of_ne_zero (by simp);have e1:(BitVec.ofInt (IntKind.bits .i64) x).toNat=(x % 18446744073709551616).toNat:=by rw[h,als];rfl
 have e2:(BitVec.ofInt (IntKind.bits .i64) ((2^n - 1:Nat):Int)).toNat=2^n - 1:=by
  rw[h,als];have:((2^n - 1:Nat):Int) % ((2^64:Nat):Int)=((2^n - 1:Nat):Int):=Int.emod_eq_of_lt (by omega) (by omega);rw[this];rfl
 rw[al3,e1,e2,amH];have h2:(x % 18446744073709551616).toNat % 2^n<2^n:=aln _ h0;rw[Α];have hd:((2^n:Nat):Int) ∣ 18446744073709551616:=by
  refine⟨((2^(64 - n):Nat):Int),?_⟩;rw[<- Int.natCast_mul,<- Nat.pow_add,show n+(64 - n)=64 by omega];rfl
 rw[Int.natCast_emod,Int.toNat_of_nonneg (by omega),Int.emod_emod_of_dvd _ hd]
theorem YU (x:Int) (k:Nat) (hk:k=1\/k=2\/k=4) (w:θ):AA x (k:Int) w λr w'=>r=x % ((2^(8 * k):Nat):Int)/\w'=w:=by
 apply abV;rcases hk with rfl|rfl|rfl
 ·exact⟨by decide,Tq x 8 (by omega) _ (by decide),rfl⟩
 ·exact⟨by decide,Tq x 16 (by omega) _ (by decide),rfl⟩
 ·exact⟨by decide,Tq x 32 (by omega) _ (by decide),rfl⟩
def yV (a b c d:Int):List UInt8:=lU (lU (lU (lU [] (a % 4294967296) 4) (b % 4294967296) 4) (c % 256) 2) (d % 65536) 2
theorem Dx (a b c d:Int):(yV a b c d).length<=100:=by
 have l2:=Aw [] (a % 4294967296) 4;have l4:=Aw (lU [] (a % 4294967296) 4) (b % 4294967296) 4;have l6:=Aw (lU (lU [] (a % 4294967296) 4) (b % 4294967296) 4) (c % 256) 2;have l8:=Aw (lU (lU (lU [] (a % 4294967296) 4) (b % 4294967296) 4) (c % 256) 2) (d % 65536) 2;unfold yV;simp only[alU,Int.cast_ofNat_Int] at l2 l4 l6 l8 ⊢;omega
theorem JY (a b c d:Int) (w:θ):tJ a b c d w λr w'=>iD w' r (yV a b c d)/\Ext w w':=by
 apply Xe;refine cmS1 (YU _ 4 (by omega) w) ?_;rintro r1 w1 ⟨rfl,hw⟩;subst hw;refine cmS2 (zT iD.nil (by simp) _ 4) ?_;rintro s1 w2 ⟨b2,f2,_⟩;refine cmS1 (YU _ 4 (by omega) w2) ?_;rintro r2 w3 ⟨rfl,hw⟩;subst hw;have l2:(lU [] (a % ((2^(8 * 4):Nat):Int)) 4).length<=0+4:=Aw [] _ 4;refine cmS2 (zT (iD.iG b2) (by omega) _ 4) ?_;rintro s3 w4 ⟨b4,f4,_⟩;refine cmS1 (YU _ 1 (by omega) w4) ?_;rintro r3 w5 ⟨rfl,hw⟩;subst hw;have l4:(lU (lU [] (a % ((2^(8 * 4):Nat):Int)) 4) (b % ((2^(8 * 4):Nat):Int)) 4).length<=(lU [] (a % ((2^(8 * 4):Nat):Int)) 4).length+4:=Aw _ _ 4;refine cmS2 (zT (iD.iG b4) (by omega) _ 2) ?_;rintro s5 w6 ⟨b6,f6,_⟩;refine cmS1 (YU _ 2 (by omega) w6) ?_;rintro r4 w7 ⟨rfl,hw⟩;subst hw;have l6:(lU (lU (lU [] (a % ((2^(8 * 4):Nat):Int)) 4) (b % ((2^(8 * 4):Nat):Int)) 4) (c % ((2^(8 * 1):Nat):Int)) 2).length<=(lU (lU [] (a % ((2^(8 * 4):Nat):Int)) 4) (b % ((2^(8 * 4):Nat):Int)) 4).length+2:=Aw _ _ 2;refine cmS2 (zT (iD.iG b6) (by omega) _ 2) ?_;rintro s7 w8 ⟨b8,f8,_⟩;exact⟨iD.iG b8,((f2.trans f4).trans f6).trans f8⟩
theorem half (i:Nat) (h:i<4):ο.wrap (Int.tdiv ((2 * i:Nat):Int) 2)=(i:Int):=by
 have:i=0\/i=1\/i=2\/i=3:=by omega
 rcases this with rfl|rfl|rfl|rfl<;>decide
theorem JX {b:Nat} {s s':fU} {l l':List UInt8} (h:Row w b [Δ s,.slice s'.a s'.len s'.cap]) (hs:iD w s l) (hs':iD w s' l'):Parts w ⟨some ⟨b,0,none⟩,2,2⟩ [(s,l),(s',l')]:=by
 refine⟨rfl,λi p hi=> ?_⟩
 match i,hi with
 |0,hi=>simp at hi;subst hi;exact⟨b,0,rfl,by rw[h.cell];rfl,hs⟩
 |1,hi=>simp at hi;subst hi;exact⟨b,0,rfl,by rw[h.cell];rfl,hs'⟩
 |(n+2),hi=>simp at hi
structure Xq (sa da:Int) (l:List UInt8):Prop where
 len:8<=l.length
 size:wordAt l 4=l.length
 own:wordAt l 6≠0
 sum:fold (tot (yV sa da 17 (l.length:Int))+tot l)=65535
theorem aaP {l:List UInt8} {j:Nat} (hj:j+1<8):wordAt ((l.take (8:Int).toNat).drop (0:Int).toNat) j=wordAt l j:=by
 unfold wordAt;have e8:(8:Int).toNat=8:=rfl;have e0:(0:Int).toNat=0:=rfl;rw[e8,e0,amo,alX,alX,aeH (by omega),aeH (by omega)]
theorem aci (sa da:Int) {s:fU} {l:List UInt8} (hs:iD w s l) (hl:l.length<=2^40) {K:Int->Int->Bool->fU->Int->b_}
  (hK:∀a b c d e w',Ext w w'->mg a->mg b->(∃L:List UInt8,iD w' d L/\L.length<=2^40)->(Xq sa da l->e=0/\a=(wordAt l 0:Int)/\b=(wordAt l 2:Int)/\c=false/\iD w' d (l.drop 8))->K a b c d e w'):Io sa da s w K:=by
 apply Zv;refine gy λa w1 r1 e1 z1 f1=> ?_;have hlen:=hs.1;have rdk:∀{W:θ} {x0 x1:Int} {x2:Bool} {x3:fU} {e:Int},mg x0->mg x1->Ext w W->(∃L:List UInt8,iD W x3 L/\L.length<=2^40)->(Xq sa da l->e=0/\x0=(wordAt l 0:Int)/\x1=(wordAt l 2:Int)/\x2=false/\iD W x3 (l.drop 8))->Row W a [Β x0,Β x1,.bool x2,Δ x3]->
   Ld ν W (Addr.add ⟨a,0,none⟩ 0) λy0=>Ld ν W (Addr.add ⟨a,0,none⟩ 1) λy1=>Ld .bool W (Addr.add ⟨a,0,none⟩ 2) λy2=>Ld .slice W (Addr.add ⟨a,0,none⟩ 3) λy3=>K y0 y1 y2 y3 e W:=by
  intro W x0 x1 x2 x3 e i0 i1 hx hL hG hr;exact Ld_i 0 x0 hr (Ld_i 1 x1 hr (Ld_b 2 x2 hr (Ld_s 3 x3 hr (hK _ _ _ _ _ _ hx i0 i1 hL hG))))
 by_cases c1:(s.len:Int)<8
 ·rw[aeJ c1,aaU];refine StN_f r1 λw4 r4 f4 z4=> ?_;exact rdk (x3:=⟨none,0,0⟩) (by decide) (by decide) (f1.nw f4) ⟨[],iD.nil,by simp⟩ (λhg=>by have:=hg.len;omega) r4
 rw[adn c1,aaT];refine gy λg w2 r2 e2 z2 f2=> ?_;have x2:=f1.trans f2;have hs2:=hs.ext x2;refine lX hs2 (by omega) (by omega) (by omega) λs' hs' _=> ?_;apply IY;refine⟨rfl,gy λk w3 r3 e3 z3 f3=> ?_⟩;have hs3:=hs'.ext f3;have hl8:((l.take (8:Int).toNat).drop (0:Int).toNat).length=8:=by simp;omega
 have hw8:∀j,j+1<8->wordAt ((l.take (8:Int).toNat).drop (0:Int).toNat) j=wordAt l j:=λj hj=>aaP hj;generalize (l.take (8:Int).toNat).drop (0:Int).toNat=l8 at hs3 hl8 hw8;have x3:=x2.trans f3;have ha3:a<w3.heap.size:=((r1.ext f2).ext f3).lt;have hg3:g<w3.heap.size:=(r2.ext f3).lt;have wl:(wB l8).length=4:=by rw[Qq,hl8]
 have U:=hs.ext x3;refine vC (Nz (s:=s') (f0:=k) (l:=l8) (by omega)) (λi Y=>(∃v0 v1 v2 v3:Int,(mg v0/\mg v1/\mg v2/\mg v3)/\((1<=i->v0=(wordAt l8 (2 * 0):Int))/\(2<=i->v1=(wordAt l8 (2 * 1):Int))/\(3<=i->v2=(wordAt l8 (2 * 2):Int))/\(4<=i->v3=(wordAt l8 (2 * 3):Int)))/\Row Y g [Β v0,Β v1,Β v2,Β v3])/\gV w3 Y (·=g)) (λ_ _=>False) (by simp) ?_ ?_ ?_ (by intro e W W' h;exact h.elim) (by intro e W h;exact h.elim) ?_ ?_ (by intro W h;exact h.elim) (by intro id W h;exact h.elim)
 ·intro Y hY _;exact⟨⟨0,0,0,0,by decide,⟨λh=>by omega,λh=>by omega,λh=>by omega,λh=>by omega⟩,(r2.ext f3).ext hY⟩,hY _⟩
 ·rintro i Y ⟨_,hf⟩;exact⟨r3.fr hf (by omega),hs3.fr hf λad ha h0 e=>jX (r2.ext f3) (by simp) hs3 ha h0 e⟩
 ·rintro i Y Y' ⟨⟨v0,v1,v2,v3,hv,hE,hr⟩,hf⟩ hf';have:kT none w3=w3.heap.size+1:=rfl;exact⟨⟨v0,v1,v2,v3,hv,hE,hr.fr hf' (by omega)⟩,hf.trans hf' λy hy e=>by omega⟩
 ·rintro i x Y Kb hx ⟨⟨v0,v1,v2,v3,⟨j0,j1,j2,j3⟩,⟨h0,h1,h2,h3⟩,hr⟩,hf⟩ hlt hk _;have hi:i<4:=by rw[<- wl];exact(aeK.1 hx).1
  rw[ZR l8 (by omega)] at hx
  cases hx
  refine⟨rfl,by omega,?_⟩;simp only;rw[half i hi];refine⟨by omega,by omega,?_⟩;rw[ab3,aiG,gJ,ahO];have fb:=gV.gu Y (kT none w3);have hlw:kT none w3=w3.heap.size+1:=rfl;have ae:=hr.fr fb (by omega);refine gY (i:=i) ae rfl (by simp;omega) λw5 r5 f5' z5=> ?_;have f5:gV (gu Y (kT none w3)) w5 (·=g):=f5' _ rfl;refine hk w5 (·=g) f5 (λy e=>by omega) ⟨?_,(hf.trans fb λy hy e=>by omega).trans f5 λy _ e=>e⟩;have:i=0\/i=1\/i=2\/i=3:=by omega
  rcases this with rfl|rfl|rfl|rfl<;>(simp only[af7,agO] at r5;exact⟨_,_,_,_,⟨by first|assumption|exact SH _ _,by first|assumption|exact SH _ _,by first|assumption|exact SH _ _,by first|assumption|exact SH _ _⟩,⟨λ_=>by first|rfl|exact h0 (by omega),λ_=>by first|rfl|exact h1 (by omega)|omega,λ_=>by first|rfl|exact h2 (by omega)|omega,λ_=>by first|rfl|exact h3 (by omega)|omega⟩,r5⟩)
 rintro Y ⟨⟨v0,v1,v2,v3,⟨j0,j1,_,_⟩,⟨h0,h1,h2,h3⟩,hr⟩,hf⟩ hm;rw[wl] at h0 h1 h2 h3;have h0:v0=(wordAt l 0:Int):=by rw[h0 (by omega),hw8 _ (by omega)]
 have h1:v1=(wordAt l 2:Int):=by rw[h1 (by omega),hw8 _ (by omega)]
 have h2:v2=(wordAt l 4:Int):=by rw[h2 (by omega),hw8 _ (by omega)]
 have h3:v3=(wordAt l 6:Int):=by rw[h3 (by omega),hw8 _ (by omega)]
 have Z:=hm rfl;have I:=hr.drew;have hYs:w3.heap.size<Y.heap.size:=(akl.1 Z).1;have N:gV w3 Y.drew (·=g):=hf.ext (Ext.drew Y);have xY:Ext w Y.drew:=x3.nw N;have ra:Row Y.drew a _:=((r1.ext f2).ext f3).fr N (by omega);have O:Y.drew.heap[w3.heap.size]? =some (.deferred (some [])):=Z;have aa:iD Y.drew s l:=U.fr N λad ha h0 e=>jX (r2.ext f3) (by simp) U ha h0 e;have fin:∀(W:θ) (x0 x1:Int) (x2:Bool) (x3:fU) (e:Int),mg x0->mg x1->Ext Y.drew W->(∃L:List UInt8,iD W x3 L/\L.length<=2^40)->(∀ad,x3.a=some ad->a<ad.block/\ad.block≠w3.heap.size)->(Xq sa da l->e=0/\x0=(wordAt l 0:Int)/\x1=(wordAt l 2:Int)/\x2=false/\iD W x3 (l.drop 8))->
   h_ [Β x0,Β x1,.bool x2,Δ x3] W ⟨a,0,none⟩ 0 λu=>u.heap[w3.heap.size]? =some (.deferred (some []))/\
    Ld ν (u.putObj w3.heap.size (.deferred none)) (Addr.add ⟨a,0,none⟩ 0) λy0=>Ld ν (u.putObj w3.heap.size (.deferred none)) (Addr.add ⟨a,0,none⟩ 1) λy1=>Ld .bool (u.putObj w3.heap.size (.deferred none)) (Addr.add ⟨a,0,none⟩ 2) λy2=>
     Ld .slice (u.putObj w3.heap.size (.deferred none)) (Addr.add ⟨a,0,none⟩ 3) λy3=>K y0 y1 y2 y3 e (u.putObj w3.heap.size (.deferred none)):=by
  intro W x0 x1 x2 x3' e i0 i1 hW hL ab hG;refine StN_f (ra.ext hW) λw5 r5 f5 z5=> ?_;have zW:=hW.size;have hYd:Y.drew.heap.size=Y.heap.size:=rfl;refine⟨?_,?_⟩
  ·rw[f5.same _ (by omega) (by omega),(hW λ_=>False).same _ (by omega) (by simp)];exact O
  ·have fp:=gV.mF w5 w3.heap.size (.deferred none);have zx:=x3.size;have kp:∀L:List UInt8,iD W x3' L->iD (w5.putObj w3.heap.size (.deferred none)) x3' L:=λL hL=>(hL.fr f5 λad ha h0 e=>by have:=(ab ad ha).1;omega).fr fp λad ha h0 e=>by
    exact(ab ad ha).2 e
   obtain⟨L,hL1,hL2⟩:=hL;exact rdk (x3:=x3') i0 i1 (((xY.trans hW).nw f5).new fp λy hy e=>by omega) ⟨L,kp L hL1,hL2⟩ (λhg=>by obtain⟨g0,g1,g2,g3,g4⟩:=hG hg;exact⟨g0,g1,g2,g3,kp _ g4⟩) (r5.fr fp (by omega))
 refine⟨by omega,by omega,?_⟩;refine Ld_i 2 v2 I ?_;refine⟨by omega,by omega,?_⟩;refine Ld_i 3 v3 I ?_;by_cases c2:v2<8
 ·rw[aeJ c2,aaU];exact fin Y.drew 0 0 false ⟨none,0,0⟩ 4 (by decide) (by decide) (Ext.refl _) ⟨[],iD.nil,by simp⟩ (λad h=>by cases h) λhg=>by have:=hg.len;have:=hg.size;omega
 rw[adn c2,aaT];by_cases c3:v2>(s.len:Int)
 ·rw[aeJ c3,aaU];exact fin Y.drew 0 0 false ⟨none,0,0⟩ 3 (by decide) (by decide) (Ext.refl _) ⟨[],iD.nil,by simp⟩ (λad h=>by cases h) λhg=>by have:=hg.size;omega
 rw[adn c3,aaT];by_cases c4:v2<(s.len:Int)
 ·rw[aeJ c4,aaU];exact fin Y.drew 0 0 false ⟨none,0,0⟩ 4 (by decide) (by decide) (Ext.refl _) ⟨[],iD.nil,by simp⟩ (λad h=>by cases h) λhg=>by have:=hg.size;omega
 rw[adn c4,aaT];intro J;have af:∀W,Ext Y.drew W->¬Xq sa da l->J true W:=λW hW ag=>by
  simp only[J,aaU];exact fin W 0 0 false ⟨none,0,0⟩ 5 (by decide) (by decide) hW ⟨[],iD.nil,by simp⟩ (λad h=>by cases h) λhg=>absurd hg ag
 have ac:∀W,Ext Y.drew W->J false W:=λW hW=>by
  simp only[J,aaT];have R:=(I.ext hW).drew;refine⟨by omega,by omega,?_⟩;refine Ld_i 0 v0 R ?_;refine⟨by omega,by omega,?_⟩;refine Ld_i 1 v1 R ?_;refine lX ((aa.ext hW).ext (Ext.drew W)) (by omega) (by omega) (by omega) λs9 hs9 _=> ?_;refine cmS2 (nR hs9 (by simp;omega)) ?_;rintro cd w5 ⟨bcd,_,f5,ncd⟩;have hr5:=R.ext f5;refine⟨by rw[show Int.toNat 1 * 1=1 from rfl,gJ,hr5.cell];rfl,by rw[show Int.toNat 0 * 1=0 from rfl,gJ,hr5.cell];rfl,?_⟩;have hzz:=(hW.trans (Ext.drew W)).size;have hYd2:Y.drew.heap.size=Y.heap.size:=rfl;have hWd2:W.drew.heap.size=W.heap.size:=rfl;refine fin w5 v0 v1 (v3==0) cd 0 j0 j1 ((hW.trans (Ext.drew W)).trans f5) ⟨_,iD.iG bcd,by simp;omega⟩ (λad ah=>by have:=ncd _ (bcd.at_eq ah);constructor<;>omega) λhg=>⟨rfl,h0,h1,?_,?_⟩
  ·have:=hg.own;rw[h3,ama];omega
  ·have e9:(l.take (s.len:Int).toNat).drop (8:Int).toNat=l.drop 8:=by
    rw[akM (by omega)];rfl
   have:=iD.iG bcd;rw[e9] at this;exact this
 clear_value J;by_cases hv3:v3=0
 ·have:(v3 !=0)=false:=by simp[hv3]
  rw[this,aaT];exact ac _ (Ext.refl _)
 ·have:(v3 !=0)=true:=by rw[alM];exact hv3
  rw[this,aaU];refine cmS2 (JY sa da 17 v2 _) ?_;rintro ps w5 ⟨ai,f5⟩;have hpll:=Dx sa da 17 v2;refine gy λm w6 r6 e6 z6 f6=> ?_;refine cmS0 (Qp (JX r6 (ai.ext f6) ((aa.ext f5).ext f6)) (by simp) (by simp;omega)) ?_;rintro rt w7 ⟨aj,f7⟩
  cases rt
  ·refine af w7 ((f5.trans f6).trans f7) λhg=> ?_;have h9:=al7 aj.symm;apply h9;have e2:v2=(l.length:Int):=by rw[h2,hg.size]
   rw[e2];have:=hg.sum;simpa [rY] using this
  ·exact ac w7 ((f5.trans f6).trans f7)
end
end Go.Proofs.AN
end
section
namespace Go.Proofs.AN
open Gp Gp.V4 Go.Proofs Go.Proofs.VN
open Gp.Bind (In64)
section
variable {w0 w w':θ}
theorem afc {W:θ} {b:Nat} {vs:List Value} (hr:Row W b vs) (hv:∀v∈vs,∀n,v≠.int .u8 n) {ad:Addr} {n:Int} (hc:W.cell? ad=some (.int .u8 n)):¬ad.block=b:=by
 intro e;obtain⟨T,hT⟩:=hr;obtain⟨bk,off,pth⟩:=ad;simp only at e;subst e;simp only[World.cell?,hT] at hc;split at hc
 ·cases hc
 ·rw[List.getElem?_toArray] at hc;exact hv _ (akK hc) _ rfl
theorem aaq {W:θ} {a:Nat} {x0 x1 x2 x3 x4 x5 x6 x7:Int} {x8 x9:fU} {Q:Int->Int->Int->Int->Int->Int->Int->Int->fU->fU->Prop} (hr:Row W a (lM x0 x1 x2 x3 x4 x5 x6 x7 x8 x9)) (hq:Q x0 x1 x2 x3 x4 x5 x6 x7 x8 x9):AV W ⟨a,0,none⟩ Q:=by
 simp only[sx,hr.cell];exact hq
theorem Kq {W:θ} {a:Nat} {s:fU} {l:List UInt8} (hr:Row W a [Δ s]) (hs:iD W s l) (hl:l.length<=2^40) (i k:Int) (hk:k<=4) {K:Value->b_} (hK:∀n:Int,In64 n->(k=2->mg n)->K (Β n) W):
  jy υ [.one ν] (Value.func (.func V9) #[] #[(Value.pointer (some ⟨a,0,none⟩))]) [Β i,Β k] W K:=by
 refine CN.j_ (by kernel_rfl) ?_;refine Calls.mono (Va (a0:=i) (a1:=k) (f0:=⟨a,0,none⟩) (w:=W) (K:=λn W'=>(In64 n/\(k=2->mg n))/\W'=W) ?_) ?_
 ·refine Ld_s 0 s hr ?_;refine cmS8 (Pz hs (by omega) i k) ?_;rintro n e w1 ⟨hw,hg⟩;exact⟨⟨XK hg hk,λh2=>by subst h2;exact ahi hg⟩,hw⟩
 ·rintro e W' ⟨n,he,hn,rfl⟩;exact⟨n,he,hK n hn.1 hn.2⟩
theorem acg (sa da:Int) {s:fU} {l:List UInt8} (hs:iD w s l) (hl:l.length<=2^40) {K:Int->Int->Int->Int->Int->Int->Int->Int->fU->fU->Int->b_}
  (hK:∀a b c d e f g h i j r w',Ext w w'->mg a->mg b->(∃L:List UInt8,iD w' i L/\L.length<=2^40)->(∃L:List UInt8,iD w' j L/\L.length<=2^40)->K a b c d e f g h i j r w'):Ij sa da s w K:=by
 apply Zr;refine⟨rfl,gy λa w1 r1 e1 z1 f1=> ?_⟩;refine gy λb w2 r2 e2 z2 f2=> ?_;have u:=r1.ext f2;have x2:=f1.trans f2;have hs2:=hs.ext x2;have hlen:=hs.1;have za:=f1.size;have fin:∀(W:θ) x0 x1 x2' x3 x4 x5 x6 x7 x8 x9 (r:Int),mg x0->mg x1->Ext w2 W->(∃L:List UInt8,iD W x8 L/\L.length<=2^40)->(∃L:List UInt8,iD W x9 L/\L.length<=2^40)->h_ (lM x0 x1 x2' x3 x4 x5 x6 x7 x8 x9) W ⟨b,0,none⟩ 0 λw9=>AV w9 ⟨b,0,none⟩ λy0 y1 y2 y3 y4 y5 y6 y7 y8 y9=>K y0 y1 y2 y3 y4 y5 y6 y7 y8 y9 r w9:=by
  intro W x0 x1 x2' x3 x4 x5 x6 x7 x8 x9 r i0 i1 hW hL8 hL9;obtain⟨L8,g8,l8⟩:=hL8;obtain⟨L9,g9,l9⟩:=hL9;refine StN_f (r2.ext hW) λw9 r9 f9 z9=> ?_;refine aaq r9 ?_;exact hK _ _ _ _ _ _ _ _ _ _ r w9 ((x2.trans hW).nw f9) i0 i1 ⟨L8,g8.fr f9 λad ha h0 e=>jX (r2.ext hW) (by simp) g8 ha h0 e,l8⟩ ⟨L9,g9.fr f9 λad ha h0 e=>jX (r2.ext hW) (by simp) g9 ha h0 e,l9⟩
 have ld:∀{W:θ} {Q:fU->Prop},Ext w2 W->Q s->Ld .slice W ⟨a,0,none⟩ Q:=λhW hq=>Ld_s 0 s (u.ext hW) hq;refine ld (Ext.refl _) ?_;by_cases c1:(s.len:Int)<20
 ·rw[aeJ c1,aaU];exact fin w2 0 0 0 0 0 0 0 0 ⟨none,0,0⟩ ⟨none,0,0⟩ 3 (by decide) (by decide) (Ext.refl _) ⟨[],iD.nil,by simp⟩ ⟨[],iD.nil,by simp⟩
 rw[adn c1,aaT];have R:=ade (show 12<l.length by omega);have af:=ade (show 13<l.length by omega);generalize l[12]=U at R;generalize l[13]=ag at af;refine ld (Ext.refl _) ?_;refine six (i:=12) hs2 R λa12 an=> ?_;refine ig (k:= .int .u8) (y:=(U.toNat:Int)) an ⟨by omega,?_⟩;generalize hhd:ο.wrap (ο.wrap (jE .u8 (U.toNat:Int) 4) * 4)=hd;by_cases c2:hd<20
 ·rw[aeJ c2,aaU];exact fin w2 0 0 0 0 0 0 0 0 ⟨none,0,0⟩ ⟨none,0,0⟩ 4 (by decide) (by decide) (Ext.refl _) ⟨[],iD.nil,by simp⟩ ⟨[],iD.nil,by simp⟩
 rw[adn c2,aaT];refine ld (Ext.refl _) ?_;by_cases c3:hd>(s.len:Int)
 ·rw[aeJ c3,aaU];exact fin w2 0 0 0 0 0 0 0 0 ⟨none,0,0⟩ ⟨none,0,0⟩ 3 (by decide) (by decide) (Ext.refl _) ⟨[],iD.nil,by simp⟩ ⟨[],iD.nil,by simp⟩
 rw[adn c3,aaT];refine ld (Ext.refl _) ?_;by_cases c4:(s.len:Int)>65535
 ·rw[aeJ c4,aaU];exact fin w2 0 0 0 0 0 0 0 0 ⟨none,0,0⟩ ⟨none,0,0⟩ 6 (by decide) (by decide) (Ext.refl _) ⟨[],iD.nil,by simp⟩ ⟨[],iD.nil,by simp⟩
 rw[adn c4,aaT];refine ld (Ext.drew w2) (ld (Ext.drew w2) ?_);refine cmS2 (JY sa da 6 _ _) ?_;rintro ps w3 ⟨ao,f3⟩;have hpll:=Dx sa da 6 (s.len:Int);have g3:=(Ext.drew w2).trans f3;refine⟨by rw[(u.ext g3).cell];rfl,?_⟩;refine gy λm w4 r4 e4 z4 f4=> ?_;have g4:=g3.trans f4;refine cmS0 (Qp (JX r4 (ao.ext f4) (hs2.ext g4)) (by simp) (by simp;omega)) ?_;rintro rt w5 ⟨_,f5⟩;have g5:=g4.trans f5
 cases rt
 ·exact fin w5 0 0 0 0 0 0 0 0 ⟨none,0,0⟩ ⟨none,0,0⟩ 5 (by decide) (by decide) g5 ⟨[],iD.nil,by simp⟩ ⟨[],iD.nil,by simp⟩
 rw[adp,aaT];have hs5:=hs2.ext g5;have N:=u.ext g5;refine Kq N hs5 hl 0 2 (by omega) λn0 _ in0=>⟨n0,rfl,?_⟩;refine Kq N hs5 hl 2 2 (by omega) λn1 _ in1=>⟨n1,rfl,?_⟩;refine Kq N hs5 hl 4 4 (by omega) λn2 _ in2=>⟨n2,rfl,?_⟩;refine Kq N hs5 hl 8 4 (by omega) λn3 _ in3=>⟨n3,rfl,?_⟩;refine gy λk w6 r6 e6 z6 f6=> ?_;refine StN_f r6 λw7 r7 f7 z7=> ?_;have ah:Ext w5 w7:=f6.nw f7;have g7:=(g5.trans ah).trans (Ext.drew w7);have hs7:=hs2.ext g7;have ai:=u.ext g7;refine ld g7 ?_;refine six (i:=12) hs7 R λp12 Y=> ?_;refine ig (k:= .int .u8) (y:=(U.toNat:Int)) Y (ld g7 ?_);refine six (i:=13) hs7 af λp13 I=> ?_;refine ig (k:= .int .u8) (y:=(ag.toNat:Int)) I ?_;have ca:∀{W:θ},Ext w2 W->W.cell? ⟨a,0,none⟩=some (Δ s):=λhW=>by rw[(u.ext hW).cell];rfl
 refine Kq ai hs7 hl 14 2 (by omega) λn4 _ in4=>⟨n4,rfl,I,ca g7,Y,ca g7,?_⟩;refine Kq ai hs7 hl 18 2 (by omega) λn5 _ in5=>⟨n5,rfl,I,ca g7,Y,ca g7,?_⟩;have r7d:=r7.drew;have g57:=g5.size;refine gY (i:=4) r7d rfl (by simp) λw8 r8 f8' z8=> ?_;have f8:gV w7.drew w8 (·=k):=f8' _ rfl;have zk:w5.heap.size<=k:=by omega
 have g8:Ext w2 w8:=(g5.trans (ah.trans (Ext.drew w7))).trans (Ext.refl _)|>.nw f8;have aq:w8.cell? p13=some (.int .u8 (ag.toNat:Int)):=F9 I f8 λe=>afc r7d (by simp) I e;refine⟨aq,ca g8,?_⟩;refine gY (i:=5) r8 rfl (by simp) λw9 r9 f9' z9=> ?_;have f9:gV w8 w9 (·=k):=f9' _ rfl;refine gY (i:=6) r9 rfl (by simp) λaj ar Z z10=> ?_;have f10:gV w9 aj (·=k):=Z _ rfl;refine gY (i:=7) ar rfl (by simp) λO ak aa z11=> ?_;have f11:gV aj O (·=k):=aa _ rfl;have g11:Ext w2 O:=((g8.nw f9).nw f10).nw f11;have g11d:=g11.trans (Ext.drew O);have hs11:=hs2.ext g11d;refine ld g11d ?_;refine lX hs11 (by omega) (by omega) (by omega) λs1 hs1 _=> ?_;refine ld g11d ?_;refine lX hs11 (by omega) (by omega) (by omega) λs2 hs2' _=> ?_;refine cmS2 (nR hs1 (by simp;omega)) ?_;rintro o1 w12 ⟨bo1,_,f12,no1⟩;have g12:=g11d.trans f12;refine⟨ca g12,?_⟩;refine cmS2 (nR (hs2'.ext f12) (by simp;omega)) ?_;rintro o2 au ⟨bo2,_,f13,no2⟩;have g13:=g12.trans f13;have rk13:=((ak.drew).ext f12).ext f13;refine gY (i:=8) rk13 rfl (by simp) λam av ab z14=> ?_;have f14:gV au am (·=k):=ab _ rfl;refine gY (i:=9) av rfl (by simp) λac J ae z15=> ?_;have f15:gV am ac (·=k):=ae _ rfl;simp only[af7,agO] at J;have g15:Ext w2 ac:=(g13.nw f14).nw f15;refine aaq J ?_;have hkl:k<O.drew.heap.size:=ak.drew.lt;have z12:=f12.size;have ap1:∀b,fU.at o1 b->¬b=k:=λb hb e=>by have:=no1 b hb;omega
 have ap2:∀b,fU.at o2 b->¬b=k:=λb hb e=>by have:=no2 b hb;omega
 have B1:=((bo1.fr (f13 λ_=>False) (by simp)).fr f14 ap1).fr f15 ap1;have B2:=(bo2.fr f14 ap2).fr f15 ap2;exact fin ac _ _ _ _ _ _ _ _ _ _ 0 (in0 rfl) (in1 rfl) g15 ⟨_,iD.iG B1,by simp;omega⟩ ⟨_,iD.iG B2,by simp;omega⟩
end
end Go.Proofs.AN
end
section
namespace Go.Proofs.AN
open Gp Gp.V4 Go.Proofs Go.Proofs.VN
open Gp.Bind (In64)
section
variable {w0 w w':θ}
theorem rd3 {W:θ} {a:Nat} {x0 x1 x2:Int} {K:Int->Int->Int->b_} (hr:Row W a [Β x0,Β x1,Β x2]) (hq:K x0 x1 x2 W):
  Ld ν W (Addr.add ⟨a,0,none⟩ 0) λy0=>Ld ν W (Addr.add ⟨a,0,none⟩ 1) λy1=>Ld ν W (Addr.add ⟨a,0,none⟩ 2) λy2=>K y0 y1 y2 W:=
 Ld_i 0 x0 hr (Ld_i 1 x1 hr (Ld_i 2 x2 hr hq))
theorem ahZ (l:List UInt8) (q:Bool):In64 (V4.read l q).proto/\In64 (V4.read l q).src/\In64 (V4.read l q).dst:=by
 unfold V4.read;split
 ·exact⟨Y2 l 9 1 (by omega),Y2 l 12 4 (by omega),Y2 l 16 4 (by omega)⟩
 ·simp only[lV.zero];decide
theorem aeh {l:List UInt8} (h:qR l true=0):20+(V4.read l true).opts.length+(V4.read l true).data.length<=l.length:=by
 unfold V4.read;rw[aeH h];have ho:mW l true=0:=by
  unfold qR at h;by_cases h0:mW l true=0
  ·exact h0
  ·rw[aeH h0] at h;exact absurd h h0
 have:=(T_ ho).2;unfold lV.size at this;exact this
theorem OU (s0:fU) (x0 x1 x2 x3 x4 x5 x6:Int) (x7 x8:Bool) (x9:fU) (h:Int) {d:fU} {m:List UInt8} (hd:iD w d m) (hm:m.length<=2^40) (i:Int):
  jO s0 x0 x1 x2 x3 x4 x5 x6 x7 x8 x9 d h i w λn w'=>In64 n/\Ext w w':=by
 apply Lh;refine gy λa w1 r1 e1 z1 f1=> ?_;refine ig (k:= .slice) (y:=d) (by rw[gJ,gJ,r1.cell];rfl) ?_;refine cmS8 (Pz (hd.ext f1) (by omega) i 2) ?_;rintro n e w2 ⟨hw,hg⟩;subst hw;exact⟨XK hg (by omega),f1⟩
theorem aan {s:fU} {l:List UInt8} (hs:iD w s l) (hl:l.length<=2^40) {K:fU->Int->Int->Int->Int->Int->Int->Int->Bool->Bool->fU->fU->Int->Int->b_}
  (hK:∀t i o l' p s' d' df mf op da hd e w' (m:List UInt8),Ext w w'->iD w' da m->m.length<=2^40->(e=0->8<=m.length)->In64 p->In64 s'->In64 d'->∀s0,(e=0->s0=s/\20<=hd/\hd+(m.length:Int)<=(l.length:Int))->K s0 t i o l' p s' d' df mf op da hd e w'):wK s w K:=by
 apply WJ;refine gy λa w1 r1 e1 z1 f1=> ?_;have z:∀(W:θ) (e:Int),Ext w1 W->e≠0->h_ (nV ⟨none,0,0⟩ 0 0 0 0 0 0 0 false false ⟨none,0,0⟩ ⟨none,0,0⟩ 0) W ⟨a,0,none⟩ 0 λJ=>uf J ⟨a,0,none⟩ λy0 y1 y2 y3 y4 y5 y6 y7 y8 y9 U Y Z=>K y0 y1 y2 y3 y4 y5 y6 y7 y8 y9 U Y Z e J:=by
  intro W e hW he;refine StN_f (r1.ext hW) λw2 r2 f2 z2=> ?_;refine Qj r2 ?_;exact hK _ _ _ _ _ _ _ _ _ _ _ _ e w2 [] ((f1.trans hW).nw f2) iD.nil (by simp) (λh=>absurd h he) (by decide) (by decide) (by decide) _ (λh=>absurd h he)
 refine cmS11 (aef (hs.ext f1) hl) ?_;rintro t i o l' p s' d' df mf op da e w2 ⟨aa,hP,f2⟩;have ab:=aar l true;have u:=ahZ l true;have N:= @aeh l;generalize V4.read l true=P at hP ab u N;obtain⟨rfl,rfl,rfl,rfl,rfl,rfl,rfl,rfl,rfl,O,R⟩:=hP;refine gy λb w3 r3 e3 z3 f3=> ?_;refine StN_f r3 λw4 r4 f4 z4=> ?_;have I:Ext w2 w4:=f3.nw f4;have g4:=f2.trans I;by_cases he:e=0;rotate_left
 ·have:(e !=0)=true:=by rw[alM];exact he
  rw[this,aaU];exact z w4 e g4 he
 subst he;show cond false _ _;rw[aaT];refine Ld_i 2 P.off r4 ?_;by_cases c1:P.off>0
 ·rw[aeJ c1,aaU];exact z w4 4 g4 (by omega)
 rw[adn c1,aaT];refine Ld_s 10 da r4 ?_;by_cases c2:(da.len:Int)<8
 ·rw[aeJ c2,aaU];exact z w4 3 g4 (by omega)
 rw[adn c2,aaT];have r4d:=r4.drew;refine kJ r4d (kJ r4d ?_);have hd4:=(R.ext I).ext (Ext.drew w4);have ho4:=(O.ext I).ext (Ext.drew w4);refine cmS1 (ac7 _ _ _ _ _ _ _ _ _ _ _ (by have:=ho4.1;omega) _) ?_;rintro hd w5 ⟨hhd,f5⟩;have ac:=r4d.ext f5;refine Et ac ?_;have g5:=(g4.trans (Ext.drew w4)).trans f5;refine StN_f (r1.ext g5) λw6 r6 f6 z6=> ?_;refine Qj r6 ?_;have hd5:=hd4.ext f5;refine hK _ _ _ _ _ _ _ _ _ _ _ _ 0 w6 P.data ((f1.trans g5).nw f6) (hd5.fr f6 λad ha h0 e=>jX (r1.ext g5) (by simp) hd5 ha h0 e) (by omega) (λ_=>by have:=R.1;omega) u.1 u.2.1 u.2.2 _ (λ_=>⟨rfl,by omega,by have:=N aa.symm;have:=O.1;omega⟩)
theorem Qi {s:fU} {l:List UInt8} (hs:iD w s l) (hl:l.length<=2^40) {K:Int->Int->Int->Int->Int->Int->Int->Bool->Bool->fU->fU->Int->Int->Int->Int->b_}
  (hK:∀t i o l' p s' d' df mf op da x y z e w',Ext w w'->In64 s'->In64 x->In64 y->In64 d'->In64 z->K t i o l' p s' d' df mf op da x y z e w'):uV s w K:=by
 apply UU;refine gy λa w1 r1 e1 z1 f1=> ?_;refine gy λb w2 r2 e2 z2 f2=> ?_;have x2:=f1.trans f2;have I:=r1.ext f2;have za:=f1.size;have fin:∀(W:θ) (t i o l' p s' d':Int) (df mf:Bool) (op da:fU) (x y z e:Int),In64 s'->In64 x->In64 y->In64 d'->In64 z->Ext w2 W->
   h_ (gQ t i o l' p s' d' df mf op da) W ⟨a,0,none⟩ 0 λY=>h_ [Β x,Β y,Β z] Y ⟨b,0,none⟩ 0 λh=>iq h ⟨a,0,none⟩ λy0 y1 y2 y3 y4 y5 y6 y7 y8 y9 Z=>
    Ld ν h (Addr.add ⟨b,0,none⟩ 0) λu0=>Ld ν h (Addr.add ⟨b,0,none⟩ 1) λu1=>Ld ν h (Addr.add ⟨b,0,none⟩ 2) λu2=>K y0 y1 y2 y3 y4 y5 y6 y7 y8 y9 Z u0 u1 u2 e h:=by
  intro W t i o l' p s' d' df mf op da x y z e i0 i1 i2 i3 i4 hW;refine StN_f (I.ext hW) λw3 r3 f3 z3=> ?_;refine StN_f ((r2.ext hW).fr f3 (by omega)) λw4 r4 f4 z4=> ?_;refine kJ (r3.fr f4 (by omega)) ?_;refine rd3 (K:=λu0 u1 u2 W'=>K _ _ _ _ _ _ _ _ _ _ _ u0 u1 u2 e W') r4 ?_;exact hK _ _ _ _ _ _ _ _ _ _ _ _ _ _ e w4 (((x2.trans hW).nw f3).nw f4) i0 i1 i2 i3 i4
 refine aan (hs.ext x2) hl λt i o l' p s' d' df mf op da hd e w3 m f3 aa hm hm8 ip is idd s0 _=> ?_;refine gy λg w4 r4 e4 z4 f4=> ?_;refine StN_f r4 λw5 r5 f5 z5=> ?_;have O:Ext w3 w5:=f4.nw f5;have g5:=f3.trans O;by_cases he:e=0;rotate_left
 ·have:(e !=0)=true:=by rw[alM];exact he
  rw[this,aaU];exact fin w5 0 0 0 0 0 0 0 false false ⟨none,0,0⟩ ⟨none,0,0⟩ 0 0 0 e (by decide) (by decide) (by decide) (by decide) (by decide) g5
 subst he;show cond false _ _;rw[aaT];refine Qj r5 ?_;have qp:∀{K2:Int->Int->Int->Int->b_},(∀x y z e W,Ext w5 W->In64 x->In64 y->In64 z->K2 x y z e W)->sH s0 t i o l' p s' d' df mf op da hd w5 K2:=by
  intro K2 hK2;have hd5:=aa.ext O;apply Hl;refine gy λa' w6 r6 e6 z6 f6=> ?_;refine gy λb' w7 r7 e7 z7 f7=> ?_;have u:=r6.ext f7;have R:=f6.trans f7;have zb:=f6.size;have fin2:∀(W:θ) (x y z e:Int),In64 x->In64 y->In64 z->Ext w7 W->h_ [Β x,Β y,Β z] W ⟨b',0,none⟩ 0 λw8=>Ld ν w8 (Addr.add ⟨b',0,none⟩ 0) λy0=>Ld ν w8 (Addr.add ⟨b',0,none⟩ 1) λy1=>Ld ν w8 (Addr.add ⟨b',0,none⟩ 2) λy2=>K2 y0 y1 y2 e w8:=by
   intro W x y z e i0 i1 i2 hW;refine gU (r7.ext hW) rfl rfl λw8 r8 f8' z8=> ?_;have f8:gV W w8 (·=b'):=f8' _ rfl;refine rd3 (K:=λu0 u1 u2 W'=>K2 u0 u1 u2 e W') r8 ?_;exact hK2 _ _ _ _ _ ((R.trans hW).new f8 λy hy e=>by omega) i0 i1 i2
  intro J;have hJ:∀W,Ext w7 W->J W:=λW hW=>by
   simp only[J];exact fin2 W 0 0 0 8 (by decide) (by decide) (by decide) hW
  clear_value J;have h7d:=hd5.ext R;refine ig (k:= .int .i64) (y:=p) (by rw[gJ,gJ,u.cell];rfl) ?_;have r67d:=u.drew;intro J2;have hJ2t:J2 true:=by
   simp only[J2,aaU];refine ig (k:= .int .i64) (y:=p) (by rw[gJ,gJ,r67d.cell];rfl) ?_;refine Qj r67d (Qj r67d ?_);refine cmS1 (OU _ _ _ _ _ _ _ _ _ _ _ _ (h7d.ext (Ext.drew w7)) hm 0) ?_;rintro n1 w8 ⟨in1,f8⟩;have r8:=r67d.ext f8;refine Et r8 ⟨by rw[gJ,gJ,r8.cell];rfl,?_⟩;refine cmS1 (OU _ _ _ _ _ _ _ _ _ _ _ _ ((h7d.ext (Ext.drew w7)).ext f8) hm 2) ?_;rintro n2 w9 ⟨in2,f9⟩;refine⟨by rw[gJ,gJ,(r8.ext f9).cell];rfl,?_⟩;exact fin2 w9 _ _ _ 0 ip in1 in2 (((Ext.drew w7).trans f8).trans f9)
  have hJ2f:J2 false:=by
   simp only[J2,aaT]
   cases (p==1)
   ·exact hJ w7 (Ext.refl _)
   rw[aaU];refine ig (k:= .slice) (y:=da) (by rw[gJ,gJ,u.cell];rfl) ?_;have b0:=ade (show 0<m.length by have:=hm8 rfl;omega);generalize m[0]=u0 at b0;refine six (i:=0) h7d b0 λa0 h0=> ?_;refine ig (k:= .int .u8) (y:=(u0.toNat:Int)) h0 ?_;refine cmS0 (aao _ _) ?_;rintro qr w8 f8
   cases qr
   ·exact hJ w8 f8
   rw[aaU];have r8:=(u.ext f8).drew;have h8:=(h7d.ext f8).ext (Ext.drew w8);refine Qj r8 (Qj r8 ?_);refine cmS1 (OU _ _ _ _ _ _ _ _ _ _ _ _ h8 hm 4) ?_;rintro n1 w9 ⟨in1,f9⟩;refine Et (r8.ext f9) ?_;refine cmS1 (OU _ _ _ _ _ _ _ _ _ _ _ _ (h8.ext f9) hm 4) ?_;rintro n2 N ⟨in2,f10⟩;exact fin2 N _ _ _ 0 (by decide) in1 in2 (((f8.trans (Ext.drew w8)).trans f9).trans f10)
  clear_value J2;have hJ2:∀q,J2 q:=λq=>by cases q;exact hJ2f;exact hJ2t
  cases (p==6)
  ·exact hJ2 _
  ·exact hJ2 _
 refine qp λx y z e2 w6 f6 ix iy iz=> ?_;have g6:=g5.trans f6;have ab:=r5.ext f6;refine gy λk w7 r7 e7 z7 f7=> ?_;refine StN_f r7 λw8 r8 f8 z8=> ?_;have U:Ext w6 w8:=f7.nw f8;have g8:=g6.trans U
 cases (e2 !=0)
 rotate_left
 ·exact fin w8 0 0 0 0 0 0 0 false false ⟨none,0,0⟩ ⟨none,0,0⟩ 0 0 0 e2 (by decide) (by decide) (by decide) (by decide) (by decide) g8
 rw[aaT];have ac:=(ab.ext U).drew;have r8d:=r8.drew;have g8d:=g8.trans (Ext.drew w8);have rdw:∀{Q:Int->Int->Int->Int->Int->Int->Int->Bool->Bool->fU->fU->Prop},Q t i o l' p s' d' df mf op da->iq w8.drew (Addr.add ⟨g,0,none⟩ 1) Q:=by
  intro Q hQ;rw[gJ];simp only[sx,ac.cell];exact hQ
 refine rdw ?_;refine Ld_i 0 x r8d (Ld_i 1 y r8d (Ld_i 2 z r8d ?_));have ha2:a<w2.heap.size:=I.lt;have hb2:b<w2.heap.size:=r2.lt;have z8:=(g6.trans (Ext.refl _)).size;refine StN_f (I.ext g8d) λw9 r9 f9 z9=> ?_;have r8e:=r8d.fr f9 (by omega);refine⟨by rw[gJ,r8e.cell];rfl,by rw[gJ,r8e.cell];rfl,by rw[gJ,r8e.cell];rfl,?_⟩;refine StN_f ((r2.ext g8d).fr f9 (by omega)) λN ae f10 z10=> ?_;refine kJ (r9.fr f10 (by omega)) ?_;refine rd3 (K:=λu0 u1 u2 W'=>K _ _ _ _ _ _ _ _ _ _ _ u0 u1 u2 0 W') ae ?_;exact hK _ _ _ _ _ _ _ _ _ _ _ _ _ _ 0 N (((x2.trans g8d).nw f9).nw f10) is ix iy idd iz
end
end Go.Proofs.AN
end
section
namespace Go.Proofs.AN
open Gp Gp.V4 Go.Proofs Go.Proofs.VN
open Gp.Bind (In64)
section
variable {w0 w w':θ}
abbrev shP:List Shape:=[.agg [ν,ν,ν]]
theorem ahr (v:Value) (w:θ) (K:Int->Int->Int->b_):LY υ (.iface 303 v) "goosepond/ports.ports" [] shP w K=fZ υ 351 [v] shP w K:=by kernel_rfl
theorem ahu (v:Value) (w:θ) (K:Int->Int->Int->b_):LY υ (.iface 309 v) "goosepond/ports.ports" [] shP w K=fZ υ 358 [v] shP w K:=by kernel_rfl
theorem ahs (v:Value) (w:θ) (K:Int->Int->Int->b_):LY υ (.iface 311 v) "goosepond/ports.ports" [] shP w K=fZ υ 366 [v] shP w K:=by kernel_rfl
def Pay (pr:Int) (q:Int->Int->Prop) (v:Value):Prop:=∀(w:θ) (K:Int->Int->Int->b_),(∀y z w',Ext w w'->mg y->mg z->q y z->K pr y z w')->LY υ v "goosepond/ports.ports" [] shP w K
theorem ahS (a0 a1:Int) (a2:Bool) (a3:fU) (i0:mg a0) (i1:mg a1):Pay 17 (λy z=>y=a0/\z=a1) (.iface 303 (.agg ⟨[Β a0,Β a1,.bool a2,Δ a3]⟩)):=by
 intro w K hK;rw[ahr];apply EL;refine gy λa w1 r1 e1 z1 f1=> ?_;refine gy λb w2 r2 e2 z2 f2=> ?_;have h:=r1.ext f2;have za:=f1.size;have zb:=f2.size;refine Ld_i 0 a0 h (Ld_i 1 a1 h ?_);refine StN_f r2 λw3 r3 f3 z3=> ?_;exact rd3 (K:=K) r3 (hK _ _ w3 ((f1.trans f2).nw f3) i0 i1 ⟨rfl,rfl⟩)
theorem ahU (a0 a1 a2 a3 a4 a5 a6 a7:Int) (a8 a9:fU) (i0:mg a0) (i1:mg a1):Pay 6 (λ_ _=>True) (.iface 309 (.agg ⟨lM a0 a1 a2 a3 a4 a5 a6 a7 a8 a9⟩)):=by
 intro w K hK;rw[ahu];apply Gu;refine gy λa w1 r1 e1 z1 f1=> ?_;refine gy λb w2 r2 e2 z2 f2=> ?_;have h:=r1.ext f2;have za:=f1.size;have zb:=f2.size;refine Ld_i 0 a0 h (Ld_i 1 a1 h ?_);refine StN_f r2 λw3 r3 f3 z3=> ?_;exact rd3 (K:=K) r3 (hK _ _ w3 ((f1.trans f2).nw f3) i0 i1 trivial)
theorem ahT (a0 a1 a2:Int) (a3:fU):Pay 1 (λ_ _=>True) (.iface 311 (.agg ⟨[Β a0,Β a1,Β a2,Δ a3]⟩)):=by
 intro w K hK;rw[ahs];apply Je;refine gy λa w1 r1 e1 z1 f1=> ?_;refine gy λb w2 r2 e2 z2 f2=> ?_;have h:=r1.ext f2;have za:=f1.size;have zb:=f2.size;refine X5 (K:=λx6 x7 x8 x9 W=>_) h ?_;apply abT;refine gy λc w3 r3 e3 z3 f3=> ?_;have zc:=f3.size;refine Ld_i 2 a2 r3 ⟨by omega,?_⟩;refine StN_f (r2.ext f3) λw4 r4 f4 z4=> ?_;exact rd3 (K:=K) r4 (hK _ _ w4 (((f1.trans f2).trans f3).nw f4) (aeZ _) (aeZ _) trivial)
def ug (p:lV):Prop:=p.proto=17/\p.check=0/\p.mf=false/\p.off<=0/\Xq p.src p.dst p.data
abbrev VL (w:θ) (s:fU):Prop:=∃L:List UInt8,iD w s L/\L.length<=2^40
theorem VL.ext {s:fU} (h:VL w s) (hf:Ext w w'):VL w' s:=by
 obtain⟨L,h1,h2⟩:=h;exact⟨L,h1.ext hf,h2⟩
inductive Form (w:θ) (p:lV) (v:Value):Prop
 |dat (a0 a1:Int) (a2:Bool) (a3:fU) (h:p.proto=17) (hv:v= .iface 303 (.agg ⟨[Β a0,Β a1,.bool a2,Δ a3]⟩)) (i0:mg a0) (i1:mg a1) (hb:VL w a3) (hg:ug p->a0=(wordAt p.data 0:Int)/\a1=(wordAt p.data 2:Int)/\a2=false/\iD w a3 (p.data.drop 8))
 |seg (a0 a1 a2 a3 a4 a5 a6 a7:Int) (a8 a9:fU) (h:p.proto=6) (hv:v= .iface 309 (.agg ⟨lM a0 a1 a2 a3 a4 a5 a6 a7 a8 a9⟩)) (i0:mg a0) (i1:mg a1) (hb8:VL w a8) (hb9:VL w a9)
 |que (a0 a1 a2:Int) (a3:fU) (h:p.proto=1) (hv:v= .iface 311 (.agg ⟨[Β a0,Β a1,Β a2,Δ a3]⟩)) (hb:VL w a3)
theorem Pay.mono {pr:Int} {q q':Int->Int->Prop} {v:Value} (h:Pay pr q v) (hq:∀y z,q y z->q' y z):Pay pr q' v:=λw K hK=>h w K λy z w' f i j k=>hK y z w' f i j (hq y z k)
theorem Form.pay {p:lV} {v:Value} (h:Form w p v):Pay p.proto (λy z=>ug p->y=(wordAt p.data 0:Int)/\z=(wordAt p.data 2:Int)) v:=by
 cases h with
 |dat a0 a1 a2 a3 h hv i0 i1 hb hg=>rw[h,hv];exact(ahS _ _ _ _ i0 i1).mono λy z hq g=>by obtain⟨g0,g1,_⟩:=hg g;exact⟨hq.1.trans g0,hq.2.trans g1⟩
 |seg a0 a1 a2 a3 a4 a5 a6 a7 a8 a9 h hv i0 i1 hb8 hb9=>rw[h,hv];exact(ahU _ _ _ _ _ _ _ _ _ _ i0 i1).mono λy z _ g=>by have:=g.1;omega
 |que a0 a1 a2 a3 h hv hb=>rw[h,hv];exact(ahT _ _ _ _).mono λy z _ g=>by have:=g.1;omega
theorem Form.pr {p:lV} {v:Value} (h:Form w p v):p.proto=1\/p.proto=6\/p.proto=17:=by
 cases h with
 |dat a0 a1 a2 a3 h=>exact .inr (.inr h)
 |seg a0 a1 a2 a3 a4 a5 a6 a7 a8 a9 h=>exact .inr (.inl h)
 |que a0 a1 a2 a3 h=>exact .inl h
theorem VE (x0 x1 x2 x3 x4 x5 x6:Int) (x7 x8:Bool) (x9 u:fU) (w:θ):F7 x0 x1 x2 x3 x4 x5 x6 x7 x8 x9 u w λr w'=>r=(!x8 && decide (x2<=0))/\Ext w w':=by
 apply aaf;refine gy λa w1 r1 e1 z1 f1=> ?_;intro J;have hJ:∀q,q=(!x8 && decide (x2<=0))->J q:=λq h=>⟨h,f1⟩;clear_value J;refine Ld_b 8 x8 r1 ?_
 cases x8
 ·exact Ld_i 2 x2 r1 (hJ _ (by simp))
 ·exact hJ _ rfl
theorem Nu (p:lV) {o d:fU} (ho:iD w o p.opts) (hd:iD w d p.data) (h1:p.opts.length<=2^40) (h2:p.data.length<=2^40) {K:Value->Int->b_}
  (hK:∀v e w',Ext w w'->(e=0->Form w' p v)->(ug p->e=0)->K v e w'):
  sG p.tos p.id p.off p.ttl p.proto p.src p.dst p.df p.mf o d w K:=by
 apply Rw;refine gy λa w1 r1 e1 z1 f1=> ?_;refine kJ r1 ?_;refine cmS1 (NR p (ho.ext f1).1 (hd.ext f1).1 (by omega) (by omega)) ?_;rintro ce w2 ⟨U,f2⟩;have x2:=f1.trans f2;by_cases hc:ce=0;rotate_left
 ·have:(ce !=0)=true:=by rw[alM];exact hc
  rw[this,aaU];exact hK _ ce w2 x2 (λh=>absurd h hc) λg=>by rw[U];exact g.2.1
 subst hc;show cond false _ _;rw[aaT];have O:=r1.ext f2;refine kJ O ?_;refine cmS0 (VE _ _ _ _ _ _ _ _ _ _ _ _) ?_;rintro wh w3 ⟨R,f3⟩;have x3:=x2.trans f3;have u:=O.ext f3
 cases wh
 ·exact hK _ 4 w3 x3 (λh=>by cases h) λg=>by obtain⟨_,_,g2,g3,_⟩:=g;rw[g2,aeJ g3] at R;cases R
 rw[adp,aaT];have hd3:=hd.ext x3;refine Ld_i 4 p.proto u ?_;by_cases I:p.proto=17
 ·have:(p.proto==17)=true:=by simpa using I
  rw[this,aaU];refine Ld_i 5 p.src u (Ld_i 6 p.dst u (Ld_s 10 d u ?_));refine aci _ _ hd3 h2 λu0 u1 u2 u3 e w4 f4 j0 j1 hb hG=> ?_;refine gy λb w5 r5 e5 z5 f5=> ?_;refine StN_f r5 λw6 r6 f6 z6=> ?_;have x6:Ext w4 w6:=f5.nw f6;refine Ld_i 0 u0 r6 (Ld_i 1 u1 r6 (Ld_b 2 u2 r6 (Ld_s 3 u3 r6 ?_)));exact hK _ e w6 ((x3.trans f4).trans x6) (λ_=> .dat _ _ _ _ I rfl j0 j1 (VL.ext hb x6) λg=>by obtain⟨_,g1,g2,g3,g4⟩:=hG g.2.2.2.2;exact⟨g1,g2,g3,g4.ext x6⟩) λg=>(hG g.2.2.2.2).1
 have:(p.proto==17)=false:=by simpa using I
 rw[this,aaT];by_cases p6:p.proto=6
 ·have:(p.proto==6)=true:=by simpa using p6
  rw[this,aaU];refine Ld_i 5 p.src u (Ld_i 6 p.dst u (Ld_s 10 d u ?_));refine acg _ _ hd3 h2 λu0 u1 u2 u3 u4 u5 u6 u7 u8 u9 e w4 f4 j0 j1 hb8 hb9=> ?_;refine gy λb w5 r5 e5 z5 f5=> ?_;refine StN_f r5 λw6 r6 f6 z6=> ?_;have x6:Ext w4 w6:=f5.nw f6;refine aaq r6 ?_;exact hK _ e w6 ((x3.trans f4).trans x6) (λ_=> .seg _ _ _ _ _ _ _ _ _ _ p6 rfl j0 j1 (VL.ext hb8 x6) (VL.ext hb9 x6)) λg=>absurd g.1 I
 have:(p.proto==6)=false:=by simpa using p6
 rw[this,aaT];by_cases p1:p.proto=1;rotate_left
 ·have:(p.proto==1)=false:=by simpa using p1
  rw[this,aaT];exact hK _ 8 w3 x3 (λh=>by cases h) λg=>absurd g.1 I
 have:(p.proto==1)=true:=by simpa using p1
 rw[this,aaU];refine Ld_s 10 d u ?_;refine Ui hd3 h2 λu0 u1 u2 u3 e w4 m f4 hm Y=> ?_;refine gy λb w5 r5 e5 z5 f5=> ?_;refine StN_f r5 λw6 r6 f6 z6=> ?_;have x6:Ext w4 w6:=f5.nw f6;have g6:=(x3.trans f4).trans x6;intro J;have hJ:∀e W,Ext w6 W->J e W:=λe W hW=>by
  simp only[J];refine X5 (K:=λZ aa ab N W'=>K (Value.iface 311 (Value.agg ⟨[Β Z,Β aa,Β ab,Δ N]⟩)) e W') (r6.ext hW) ?_;exact hK _ e W (g6.trans hW) (λ_=> .que _ _ _ _ p1 rfl ⟨m,(hm.ext x6).ext hW,Y⟩) λg=>absurd g.1 I
 clear_value J;intro J2;have hJ2:∀q W,Ext w6 W->J2 q W:=λq W hW=>by
  simp only[J2]
  cases q
  ·exact hJ _ W hW
  ·exact hJ _ W hW
 clear_value J2
 cases (e==0)
 ·exact hJ2 _ _ (Ext.refl _)
 ·rw[aaU];refine Ld_i 0 u0 r6 ?_;refine cmS0 (aao _ _) ?_;rintro qr w7 f7;exact hJ2 _ _ f7
theorem agm (p:lV) {o d:fU} (ho:iD w o p.opts) (hd:iD w d p.data) (h1:p.opts.length<=2^40) (h2:p.data.length<=2^40):
  FD p.tos p.id p.off p.ttl p.proto p.src p.dst p.df p.mf o d w λx y z e w'=>(mg y/\mg z/\(e=0->x=p.proto/\(p.proto=1\/p.proto=6\/p.proto=17))/\(ug p->e=0/\y=(wordAt p.data 0:Int)/\z=(wordAt p.data 2:Int)))/\Ext w w':=by
 apply ϴ;refine gy λa w1 r1 e1 z1 f1=> ?_;refine gy λb w2 r2 e2 z2 f2=> ?_;have x2:=f1.trans f2;have za:=f1.size;have zb:=f2.size;refine kJ (r1.ext f2) ?_;refine Nu p (ho.ext x2) (hd.ext x2) h1 h2 λv e w3 f3 hp hG=> ?_;have x3:=x2.trans f3;by_cases he:e=0;rotate_left
 ·have:(e !=0)=true:=by rw[alM];exact he
  rw[this,aaU];refine StN_f (r2.ext f3) λw4 r4 f4 z4=> ?_;exact rd3 (K:=λx y z W=>(mg y/\mg z/\(e=0->x=p.proto/\(p.proto=1\/p.proto=6\/p.proto=17))/\(ug p->e=0/\y=(wordAt p.data 0:Int)/\z=(wordAt p.data 2:Int)))/\Ext w W) r4 ⟨⟨by decide,by decide,λh=>absurd h he,λg=>absurd (hG g) he⟩,x3.nw f4⟩
 subst he;show cond false _ _;rw[aaT];refine(hp rfl).pay w3 _ λy z w4 f4 iy iz hq=> ?_;refine StN_f ((r2.ext f3).ext f4) λw5 r5 f5 z5=> ?_;exact rd3 (K:=λx y z W=>(mg y/\mg z/\((0:Int)=0->x=p.proto/\(p.proto=1\/p.proto=6\/p.proto=17))/\(ug p->(0:Int)=0/\y=(wordAt p.data 0:Int)/\z=(wordAt p.data 2:Int)))/\Ext w W) r5 ⟨⟨iy,iz,λ_=>⟨rfl,(hp rfl).pr⟩,λg=>⟨rfl,hq g⟩⟩,(x3.trans f4).nw f5⟩
end
end Go.Proofs.AN
end
section
namespace Go.Proofs.AN
open Gp Gp.V4 Go.Proofs Go.Proofs.VN
open Gp.Bind (In64)
section
variable {w0 w w':θ}
theorem XU (p:lV) {o d:fU} (ho:iD w o p.opts) (hd:iD w d p.data) (h1:p.opts.length<=2^40) (h2:p.data.length<=2^40):
  Ae p.tos p.id p.off p.ttl p.proto p.src p.dst p.df p.mf o d w λr w'=>r=(decide (p.check=0) && (!p.mf && decide (p.off<=0)))/\Ext w w':=by
 apply Wy;refine gy λa w1 r1 e1 z1 f1=> ?_;intro J;refine kJ r1 ?_;refine cmS1 (NR p (ho.ext f1).1 (hd.ext f1).1 (by omega) (by omega)) ?_;rintro ce w2 ⟨h,f2⟩;subst h;by_cases hc:p.check=0;rotate_left
 ·have:(p.check==0)=false:=by simp_all
  rw[this,aaT];exact⟨by simp[hc],f1.trans f2⟩
 ·have:(p.check==0)=true:=by simp_all
  rw[this,aaU];refine kJ (r1.ext f2) ?_;refine cmS0 (VE _ _ _ _ _ _ _ _ _ _ _ _) ?_;rintro wh w3 ⟨rfl,f3⟩;exact⟨by simp[hc],(f1.trans f2).trans f3⟩
theorem J3 (a b:Int) (q:Bool) (w:θ):lF a b q w λ_ w'=>Ext w w':=by
 apply Qc;refine gy λp w1 r1 e1 z1 f1=> ?_
 cases q
 ·exact gZ r1 rfl f1
 ·exact gZ r1 rfl f1
theorem agf (s:Int) (q:Bool) (w:θ):D_ s q w λ_ w'=>Ext w w':=by
 apply U_;intro J;have hJ:∀b,J b:=by
  intro b;simp only[J]
  cases b
  ·rw[aaT]
   cases (s==1)
   ·rw[aaT]
    cases (s==2)
    ·exact Ext.refl _
    ·exact cmS1 (J3 _ _ _ _) λ_ _ h=>h
   ·exact cmS1 (J3 _ _ _ _) λ_ _ h=>h
  ·exact cmS1 (J3 _ _ _ _) λ_ _ h=>h
 clear_value J
 cases (s==0)
 ·exact hJ _
 ·exact hJ _
theorem adL (s:Int) (q:Bool) (w:θ):BI s q w λ_ w'=>Ext w w':=by
 apply RG
 cases (s==3)
 ·rw[aaT]
  cases (s==4)
  ·rw[aaT]
   cases (s==5)
   ·exact Ext.refl _
   ·exact cmS1 (J3 _ _ _ _) λ_ _ h=>h
  ·exact cmS1 (J3 _ _ _ _) λ_ _ h=>h
 ·exact cmS1 (J3 _ _ _ _) λ_ _ h=>h
theorem ahH (s:Int) (q:Bool) (fl:Int) (w:θ):FW s q fl w λ_ _ w'=>Ext w w':=by
 apply Xb;intro J;have hJ:∀b,J b:=by
  intro b;simp -zeta only[J]
  cases b
  rotate_left
  ·exact Ext.refl _
  rw[aaT];intro J6;have h6:∀b W,Ext w W->J6 b W:=by
   intro b W hx;simp -zeta only[J6]
   cases b
   rotate_left
   ·exact hx
   rw[aaT]
   cases ((lu .i64 fl 4) !=0)
   rotate_left
   ·exact hx
   rw[aaT];intro J9;have h9:∀W,Ext w W->J9 W:=by
    intro W hx;simp only[J9]
    cases ((lu .i64 fl 1) !=0)
    ·exact hx
    ·exact cmS1 (adL _ _ _) λ_ _ h=>hx.trans h
   clear_value J9;apply GU
   cases ((lu .i64 fl 6)==2)
   ·exact h9 W hx
   ·rw[aaU];refine cmS1 (agf _ _ _) ?_;intro r W2 h2
    cases (r !=s)
    ·exact h9 W2 (hx.trans h2)
    ·exact hx.trans h2
  clear_value J6
  cases (s==0)
  ·exact h6 _ _ (Ext.refl _)
  ·rw[aaU];apply GU;exact h6 _ _ (Ext.refl _)
 clear_value J
 cases (decide (s<0))
 ·exact hJ _
 ·exact hJ _
theorem agQ {t:TypeId} {v:Value} {Kt:Value->Prop} {Kf:Prop} (h:Kt v):AsT t (.iface t v) Kt Kf:=by
 show cond (Nat.beq t t) (Kt v) Kf;have:=Nat.beq_refl t;rw[this];exact h
theorem afy (p:lV) {o d:fU} (ho:iD w o p.opts) (hd:iD w d p.data) (h1:p.opts.length<=2^40) (h2:p.data.length<=2^40):
  DW p.tos p.id p.off p.ttl p.proto p.src p.dst p.df p.mf o d w λ_ w'=>Ext w w':=by
 apply UQ;refine gy λa w1 r1 e1 z1 f1=> ?_;refine kJ r1 ?_;refine Nu p (ho.ext f1) (hd.ext f1) h1 h2 λv e w3 f3 hp _=> ?_;have x3:=f1.trans f3;by_cases he:e=0;rotate_left
 ·have:(e !=0)=true:=by simp_all
  rw[this,aaU];exact x3
 subst he;show cond false _ _;rw[aaT];have out:∀(W:θ),Ext w W->Al W (.cells ⟨lM 0 0 0 0 0 0 0 0 ⟨none,0,0⟩ ⟨none,0,0⟩⟩ 309) λa24 u=>h_ (lM 0 0 0 0 0 0 0 0 ⟨none,0,0⟩ ⟨none,0,0⟩) u a24 0 λI=>Ext w I:=by
  intro W hx;refine gy λb w4 r4 e4 z4 f4=> ?_;refine gU r4 rfl rfl λw5 r5 f5 z5=> ?_;have:=hx.size;exact(hx.trans f4).new (f5 (·=b) rfl) λy hy e=>by omega
 cases hp rfl with
 |dat a0 a1 a2 a3 h hv=>
  subst hv;exact out w3 x3
 |que a0 a1 a2 a3 h hv=>
  subst hv;exact out w3 x3
 |seg a0 a1 a2 a3 a4 a5 a6 a7 a8 a9 h hv=>
  subst hv;refine agQ ?_;refine gy λb w4 r4 e4 z4 f4=> ?_;show h_ (lM a0 a1 a2 a3 a4 a5 a6 a7 a8 a9) w4 _ 0 _;refine gU r4 rfl rfl λw5 r5 f5 z5=> ?_;have:=x3.size;exact gZ r5 rfl ((x3.trans f4).new (f5 (·=b) rfl) λy hy e=>by omega)
theorem step_ok (b0:Int) (b1:Bool) (b2:Int) (b3:Bool) (b4 b5 b6:Int) (p:lV) {o d:fU} (ho:iD w o p.opts) (hd:iD w d p.data) (h1:p.opts.length<=2^40) (h2:p.data.length<=2^40) (q:Bool):
  C_ b0 b1 b2 b3 b4 b5 b6 p.tos p.id p.off p.ttl p.proto p.src p.dst p.df p.mf o d q w λnx ok w'=>(p.proto≠6->nx=0/\ok=true)/\Ext w w':=by
 apply Zc;refine gy λa w1 r1 e1 z1 f1=> ?_;refine gy λb w2 r2 e2 z2 f2=> ?_;have x2:=f1.trans f2;refine gZ r2 rfl ?_;by_cases h6:p.proto=6;rotate_left
 ·have:(p.proto !=6)=true:=by simp_all
  rw[this,aaU]
  grind
 have:(p.proto !=6)=false:=by simp[h6]
 rw[this,aaT];have xd:=x2.trans (Ext.drew w2);have r1d:=(r1.ext f2).drew;refine gZ r1d rfl ?_;refine kJ r2.drew ?_;refine cmS1 (afy p (ho.ext xd) (hd.ext xd) h1 h2) ?_;intro fl w3 f3;refine⟨by rw[gJ,(r1d.ext f3).cell];rfl,?_⟩;refine cmS3 (ahH _ _ _ _) ?_;intro nx ok w4 f4;exact⟨λh=>absurd h6 h,(xd.trans f3).trans f4⟩
theorem aa8 (p:lV) {o d:fU} (hd:iD w d p.data) (h2:p.data.length<=2^40):
  Bo p.tos p.id p.off p.ttl p.proto p.src p.dst p.df p.mf o d w λr w'=>(p.proto≠1->r=false)/\Ext w w':=by
 apply Rt;refine gy λa w1 r1 e1 z1 f1=> ?_;intro J;have hJ:∀q,(p.proto≠1->q=false)->J q:=λq h=>⟨h,f1⟩;clear_value J;refine gZ r1 rfl ?_;by_cases hp:p.proto=1;rotate_left
 ·have:(p.proto==1)=false:=by simp_all
  rw[this,aaT];exact hJ _ λ_=>rfl
 have:(p.proto==1)=true:=by simp_all
 rw[this,aaU];refine gZ r1 rfl ?_;by_cases hl:(d.len:Int)>0;rotate_left
 ·rw[adn hl,aaT];exact hJ _ λ_=>rfl
 rw[aeJ hl,aaU];refine gZ r1 rfl ?_;have hd1:=hd.ext f1;have hlen:=hd1.1;refine six hd1 (ade (show 0<p.data.length by omega)) λad hc=> ?_;exact ig hc (hJ _ λh=>absurd hp h)
end
end Go.Proofs.AN
end
section
namespace Go.Proofs.EN
open Gp Gp.V4 Go.Proofs Go.Proofs.AN Go.Proofs.VN
open Gp.Bind (Bnd Slots live GoodB freeN getS In64)
open Gp.Ses (Ses)
variable {w w':θ} {a:EA} {c:Cf} {e:ES}
structure Flow (c:Cf) (e e':ES) (sw pr ad po ra rp bd sid:Int) (kn:Bool):Prop where
 bnd:∃(j:Nat) (b:Bnd),bd=(j:Int)/\e'.S[j]? =some (some b)/\b.sw=sw/\b.pr=pr/\b.ad=ad/\b.po=po
 ses:(kn=true/\∃(k:Nat) (s0:Ses),sid=(k:Int)/\e'.SS[k]? =some (some s0)/\s0.bd=bd/\s0.ra=ra/\s0.rp=rp)\/
  (kn=false/\e'.M (Bind.keyS [bd,ra,rp])=none/\((Gp.Ses.live 0 e'.SS).length:Int)<c.ns)
 was:(e'=e/\e.Mi (Bind.keyS [sw,pr,ad,po])=some bd)\/(e.Mi (Bind.keyS [sw,pr,ad,po])=none/\kn=false/\∃(i:Nat) (o:PN.O3) (Mi Mo:ByteArray->Option Int),bd=(i:Int)/\freeN e.S=some i/\PN.DF pr po sw c.lo c.hi c.pl e.G=some o/\
   e'={e with S:=e.S.set i (some ⟨sw,pr,ad,po,o.1,o.2.1,o.2.2,false⟩),Mi:=Mi,Mo:=Mo,Q:=e.Q.set sw.toNat (QN.at_ e.Q sw+1),G:=Cm e.G o ()})
def ND (e:ES) (sw pr ad po ra rp:Int):Prop:=∀bd sid,e.Mi (Bind.keyS [sw,pr,ad,po])=some bd->e.M (Bind.keyS [bd,ra,rp])≠some sid
theorem afV (h:lH w a c e) {x y z v:Int} (hx:∀n∈[x,y,z],In64 n) (hM:e.M (Bind.keyS [x,y,z])=some v):∃(k:Nat) (s:Ses),v=(k:Int)/\e.SS[k]? =some (some s)/\s.bd=x/\s.ra=y/\s.rp=z:=by
 obtain⟨k,s,h1,h2,h3⟩:=(h.se.good.k _ _).1 hM;have:=Gp.Bind.keyS_inj (by simp[Ses.k]) (h.se.good.ok k s h1) hx h2;simp only[Ses.k,alP,alO] at this
 grind
theorem afW (h:lH w a c e) {x y z u v:Int} (hx:∀n∈[x,y,z,u],In64 n) (hM:e.Mi (Bind.keyS [x,y,z,u])=some v):∃(j:Nat) (b:Bnd),v=(j:Int)/\e.S[j]? =some (some b)/\b.sw=x/\b.pr=y/\b.ad=z/\b.po=u:=by
 obtain⟨j,b,h1,h2,h3⟩:=(h.db.good.i _ _).1 hM;have:=Gp.Bind.keyS_inj (by simp[Bnd.i]) (h.db.good.ok j b h1).1 hx h2;simp only[Bnd.i,alP,alO] at this
 grind
theorem ahI {φ:Value->Prop} (h:φ (.bool false)):GN υ .neq 117 .nilIface .nilIface φ:=by
 have e:GN υ .neq 117 .nilIface .nilIface φ=φ (.bool false):=by kernel_rfl
 rw[e];exact h
theorem afo {d:Int} {φ:Value->Prop} (h:φ (.bool true)):GN υ .neq 117 (Qw d) .nilIface φ:=by
 have e:GN υ .neq 117 (Qw d) .nilIface φ=φ (.bool true):=by kernel_rfl
 rw[e];exact h
theorem ag_ {d:Int} {A B:Prop} (h:A):GN υ .neq 117 (Qw d) .nilIface λv=>IfB v λb=>cond b A B:=afo (φ:=λv=>IfB v λb=>cond b A B) h
theorem aju {A B:Prop} (h:B):GN υ .neq 117 .nilIface .nilIface λv=>IfB v λb=>cond b A B:=ahI (φ:=λv=>IfB v λb=>cond b A B) h
abbrev QA (x0:Int) (x1:Bool) (x2:Int) (x3:Bool) (x4 x5 x6:Int):List Value:=[Β x0,.bool x1,Β x2,.bool x3,Β x4,Β x5,Β x6]
theorem rd7 {W:θ} {b:Nat} {x0 x2 x4 x5 x6:Int} {x1 x3:Bool} {Q:Int->Bool->Int->Bool->Int->Int->Int->Prop} (hr:Row W b (QA x0 x1 x2 x3 x4 x5 x6)) (hq:Q x0 x1 x2 x3 x4 x5 x6):
  Ld ν W (Addr.add ⟨b,0,none⟩ 0) λy0=>Ld .bool W (Addr.add ⟨b,0,none⟩ 1) λy1=>Ld ν W (Addr.add ⟨b,0,none⟩ 2) λy2=>Ld .bool W (Addr.add ⟨b,0,none⟩ 3) λy3=>Ld ν W (Addr.add ⟨b,0,none⟩ 4) λy4=>Ld ν W (Addr.add ⟨b,0,none⟩ 5) λy5=>Ld ν W (Addr.add ⟨b,0,none⟩ 6) λy6=>Q y0 y1 y2 y3 y4 y5 y6:=by
 simp only[sx,hr.cell];exact hq
theorem Ρ (h:lH w a c e) (hg:Gd c e) (hm:CfM c) {sw pr ad po ra rp:Int} (p:lV) {o d:fU} (ho:iD w o p.opts) (hd:iD w d p.data) (h1:p.opts.length<=2^40) (h2:p.data.length<=2^40)
  (aC:Uh c sw) (hp:pr=1\/pr=6\/pr=17) (aJ:0<=ad/\ad<=4294967295) (aK:0<=po/\po<=65535) (aD:In64 ra) (aE:In64 rp)
  {K:Int->Bool->Int->Bool->Int->Int->Int->Value->b_}
  (hD:∀d w',(Full c e sw pr po d\/(p.proto=6/\d=8)\/(p.proto=1/\d=9))->(p.proto=6\/ND e sw pr ad po ra rp)->Ext w w'->K 0 false 0 false 0 0 0 (Qw d) w')
  (hK:∀w' a' e' bd sid kn nx,gV w w' (iZ a)->lH w' a' c e'->Gd c e'->Grow a a' w.heap.size->a'.x=a.x->Flow c e e' sw pr ad po ra rp bd sid kn->(p.proto≠6->nx=0)->K bd true sid kn nx ra rp .nilIface w'):
  jT (some ⟨a.x,0,none⟩) sw pr ad po ra rp p.tos p.id p.off p.ttl p.proto p.src p.dst p.df p.mf o d w K:=by
 have hsl:=h.cf.sw;have i4:∀n∈[sw,pr,ad,po],In64 n:=by
  intro n hn;simp only[agN,ajH,akL] at hn;obtain⟨s0,s1⟩:=aC;unfold In64;rcases hn with rfl|rfl|rfl|rfl<;>omega
 apply I_;refine gy λb6 w1 r6 e6 z6 f6=> ?_;refine gy λb8 w2 r8 e8 z8 f8=> ?_;refine gy λb10 w3 I e10 z10 f10=> ?_;refine gy λR w4 J e12 z12 f12=> ?_;have r6:=((r6.ext f8).ext f10).ext f12;have r8:=(r8.ext f10).ext f12;have I:=I.ext f12;have x4:=((f6.trans f8).trans f10).trans f12;have s6:=f6.size;have s8:=f8.size;have s10:=f10.size;have s12:=f12.size;refine Ld_i 0 ra r8 (Ld_i 1 rp r8 ?_);refine gy λO w5 u e16 z16 f16=> ?_;have r6:=r6.ext f16;have I:=I.ext f16;have J:=J.ext f16;refine gU u rfl rfl λw6 u g16 y16=> ?_;have g16:gV w5 w6 (·=O):=g16 _ rfl;have x6:Ext w w6:=(x4.trans f16).nw g16;have r6:=(r6.fr g16 (by omega)).drew;have I:=(I.fr g16 (by omega)).drew;have J:=(J.fr g16 (by omega)).drew;have u:=u.drew;have x6:=x6.trans (Ext.drew w6);have h6:=h.ext x6;have zw:w.heap.size<=b6:=by omega
 refine jM.2 (ig (k:= .ptr) (y:=some ⟨a.B.d,0,none⟩) (by rw[gJ];exact h6.c2) ?_);refine Ld_i 0 sw r6 (Ld_i 1 pr r6 (Ld_i 2 ad r6 (Ld_i 3 po r6 ?_)));refine cmS3 (Ir h6.db sw pr ad po i4) ?_;rintro n1 t1 w7 ⟨rfl,rfl,f7⟩;have r6:=r6.ext f7;have I:=I.ext f7;have J:=J.ext f7;have u:=u.ext f7;refine gY (i:=0) u rfl (by simp) λw8 u g8 y8=> ?_;refine gY (i:=1) u rfl (by simp) λw9 u g9 y9=> ?_;simp only[agO,af7] at u;have ah:gV w7 w9 (·=O):=(g8 (·=O) rfl).trans (g9 (·=O) rfl) λ_ _ q=>q;have x9:Ext w w9:=(x6.trans f7).nw ah;have r6:=r6.fr ah (by omega);have I:=I.fr ah (by omega);have J:=J.fr ah (by omega);have h9:=h.ext x9;generalize ab:e.Mi (Bind.keyS [sw,pr,ad,po])=mi at u ⊢;have aL:mi.isSome=true->∃(j:Nat) (b:Bnd),mi.getD 0=(j:Int)/\e.S[j]? =some (some b)/\b.sw=sw/\b.pr=pr/\b.ad=ad/\b.po=po:=by
  intro hs;obtain⟨v,rfl⟩:=amD.1 hs;exact afW h i4 ab
 have ibd:In64 (mi.getD 0):=by
  cases hq:mi with
  |none=>decide
  |some v=>
   obtain⟨j,b,g1,g2,_⟩:=aL (by rw[hq];rfl);rw[hq] at g1;have:=(aeK.1 g2).1;have:=h.db.len;have:=h.cf.b1;rw[g1];unfold In64;omega
 have i3:∀n∈[mi.getD 0,ra,rp],In64 n:=by
  intro n hn;simp only[agN,ajH,akL] at hn;rcases hn with rfl|rfl|rfl
  ·exact ibd
  ·exact aD
  ·exact aE
 refine rd7 u ?_;refine find_ok h9 _ _ ra rp i3 λaM U=> ?_;have u:=u.ext U;refine gU u rfl rfl λaF u g11 y11=> ?_;have g11:gV aM aF (·=O):=g11 _ rfl;have ai:Ext w aF:=(x9.trans U).nw g11;have r6:=(r6.ext U).fr g11 (by omega);have I:=(I.ext U).fr g11 (by omega);have J:=(J.ext U).fr g11 (by omega);have h11:=h.ext ai;generalize ac:Vq e mi.isSome (mi.getD 0) ra rp=so at u ⊢;generalize ah8 e so=st at u ⊢;refine rd7 u ?_;refine kJ I ?_;refine cmS3 (step_ok _ _ _ _ _ _ _ p (ho.ext ai) (hd.ext ai) h1 h2 true) ?_;rintro nx ok aa ⟨aN,Y⟩;have aj:=ai.trans Y;have r6:=r6.ext Y;have I:=I.ext Y;have J:=J.ext Y;have u:=u.ext Y;have N:∀(dd:Int) (W:θ),(Full c e sw pr po dd\/(p.proto=6/\dd=8)\/(p.proto=1/\dd=9))->(p.proto=6\/so=none)->Ext aa W->h_ (QA 0 false 0 false 0 0 0) W ⟨R,0,none⟩ 0 λZ=>Ld ν Z (Addr.add ⟨R,0,none⟩ 0) λaO=>Ld .bool Z (Addr.add ⟨R,0,none⟩ 1) λaP=>Ld ν Z (Addr.add ⟨R,0,none⟩ 2) λaQ=>Ld .bool Z (Addr.add ⟨R,0,none⟩ 3) λaR=>Ld ν Z (Addr.add ⟨R,0,none⟩ 4) λaS=>Ld ν Z (Addr.add ⟨R,0,none⟩ 5) λaT=>Ld ν Z (Addr.add ⟨R,0,none⟩ 6) λaU=>K aO aP aQ aR aS aT aU (Qw dd) Z:=by
  intro dd W am an hx;have an:p.proto=6\/ND e sw pr ad po ra rp:=an.imp id λhn bd sid q1 q2=>by
   rw[ab] at q1;subst q1;rw[hn] at ac;have ac:e.M (Bind.keyS [bd,ra,rp])=none:=ac
   simp_all
  refine gU (J.ext hx) rfl rfl λZ aV aW y66=> ?_;refine rd7 (Q:=λy0 y1 y2 y3 y4 y5 y6=>K y0 y1 y2 y3 y4 y5 y6 (Qw dd) Z) aV ?_;exact hD dd Z am an ((aj.trans hx).new (aW (·=R) rfl) λy hy he=>by omega)
 cases ok
 ·rw[afa,aaU];have p6:p.proto=6:=alL λhh=>by simp_all
  exact N 8 aa (.inr (.inl ⟨p6,rfl⟩)) (.inl p6) (Ext.refl _)
 rw[adp,aaT];intro ao;have hJ74:∀q W,Ext aa W->(q=true->p.proto=1/\so=none)->ao q W:=by
  intro q W hx hq;simp -zeta only[ao]
  cases q
  rotate_left
  ·exact N 9 W (.inr (.inr ⟨(hq rfl).1,rfl⟩)) (.inr (hq rfl).2) hx
  rw[aaT];intro aq;have hJ85:∀q W,Ext aa W->(q=false->so.isSome=true\/((Gp.Ses.live 0 e.SS).length:Int)<c.ns)->(q=true->so=none/\c.ns<=((Gp.Ses.live 0 e.SS).length:Int))->aq q W:=by
   intro q W hx hq hq';simp -zeta only[aq]
   cases q
   rotate_left
   ·exact N 6 W (.inl (.inr (.inl ⟨rfl,.inr (hq' rfl).2⟩))) (.inr (hq' rfl).1) hx
   have hq:=hq rfl;rw[aaT];intro ar;have r6W:=r6.ext hx;have r12W:=J.ext hx;have r16W:=u.ext hx;have xW:=aj.trans hx;have hW:=h.ext xW;have hJ96:∀(W':θ) (a':EA) (e':ES) (bd sid:Int) (kn:Bool),gV w W' (iZ a)->aa.heap.size<=W'.heap.size->lH W' a' c e'->Gd c e'->Grow a a' W.heap.size->a'.x=a.x->Flow c e e' sw pr ad po ra rp bd sid kn->Row W' O (QA bd true sid kn st ra rp)->Row W' R (QA 0 false 0 false 0 0 0)->ar W':=by
    intro W' a' e' bd sid kn hf hz hE hG ae au aX hr hr2;simp -zeta only[ar];have hn:∀b,iZ a' b->b≠O/\b≠R:=by
     intro b hb;have l1:=r16W.lt;have l2:=r12W.lt;rcases ae b hb with ⟨k,hk⟩|hge
     ·have:=h.lt k b hk;omega
     ·omega
    refine gY (i:=4) hr rfl (by simp) λaY aG aZ y98=> ?_;simp only[agO,af7] at aG;have av:gV W' aY (·=O):=aZ _ rfl;refine rd7 aG ?_;refine StN_f (hr2.fr av (by omega)) λaw a6 aH y99=> ?_;refine rd7 (Q:=λy0 y1 y2 y3 y4 y5 y6=>K y0 y1 y2 y3 y4 y5 y6 .nilIface aw) a6 ?_;have hE2:=(hE.fr av λk b hb he=>(hn b ⟨k,hb⟩).1 he).fr aH λk b hb he=>(hn b ⟨k,hb⟩).2 he;have a7:gV w aw (iZ a):=(hf.trans av λy hy he=>by omega).trans aH λy hy he=>by omega
    refine hK aw a' e' bd sid kn nx a7 hE2 hG (λb hb=> ?_) au aX (λhh=>(aN hh).1);rcases ae b hb with hb|hb
    ·exact .inl hb
    ·exact .inr (by have:=xW.size;omega)
   clear_value ar;refine Ld_b 1 mi.isSome r16W ?_
   cases hb:mi.isSome
   ·
    rw[afa,aaU];refine Ld_i 0 sw r6W (Ld_i 1 pr r6W (Ld_i 2 ad r6W (Ld_i 3 po r6W ?_)));have a8:mi=none:=by simp_all
    have ax:so=none:=by rw[<- ac,hb];rfl
    have af:e.Mi (Bind.keyS [sw,pr,ad,po])=none:=by rw[ab,a8]
    refine af8 hW hg hm aC hp aJ aK af ?_ ?_
    ·intro dd w' am hx';refine ag_ ?_;exact N dd w' (.inl am) (.inr ax) (hx.trans hx')
    ·intro w' a' i oo Mi Mo hf ay ba hq2 hE hG ae au;refine aju ?_;have aI:∀b,iZ a b->b≠O/\b≠R:=by
      rintro b ⟨k,hk⟩;have:=h.lt k b hk;omega
     have az:=r16W.fr hf (λhb=>(aI _ hb).1 rfl);have aA:=r12W.fr hf (λhb=>(aI _ hb).2 rfl);refine gY (i:=0) az rfl (by simp) λw132 r132 g132 y132=> ?_;refine gY (i:=1) r132 rfl (by simp) λw133 r133 g133 y133=> ?_;simp only[agO,af7] at r133;have ak:gV w' w133 (·=O):=(g132 (·=O) rfl).trans (g133 (·=O) rfl) λ_ _ q=>q;have aB:∀b,iZ a' b->b≠O:=by
      intro b hb;have l1:=r16W.lt;rcases ae b hb with hb|hb
      ·simp_all
      ·omega
     have hE2:=hE.fr ak λk b hb he=>aB b ⟨k,hb⟩ he;have hzf:=hf.size;have hzq:=ak.size;have hzx:=hx.size;refine hJ96 w133 a' _ (i:Int) (so.getD 0) so.isSome ((xW.fr hf).trans ak λy hy he=>by omega) (by omega) hE2 hG ae au ?_ r133 (aA.fr ak (by omega));have bb:=(Gp.Bind.jm 0 ay).1;refine⟨⟨i,_,rfl,by rw[akJ,aeH rfl,aeH bb],rfl,rfl,rfl,rfl⟩,.inr ⟨by simp_all,?_,?_⟩,.inr ⟨af,by simp_all,i,oo,Mi,Mo,rfl,ay,ba,rfl⟩⟩
     ·show e.M (Bind.keyS [(i:Int),ra,rp])=none
      cases bc:e.M (Bind.keyS [(i:Int),ra,rp]) with
      |none=>rfl
      |some v=>
       exfalso;have hlen:=h.db.len;have hb1:=h.cf.b1;obtain⟨k,s,_,g2,g3,_⟩:=afV h (by
        intro n hn;simp only[agN,ajH,akL] at hn;rcases hn with rfl|rfl|rfl
        ·unfold In64;omega
        ·exact aD
        ·exact aE) bc
       obtain⟨j,b,g4,g5⟩:=hg.sb k s g2;have:j=i:=by omega
       subst this;rw[(Gp.Bind.jm 0 ay).2.1] at g5
       cases g5
     simp_all
   ·rw[adp,aaT];obtain⟨v,rfl⟩:=amD.1 hb;have ag:e.M (Bind.keyS [v,ra,rp])=so:=by trivial
    refine hJ96 W a e v (so.getD 0) so.isSome (xW _) hx.size hW hg (Grow.refl _ _) rfl ?_ r16W r12W;refine⟨afW h i4 ab,?_,.inl ⟨rfl,ab⟩⟩
    cases hs:so with
    |none=>
     simp_all
    |some v2=>
     rw[hs] at ag;obtain⟨k,s,g1,g2,g3,g4,g5⟩:=afV h i3 ag
     grind
  clear_value aq;have r16W:=u.ext hx;refine Ld_b 3 so.isSome r16W ?_
  cases hs:so.isSome
  ·rw[afa,aaU];refine cmS0 (TN (h.ext (aj.trans hx))) ?_;rintro r W2 ⟨rfl,f2⟩;exact hJ85 _ W2 (hx.trans f2) (λhq=> .inr (by simp_all)) λhq=>⟨Option.not_isSome_iff_eq_none.1 (by simp_all),by simp_all⟩
  ·rw[adp,aaT];exact hJ85 _ W hx (λ_=> .inl hs) λhq=>by cases hq
 clear_value ao;refine Ld_b 1 mi.isSome u ?_
 cases hb:mi.isSome
 ·rw[afa,aaU];refine kJ I ?_;refine cmS0 (aa8 p (hd.ext aj) h2) ?_;rintro r W2 ⟨hr,f2⟩;exact hJ74 r W2 f2 λhq=>⟨alL λhh=>by simp_all,ac.symm.trans (by rw[hb];rfl)⟩
 ·rw[adp,aaT];exact hJ74 false aa (Ext.refl _) λhq=>by cases hq
end Go.Proofs.EN
end
section
namespace Go.Proofs.AS
open Go.RowKit Go.Extern.Stop Go.Stop Go.Extern
theorem as_nil (t:Value) (w:θ):
  Calls Tryz.prog 46 #[.nilIface,t] w λe w'=>e= .returned (.bool false)/\w'=w:=by
 go_enter Tryz.func46,Tryz.ntmps46
 go_wp2
 go_ret
 exact⟨rfl,rfl⟩
theorem Yk (t:Addr) (w:θ):(ReflectliteValue.unpack (.iface 123 (.pointer (some t)))).run υ w
  = .ok (.agg #[.pointer (some ⟨1,123,none⟩),.pointer (some ⟨w.heap.size,0,none⟩),.int .u64 150]) (w.alloc (.cells #[.pointer (some t)] 123)):=by kernel_rfl
theorem adu (a:Addr) (w:θ):(ReflectliteValue.methodAny (ReflectliteValue.valueError "reflectlite.Value.Type" 0) (λt _ _ _=>ReflectliteType.toType t) #[.agg #[.pointer (some ⟨1,123,none⟩),.pointer (some a),.int .u64 150]]).run υ w
  = .ok (.iface 316 (.agg #[.pointer (some ⟨1,123,none⟩)])) w:=by kernel_rfl
theorem VQ (h:Value) (w:θ):(Go.method 575 316 (.agg #[h]) "Kind").run υ w= .ok (340,h) w:=by kernel_rfl
theorem adt (w:θ):((ReflectliteType.abiMethod λt=>(λa:Nat=>Value.int IntKind.u8 (a:Int))<$>Rtype.kind t) #[.pointer (some ⟨1,123,none⟩)]).run υ w= .ok (.int .u8 22) w:=by kernel_rfl
theorem ads (w:θ):((ReflectliteType.abiMethod λt=>(λa:Nat=>Value.int IntKind.u8 (a:Int))<$>Rtype.kind t) #[.pointer (some ⟨1,121,none⟩)]).run υ w= .ok (.int .u8 2) w:=by kernel_rfl
theorem rlm (z:Sem Value) (f:TypeId->Addr->Nat->Nat->Sem Value) (v:Value):
  ReflectliteValue.method z f #[v]=(do match<- ReflectliteValue.parts v with|none=>z|some (t,a,fl)=>f t a fl (fl % 32)):=rfl
theorem Tt (a:Addr) (w:θ):(ReflectliteValue.parts (.agg #[.pointer (some ⟨1,123,none⟩),.pointer (some a),.int .u64 150])).run υ w= .ok (some (123,a,150)) w:=by kernel_rfl
theorem abd (a p:Addr) (W:θ) (ha:W.cell? a=some (.pointer (some p))):
  (ReflectliteValue.method (ReflectliteValue.valueError "reflectlite.Value.IsNil" 0) ReflectliteValue.isNil #[.agg #[.pointer (some ⟨1,123,none⟩),.pointer (some a),.int .u64 150]]).run υ W= .ok (.bool false) W:=by
 rw[rlm];simp only[Sem.run_bind,Tt,Result.andThen];simp[ReflectliteValue.isNil,loadVar,isAgg,underlying,Tryz.underlying123,ha,Result.andThen]
theorem VP (h:Value) (w:θ):(Go.method 575 316 (.agg #[h]) "Elem").run υ w= .ok (373,.agg #[h]) w:=by kernel_rfl
theorem Kw (h:Value) (w:θ):(Go.method 575 316 (.agg #[h]) "Implements").run υ w= .ok (374,.agg #[h]) w:=by kernel_rfl
theorem GZ (h:Value) (w:θ):(Go.method 575 316 (.agg #[h]) "AssignableTo").run υ w= .ok (371,.agg #[h]) w:=by kernel_rfl
theorem adr (w:θ):(ReflectliteType.method ReflectliteType.elem #[.agg #[.pointer (some ⟨1,123,none⟩)]]).run υ w= .ok (.iface 316 (.agg #[.pointer (some ⟨1,121,none⟩)])) w:=by kernel_rfl
theorem QW (w:θ):(ReflectliteType.relation "Implements" ReflectliteType.implements_ #[.agg #[.pointer (some ⟨1,121,none⟩)],.iface 316 (.agg #[.pointer (some ⟨1,117,none⟩)])]).run υ w= .ok (.bool true) w:=by kernel_rfl
theorem Ο (v:Value) (w:θ):(ReflectliteType.typeOf #[.iface 121 v]).run υ w= .ok (.iface 316 (.agg #[.pointer (some ⟨1,121,none⟩)])) w:=by kernel_rfl
theorem QV (w:θ):(ReflectliteType.relation "AssignableTo" ReflectliteType.assignableTo #[.agg #[.pointer (some ⟨1,121,none⟩)],.iface 316 (.agg #[.pointer (some ⟨1,121,none⟩)])]).run υ w= .ok (.bool true) w:=by kernel_rfl
theorem Yj (e:Int) (w:θ):(ReflectliteValue.unpack (.iface 121 (Β e))).run υ w
  = .ok (.agg #[.pointer (some ⟨1,121,none⟩),.pointer (some ⟨w.heap.size,0,none⟩),.int .u64 130]) (w.alloc (.cells #[Β e] 121)):=by kernel_rfl
theorem Ν (w:θ):(Rtype.elem? 123).run υ w= .ok (some 121) w:=by kernel_rfl
theorem ag0 (p:Addr) (w:θ):(ReflectliteValue.mk 121 p ReflectliteValue.flagAddr).run υ w= .ok (.agg #[.pointer (some ⟨1,121,none⟩),.pointer (some p),.int .u64 386]) w:=by kernel_rfl
theorem abb (a p:Addr) (W:θ) (ha:W.cell? a=some (.pointer (some p))):
  (ReflectliteValue.method (ReflectliteValue.valueError "reflectlite.Value.Elem" 0) ReflectliteValue.elem #[.agg #[.pointer (some ⟨1,123,none⟩),.pointer (some a),.int .u64 150]]).run υ W
   = .ok (.agg #[.pointer (some ⟨1,121,none⟩),.pointer (some p),.int .u64 386]) W:=by
 rw[rlm];simp only[Sem.run_bind,Tt,Result.andThen];simp[ReflectliteValue.elem,loadVar,isAgg,underlying,Tryz.underlying123,ha,Result.andThen,Ν,ag0]
theorem rls (v x:Value):ReflectliteValue.set #[v,x]=(do
  let (some (dst,a,fl),some (src,b,_)):=(<- ReflectliteValue.parts v,<- ReflectliteValue.parts x)
   |unsupported (.noEntry "extern/(internal/reflectlite.Value).Set.zeroValue")
  if fl / ReflectliteValue.flagAddr % 2==0 then unsupported (.noEntry "extern/(internal/reflectlite.Value).Set.unaddressable")
  let val<- loadVar src b
  if<- Rtype.directlyAssignable dst src then storeVar dst a val
  else if<- Rtype.implements dst src then
   if (<- Rtype.kind src)==20 then
    match val with
    | .nilIface=>unsupported (.noEntry "extern/reflectlite: a nil value of one interface type handed on as a value of another")
    |_=>storeVar dst a val
   else storeVar dst a (.iface src val)
  else panicString ("reflectlite.Set: value of type "++(<- Rtype.spelt src)++" is not assignable to type "++(<- Rtype.spelt dst))
  pure (.tuple #[])):=rfl
theorem Ξ (a:Addr) (w:θ):(ReflectliteValue.parts (.agg #[.pointer (some ⟨1,121,none⟩),.pointer (some a),.int .u64 386])).run υ w= .ok (some (121,a,386)) w:=by kernel_rfl
theorem abe (a:Addr) (w:θ):(ReflectliteValue.parts (.agg #[.pointer (some ⟨1,121,none⟩),.pointer (some a),.int .u64 130])).run υ w= .ok (some (121,a,130)) w:=by kernel_rfl
theorem Μ (w:θ):(Rtype.directlyAssignable 121 121).run υ w= .ok true w:=by kernel_rfl
theorem ae2 (ta b:Addr) (e:Int) (old:Value) (W:θ) (hb:W.cell? b=some (Β e)) (ht:W.cell? ta=some old) (hf:W.frozen? ta=false):
  (ReflectliteValue.set #[.agg #[.pointer (some ⟨1,121,none⟩),.pointer (some ta),.int .u64 386],.agg #[.pointer (some ⟨1,121,none⟩),.pointer (some b),.int .u64 130]]).run υ W
   = .ok (.tuple #[]) (W.setCell ta (Β e)):=by
 rw[rls];simp only[Sem.run_bind,Ξ,abe,Result.andThen];simp[ReflectliteValue.flagAddr,loadVar,isAgg,underlying,Tryz.underlying121,hb,Result.andThen,Μ,storeVar,Value.cells,storeCells,Addr.add];rw[run_store υ W ta _ _ (by rfl)];simp[ht,hf]
set_option maxHeartbeats 4000000 in
theorem as_hit (e:Int) (t:Addr) (old:Value) (w:θ) (hg:w.cell? ⟨0,0,none⟩=some (.iface 316 (.agg #[.pointer (some ⟨1,117,none⟩)]))) (ht0:w.cell? t=some old) (hf0:w.frozen? t=false):
  Calls Tryz.prog 46 #[.iface 121 (.int .i64 e),.iface 123 (.pointer (some t))] w λev w'=>ev= .returned (.bool true)/\w'=((((w.alloc (.cells #[.pointer (some t)] 123)).alloc (.cells #[.pointer (some ⟨1,123,none⟩),.pointer (some ⟨w.heap.size,0,none⟩),.int .u64 150] 216)).alloc (.cells #[.pointer (some ⟨1,123,none⟩),.pointer (some ⟨w.heap.size,0,none⟩),.int .u64 150] 216)).alloc (.cells #[.int .i64 e] 121)).setCell t (.int .i64 e):=by
 have h6:= @run_callFunc_extern Tryz.prog 106 _ (λargs=>ReflectliteValue.unpack (args.getD 0 (.tuple #[]))) Tryz.func106 (by kernel_rfl) (by kernel_rfl) (by kernel_rfl) (by kernel_rfl);have h7:= @run_callFunc_extern Tryz.prog 107 _ (ReflectliteValue.methodAny (ReflectliteValue.valueError "reflectlite.Value.Type" 0) (λt _ _ _=>ReflectliteType.toType t)) Tryz.func107 (by kernel_rfl) (by kernel_rfl) (by kernel_rfl) (by kernel_rfl);have h8:= @run_callFunc_extern Tryz.prog 108 _ (ReflectliteValue.method (ReflectliteValue.valueError "reflectlite.Value.IsNil" 0) ReflectliteValue.isNil) Tryz.func108 (by kernel_rfl) (by kernel_rfl) (by kernel_rfl) (by kernel_rfl);have h27:= @run_callFunc_extern Tryz.prog 340 _ (ReflectliteType.abiMethod λt=>do pure (.int .u8 (<- Rtype.kind t))) Tryz.func340 (by kernel_rfl) (by kernel_rfl) (by kernel_rfl) (by kernel_rfl)
 have h37:= @run_callFunc_extern Tryz.prog 373 _ (ReflectliteType.method ReflectliteType.elem) Tryz.func373 (by kernel_rfl) (by kernel_rfl) (by kernel_rfl) (by kernel_rfl);have h38:= @run_callFunc_extern Tryz.prog 374 _ (ReflectliteType.relation "Implements" ReflectliteType.implements_) Tryz.func374 (by kernel_rfl) (by kernel_rfl) (by kernel_rfl) (by kernel_rfl);have h10:= @run_callFunc_extern Tryz.prog 198 _ ReflectliteType.typeOf Tryz.func198 (by kernel_rfl) (by kernel_rfl) (by kernel_rfl) (by kernel_rfl);have h35:= @run_callFunc_extern Tryz.prog 371 _ (ReflectliteType.relation "AssignableTo" ReflectliteType.assignableTo) Tryz.func371 (by kernel_rfl) (by kernel_rfl) (by kernel_rfl) (by kernel_rfl);have h11:= @run_callFunc_extern Tryz.prog 199 _ (ReflectliteValue.method (ReflectliteValue.valueError "reflectlite.Value.Elem" 0) ReflectliteValue.elem) Tryz.func199 (by kernel_rfl) (by kernel_rfl) (by kernel_rfl) (by kernel_rfl);have h12:= @run_callFunc_extern Tryz.prog 200 _ ReflectliteValue.set Tryz.func200 (by kernel_rfl) (by kernel_rfl) (by kernel_rfl) (by kernel_rfl);have tO:=Ο;have mA:=GZ;have a25:=QV;have v25:=Yj;have f6:=Yk;have f7:=adu;have mK:=VQ;have mE:=VP;have mI:=Kw;have k27:=adt;have k25:=ads;have e27:=adr;have i25:=QW;have n8:=abd ⟨w.heap.size,0,none⟩ t ((w.alloc (.cells #[.pointer (some t)] 123)).alloc (.cells #[.pointer (some ⟨1,123,none⟩),.pointer (some ⟨w.heap.size,0,none⟩),.int .u64 150] 216)) (by simp);have I:0<w.heap.size:=by
  rcases Nat.eq_zero_or_pos w.heap.size with h0|h
  ·simp[World.cell?,h0] at hg
  ·exact h
 have hg2:((w.alloc (.cells #[.pointer (some t)] 123)).alloc (.cells #[.pointer (some ⟨1,123,none⟩),.pointer (some ⟨w.heap.size,0,none⟩),.int .u64 150] 216)).cell? ⟨0,0,none⟩=some (.iface 316 (.agg #[.pointer (some ⟨1,117,none⟩)])):=by
  rw[World.cell?_alloc_lt _ _ ⟨0,0,none⟩ (by simp),World.cell?_alloc_lt _ _ ⟨0,0,none⟩ I];exact hg
 have u:t.block<w.heap.size:=by
  rcases Nat.lt_or_ge t.block w.heap.size with h|h
  ·exact h
  ·simp[World.cell?,Array.getElem?_eq_none h] at ht0
 have el:=abb ⟨w.heap.size,0,none⟩ t (((w.alloc (.cells #[.pointer (some t)] 123)).alloc (.cells #[.pointer (some ⟨1,123,none⟩),.pointer (some ⟨w.heap.size,0,none⟩),.int .u64 150] 216)).alloc (.cells #[.pointer (some ⟨1,123,none⟩),.pointer (some ⟨w.heap.size,0,none⟩),.int .u64 150] 216)) (by rw[World.cell?_alloc_lt _ _ ⟨w.heap.size,0,none⟩ (by simp;omega)];simp);have st:=ae2 t ⟨w.heap.size+1+1+1,0,none⟩ e old ((((w.alloc (.cells #[.pointer (some t)] 123)).alloc (.cells #[.pointer (some ⟨1,123,none⟩),.pointer (some ⟨w.heap.size,0,none⟩),.int .u64 150] 216)).alloc (.cells #[.pointer (some ⟨1,123,none⟩),.pointer (some ⟨w.heap.size,0,none⟩),.int .u64 150] 216)).alloc (.cells #[.int .i64 e] 121))
  (by rw[World.cell?_alloc_at _ _ _ _ (by simp)];rfl)
  (by rw[World.cell?_alloc_lt _ _ t (by simp;omega),World.cell?_alloc_lt _ _ t (by simp;omega),World.cell?_alloc_lt _ _ t (by simp;omega),World.cell?_alloc_lt _ _ t u];exact ht0)
  (by rw[World.frozen?_alloc_old _ _ t (by simp;omega),World.frozen?_alloc_old _ _ t (by simp;omega),World.frozen?_alloc_old _ _ t (by simp;omega),World.frozen?_alloc_old _ _ t (Nat.ne_of_lt u)];exact hf0)
 go_enter Tryz.func46,Tryz.ntmps46
 go_wp2
 refine wp_loop_rounds 1 ?_;rw[rounds_succ]
 go_wp2
 go_ret
 exact⟨rfl,rfl⟩
end Go.Proofs.AS
end
section
namespace Go.Proofs.EN
open Gp Go.Proofs Go.Proofs.AN
def Hdl (w:θ):Prop:=w.cell? ⟨0,0,none⟩=some (.iface 316 (.agg #[.pointer (some ⟨1,117,none⟩)]))
theorem Hdl.ext {w w':θ} (h:Hdl w) (hf:Ext w w'):Hdl w':=kQ h hf
theorem ae4 (v:Value) (w:θ):H8 .nilIface v w λr w'=>r=false/\w'=w:=by
 refine Calls.mono (AS.as_nil v w) ?_;rintro e w' ⟨rfl,rfl⟩;exact⟨false,rfl,rfl,rfl⟩
theorem ae3 {w:θ} {t:Nat} {o d:Int} (hg:Hdl w) (hr:Row w t [Β o]):H8 (.iface 121 (Β d)) (.iface 123 (.pointer (some ⟨t,0,none⟩))) w λr w'=>r=true/\gV w w' (·=t)/\Row w' t [Β d]:=by
 have hc:w.cell? ⟨t,0,none⟩=some (Β o):=by rw[hr.cell];rfl
 refine Calls.mono (AS.as_hit d ⟨t,0,none⟩ _ w hg hc (hr.frozen 0)) ?_;rintro e w' ⟨rfl,hw⟩;refine⟨true,rfl,rfl,?_⟩;generalize hW:(((w.alloc (.cells #[.pointer (some ⟨t,0,none⟩)] 123)).alloc (.cells #[.pointer (some ⟨1,123,none⟩),.pointer (some ⟨w.heap.size,0,none⟩),.int .u64 150] 216)).alloc (.cells #[.pointer (some ⟨1,123,none⟩),.pointer (some ⟨w.heap.size,0,none⟩),.int .u64 150] 216)).alloc (.cells #[Β d] 121)=W at hw;have hx:gV w W (·=t):=by
  rw[<- hW];exact(((gV.alloc w _ _).trans (gV.alloc _ _ _) λ_ _ h=>h).trans (gV.alloc _ _ _) λ_ _ h=>h).trans (gV.alloc _ _ _) λ_ _ h=>h
 have hx0:gV w W (λ_=>False):=by
  rw[<- hW];exact(((gV.alloc w _ _).trans (gV.alloc _ _ _) λ_ _ h=>h).trans (gV.alloc _ _ _) λ_ _ h=>h).trans (gV.alloc _ _ _) λ_ _ h=>h
 have u:=hr.fr hx0 (by simp);rw[hw];exact⟨hx.trans (gV.set W ⟨t,0,none⟩ _ rfl) λ_ _ h=>h.symm,u.set 0 (Β d)⟩
end Go.Proofs.EN
end
section
namespace Go.Proofs.AN
open Gp Gp.V4 Go.Proofs Go.Proofs.VN
open Gp.Bind (In64)
section
variable {w0 w w':θ}
theorem ϊ {w:θ} {a:fO} {n m:Nat} {vs:List Value} (h:nZ w a n vs) (hm:m<=n):nZ w a m (vs.take m):=by
 cases a with
 |none=>
  have h:vs=[]:=h;subst h;show List.take m []=[];simp
 |some a=>
  obtain⟨h1,h2⟩:=h;refine⟨by simp;omega,λj hj=> ?_⟩;have hj':j<vs.length:=by simp at hj;omega
  have:=h2 j hj';rw[this];rw[alX];have:j<m:=by simp at hj;omega
  rw[aeH this]
theorem acy {s src:fU} {L:List UInt8} (hs:Buf w s (bytesV L)) {at_:Int} (h0:0<=at_) (h1:at_<L.length) {Q:fU->Prop}
  (hQ:∀s',(∀(W:θ) (m:List UInt8) (K:Int->b_),Buf W s (bytesV L)->iD W src m->(∀n W' L',L'.length=L.length->Buf W' s (bytesV L')->gV W W' (fU.at s)->K n W')->AQ 1 s' src W K)->Q s'):kM s 1 at_ (s.len:Int) Q:=by
 obtain⟨hl,⟨ha,hb,_⟩|⟨b,pad,ha,hc,hr⟩⟩:=hs
 ·have:L.length=0:=by have:=congrArg List.length hb;simpa [bytesV] using this
  omega
 have N:(bytesV L).length=L.length:=jI L;refine⟨h0,by omega,by omega,hQ _ ?_⟩;intro W m K hs hm hK;have I:qU s.a s.cap at_.toNat 1=some ⟨b,at_.toNat,none⟩:=by
  unfold qU;rw[ada (by omega),ha];show some ((⟨b,0,none⟩:Addr).add (at_.toNat * 1))=_;rw[gJ];simp
 rw[I];obtain⟨hl2,⟨ha2,_,_⟩|⟨b2,pad2,ha2,hc2,hr2⟩⟩:=hs
 ·rw[ha2] at ha;cases ha
 have U:b2=b:=by rw[ha2] at ha;cases ha;rfl
 subst U;have h:Nat.min src.len ((s.len:Int).toNat - at_.toNat)<=src.len:=Nat.min_le_left _ _;have u:Nat.min src.len ((s.len:Int).toNat - at_.toNat)<=(s.len:Int).toNat - at_.toNat:=Nat.min_le_right _ _;generalize hq:Nat.min src.len ((s.len:Int).toNat - at_.toNat)=q at h u;have O:=ϊ hm.2.1 h;have Y:(bytesV m).take q=bytesV (m.take q):=by simp[bytesV]
 rw[Y] at O;have R:(bytesV (m.take q)).length=q:=by
  have:=hm.1;simp[bytesV];omega
 refine AU (n:=1) (vs:=bytesV (m.take q)) (L:=bytesV L++pad2) hq (by rw[aiG];exact O) hr2 (by rw[R,ahY];omega) (Tz _) λW' r f=> ?_;have hz:=r.lt;have J:spl (bytesV L++pad2) at_.toNat (bytesV (m.take q))=bytesV (L.take at_.toNat++m.take q++L.drop (at_.toNat+q))++pad2:=by
  unfold spl;rw[R,List.take_append_of_le_length (by omega),List.drop_append_of_le_length (by omega)];simp[bytesV,akc]
 rw[J] at r;have hL':(L.take at_.toNat++m.take q++L.drop (at_.toNat+q)).length=L.length:=by
  have:=hm.1;simp;omega
 refine hK _ W' _ hL' ⟨by rw[jI,hL',hl2,N],.inr ⟨b2,pad2,ha2,by rw[jI,hL',hc2,N],r⟩⟩ (f.mono λy hy=>⟨0,by rw[ha2,hy]⟩)
theorem adx (n:Int) {so sn:fU} {lo ln:List UInt8} (ho:iD w so lo) (hn:iD w sn ln) (h1:lo.length<=100) (h2:ln.length<=100):FX n so sn w λr w'=>mg r/\Ext w w':=by
 apply Xc;intro J;have u:J true:=by
  simp only[J,aaU];exact⟨by decide,Ext.refl _⟩
 have O:0<=n/\n<=65535->J false:=by
  intro hn16;simp only[J,aaT];refine gy λa w1 r1 e1 z1 f1=> ?_;have hp:=EP r1 (hn.ext f1);refine cmS1 (aaH hp (by simp) (by intro q hq;simp only[akU] at hq;subst hq;simp only;omega)) ?_;rintro tt w2 ⟨rfl,f2⟩;rw[OY];have htl:=VA ln;refine gy λf w3 r3 e3 z3 f3=> ?_;have x3:=(f1.trans f2).trans f3;refine gY (i:=0) r3 rfl (by simp) λw4 r4 f4' z4=> ?_;simp only[af7] at r4;have f4:gV w3 w4 (·=f):=f4' _ rfl;have sz:=(f1.trans f2).size;have x4:Ext w w4:=x3.nw f4;apply IY;refine⟨rfl,gy λk w5 r5 e5 z5 f5=> ?_⟩;have hs5:=ho.ext (x4.trans f5);have I:=r4.ext f5;have hfz:f<w4.heap.size:=r4.lt;have hwz:w.heap.size<=f:=by omega
  have R:∀ad,so.a=some ad->0<lo.length->ad.block<w.heap.size:=λad h h'=>ho.lt h h';rw[Α (n:=65535 - n) (by omega) (by omega),Α] at I;have hwl:(wB lo).length<=51:=by rw[Qq];omega
  have lq:kT none w5=w5.heap.size+1:=rfl;refine vC (Nz (s:=so) (f0:=k) (l:=lo) (by omega)) (λi W=>(∃v:Nat,v<=65535+65535 * 100+i * 65535/\Row W f [Β (v:Int)])/\gV w5 W (·=f)) (λ_ _=>False) (by simp) ?_ ?_ ?_ (by intro e W W' h;exact h.elim) (by intro e W h;exact h.elim) ?_ ?_ (by intro W h;exact h.elim) (by intro id W h;exact h.elim)
  ·intro W hW _;refine⟨⟨(65535 - n+(tot ln:Int)).toNat,by omega,?_⟩,hW _⟩;have:(((65535 - n+(tot ln:Int)).toNat:Nat):Int)=65535 - n+(tot ln:Int):=by omega
   rw[this];exact I.ext hW
  ·rintro i W ⟨_,hf⟩;exact⟨r5.fr hf (by omega),hs5.fr hf λad ha h0 e=>by have:=R ad ha h0;omega⟩
  ·rintro i W W' ⟨⟨v,hv,hr⟩,hf⟩ hf';rw[lq] at hf';exact⟨⟨v,hv,hr.fr hf' (by omega)⟩,hf.trans hf' λy hy e=>by omega⟩
  ·rintro i x W Kb hx ⟨⟨v,hv,hr⟩,hf⟩ U hk _;have hi:i<(wB lo).length:=(aeK.1 hx).1;have hi2:2 * i<lo.length:=by rw[Qq] at hi;omega
   rw[ZR lo hi2] at hx
   cases hx
   have hwa:=EY lo (2 * i);have fb:=gV.gu W (kT none w5);rw[lq] at fb U hk ⊢;have N:=hr.fr fb (by omega);refine⟨by trivial,Ld_i 0 (v:Int) N ?_⟩;refine gY (i:=0) N rfl (by simp) λW2 r2 f2' z2=> ?_;simp only[af7] at r2;have g2:gV (gu W (w5.heap.size+1)) W2 (·=f):=f2' _ rfl;refine hk W2 (·=f) g2 (λy e=>by omega) ⟨⟨v+(65535 - wordAt lo (2 * i)),by omega,?_⟩,(hf.trans fb λy hy e=>by omega).trans g2 λy _ e=>e⟩;have he:ο.wrap ((v:Int)+ο.wrap (65535 - ((wordAt lo (2 * i):Nat):Int)))=((v+(65535 - wordAt lo (2 * i)):Nat):Int):=by
    rw[Α (n:=65535 - ((wordAt lo (2 * i):Nat):Int)) (by omega) (by omega),Α];omega
   rw[<- he];exact r2
  ·rintro W ⟨⟨v,hv,hr⟩,hf⟩ hm;have Y:=hm rfl;refine Ld_i 0 (v:Int) hr ?_;refine cmS1 (acL (by omega) W) ?_;rintro r W2 ⟨rfl,hw⟩;subst hw;refine⟨Y,?_⟩;have hfl:=N_ v;rw[Α];refine⟨by omega,?_⟩;have xW:Ext w W2:=(x4.trans f5).new hf λy hy e=>by omega
   have:=(x4.trans f5).size;exact xW.new (gV.mF W2 w5.heap.size (.deferred none)) λy hy e=>by omega
 clear_value J;by_cases c1:n<0
 ·rw[aeJ c1,aaU];exact u
 rw[adn c1,aaT];by_cases c2:n>65535
 ·rw[aeJ c2];exact u
 ·rw[adn c2];exact O ⟨by omega,by omega⟩
theorem agq (n:Int) (k:Nat) (h:k<=4):(lU [] n (k:Int)).length<=4:=by have:=Aw [] n k;simp at this;omega
theorem TG {s:fU} {l:List UInt8} (hs:iD w s l) (hl:l.length<=2^40) (at_ n:Int) (k:Nat) (hk:k<=4) (h0:0<=at_) (h1:at_+k<=l.length):
  vH s at_ n (k:Int) w λy0 y1 y2 w'=>(y0=at_/\(∃m,iD w' y1 m/\m.length<=4)/\∃m,iD w' y2 m/\m.length<=4)/\Ext w w':=by
 apply Qa;refine gy λa w1 r1 e1 z1 f1=> ?_;rw[Α];refine lX (hs.ext f1) h0 (by omega) (by omega) λs' hs' _=> ?_;have h:((l.take (at_+(k:Int)).toNat).drop at_.toNat).length<=4:=by simp;omega
 generalize (l.take (at_+(k:Int)).toNat).drop at_.toNat=q at hs' h;refine cmS2 (nR hs' (by omega)) ?_;rintro r w2 ⟨b2,_,f2,n2⟩;refine cmS2 (zT iD.nil (by simp) n k) ?_;rintro r3 w3 ⟨b3,f3,n3⟩;have u:=agq n k hk;have x3:=(f1.trans f2).trans f3;have z2:=f2.size;have z3:=f3.size;refine StN_f ((r1.ext f2).ext f3) λw4 r4 f4 z4=> ?_;have x4:Ext w w4:=x3.nw f4;have n2':∀b,fU.at r b->¬b=a:=λb hb e=>by have:=n2 b hb;omega
 have n3':∀b,fU.at r3 b->¬b=a:=λb hb e=>by have:=n3 b hb;omega
 have B2:=(b2.fr (f3 λ_=>False) (by simp)).fr f4 n2';have B3:=b3.fr f4 n3';refine Ld_i 0 at_ r4 (Ld_s 1 r r4 (Ld_s 2 r3 r4 ?_));exact⟨⟨rfl,⟨q,iD.iG B2,h⟩,_,iD.iG B3,u⟩,x4⟩
end
end Go.Proofs.AN
end
section
namespace Go.Proofs.AN
open Gp Gp.V4 Go.Proofs Go.Proofs.VN
open Gp.Bind (In64)
section
variable {w0 w w':θ}
abbrev Ch:=Int×fU×fU
def chV (c:Ch):List Value:=[Β c.1,.slice c.2.1.a c.2.1.len c.2.1.cap,.slice c.2.2.a c.2.2.len c.2.2.cap]
theorem acv (c:Ch):(chV c).length=3:=rfl
structure adf (w:θ) (n:Nat) (c:Ch):Prop where
 at0:0<=c.1
 at1:c.1<n
 old:∃m,iD w c.2.1 m/\m.length<=4
 now:∃m,iD w c.2.2 m/\m.length<=4
theorem adf.ext {n:Nat} {c:Ch} (h:adf w n c) (hf:Ext w w'):adf w' n c:=by
 obtain⟨h1,h2,⟨m,h3,h4⟩,k,h5,h6⟩:=h;exact⟨h1,h2,⟨m,h3.ext hf,h4⟩,k,h5.ext hf,h6⟩
theorem ZT {s a2:fU} {l:List UInt8} (hs:iD w s l) (hl:l.length<=2^40) (place:Int) (hp0:0<=place) (hp1:place+2<=l.length) {cs:List Ch} (Z:lK 3 chV w a2 cs) (hn:cs.length<=4) (hc:∀c∈cs,adf w l.length c):
  wL s place a2 w λr w'=>(∃L:List UInt8,Buf w' r (bytesV L)/\L.length=l.length)/\Ext w w'/\∀b,fU.at r b->w.heap.size<=b:=by
 apply WL;have I:=Z.len;refine cmS2 (nR hs (by omega)) ?_;rintro r w1 ⟨b1,_,f1,n1⟩;have hrl:r.len=l.length:=by rw[b1.1,jI]
 have O:∀b,fU.at r b->b<w1.heap.size:=λb hb=>b1.lt hb;refine gI (λst W=>∃(i:Nat) (L o n:List UInt8),i<=cs.length/\st.2.2.1=(i:Int)/\L.length=l.length/\Buf W r (bytesV L)/\Buf W st.1 (bytesV o)/\Buf W st.2.1 (bytesV n)/\o.length<=4 * i/\n.length<=4 * i/\Ext w W/\w1.heap.size<=W.heap.size/\
   (∀b,fU.at st.1 b->w1.heap.size<=b)/\∀b,fU.at st.2.1 b->w1.heap.size<=b/\¬fU.at st.1 b)
  (λst _=>((cs.length:Int) - st.2.2.1).toNat) ?_ ?_
 ·refine⟨0,l,[],[],by omega,rfl,rfl,b1,Buf.nil,Buf.nil,by simp,by simp,f1,ai8 _,?_,?_⟩
  ·rintro b ⟨o,h⟩;cases h
  ·rintro b ⟨o,h⟩;cases h
 rintro⟨old,now,ii,⟨⟩⟩ W ⟨i,L,o,n,hi,aa,hL,bL,bo,bn,lo,ln,hx,hz,no,nn⟩ next J
 simp only at aa bo bn no nn;subst aa;rw[I];by_cases ab:i<cs.length
 ·have u:((i:Int)<(cs.length:Int)):=by omega
  rw[aeJ u,aaU];have N:=ade ab;have R:=akI ab;obtain⟨q0,q1,⟨m1,hm1,lm1⟩,m2,hm2,lm2⟩:=hc _ R;generalize cs[i]=cc at N hm1 hm2 q0 q1;obtain⟨at_,so,sn⟩:=cc;refine SN.SlN_ix (i:=(i:Int)) acv (by omega) (Z.ext hx) (by omega) (by rw[ab3];exact N) λa9 h9=> ?_;refine ig (k:= .int .i64) (y:=at_) (h9 0 _ rfl) (ig (k:= .slice) (y:=so) (h9 1 _ rfl) (ig (k:= .slice) (y:=sn) (h9 2 _ rfl) ?_));refine gy λac w2 r2 e2 z2 f2=> ?_;refine gU r2 rfl rfl λw3 r3 f3' z3=> ?_;have f3:=f3' _ rfl;have af:=f2.new f3 λy hy e=>by omega
  have x3d:=af.trans (Ext.drew w3);have r3d:=r3.drew;refine Ld_i 0 at_ r3d ?_;have bL3:=bL.fr (x3d λ_=>False) (by simp);have bo3:=bo.fr (x3d λ_=>False) (by simp);have bn3:=bn.fr (x3d λ_=>False) (by simp);have ha14:W.heap.size<=ac:=by omega
  have ltW:=O;refine acy (src:=sn) bL3 q0 (by omega) λs17 ag=> ?_;refine Ld_s 2 sn r3d ?_;refine ag w3.drew m2 _ bL3 (hm2.ext (hx.trans x3d)) λn19 w4 L' hL' bL4 f4=> ?_;have hrb:=n1;have x4:=(hx.trans x3d).new f4 λy hy hb=>by grind
  have r4:=(r3d.fr f4 (λhb=>by grind)).drew;have bo4:=(bo3.fr f4 (λb hb hb'=>by grind)).fr (Ext.drew w4 λ_=>False) (by simp);have bn4:=(bn3.fr f4 (λb hb hb'=>by grind)).fr (Ext.drew w4 λ_=>False) (by simp);have bL4:=bL4.fr (Ext.drew w4 λ_=>False) (by simp);have x4d:=x4.trans (Ext.drew w4);refine Ld_s 1 so r4 (Ld_s 2 sn r4 ?_);have z3:=f4.size;have z4d:w4.drew.heap.size=w4.heap.size:=rfl;have z1:=f1.size;have la:=r3d.lt;refine jv bo4 (hm1.ext x4d) (by omega) λae w5 b5 f5 n5 _=> ?_;have x5:=x4d.new f5 λy hy hb=>by grind
  have z5:=f5.size;have ah:¬fU.at old ac:=λhb=>by have:=bo.lt hb;omega
  refine⟨by rw[gJ,(r4.fr f5 ah).cell];rfl,?_⟩;have bn5:=bn4.fr f5 λb hb=>(nn b hb).2;refine jv bn5 (hm2.ext x5) (by omega) λai w6 b6 f6 n6 _=> ?_;have x6:Ext w w6:=x5.new f6 λy hy hb=>by grind
  have z6:=f6.size;have aj:∀b,fU.at ae b->¬fU.at now b:=by
   intro b hb hb';rcases n5 b hb with h|h
   ·grind
   ·have:=bn.lt hb';omega
  have bL6:Buf w6 r (bytesV L'):=(bL4.fr f5 λb hb hb'=>by grind).fr f6 λb hb hb'=>by grind
  have hw:ο.wrap ((i:Int)+1)=(i:Int)+1:=Α;show next (ae,ai,ο.wrap ((i:Int)+1),()) w6
  rw[hw];refine J _ _ ⟨i+1,L',o++m1,n++m2,by omega,by rfl,by omega,bL6,b5.fr f6 aj,b6,by grind,by grind,x6,by omega,λb hb=> ?_,λb hb=>⟨?_,λhb'=> ?_⟩⟩ (by grind)
  ·grind
  ·grind
  ·rcases n6 b hb with h|h
   ·grind
   ·have:=b5.lt hb';omega
 ·have u:¬((i:Int)<(cs.length:Int)):=by omega
  rw[adn u,aaT];refine cmS8 (Pz (hs.ext hx) (by omega) place 2) ?_;rintro g e w2 ⟨hw,_⟩;subst hw;refine cmS1 (adx g (iD.iG bo) (iD.iG bn) (by omega) (by omega)) ?_;rintro ch w3 ⟨hch,f3⟩;have bL3:=bL.fr (f3 λ_=>False) (by simp);refine cmS7 (Vr (iD.iG bL3) (by omega) place ch 2) ?_;rintro r2 e2 w4 ⟨U,f4,Y⟩;have ak:=(SC (l:=L) (by unfold jc kV;grind) hp0 (by omega) U).2;refine⟨⟨_,ak,?_⟩,(hx.trans f3).trans f4,λb hb=>by have:=Y b hb;have:=(hx.trans f3).size;omega⟩;have h2:(2:Int).toNat=2:=rfl;rw[h2];simp only[ahY,ajT,alx,iT];omega
end
end Go.Proofs.AN
end
