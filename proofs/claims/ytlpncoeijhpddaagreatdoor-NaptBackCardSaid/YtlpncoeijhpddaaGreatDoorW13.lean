import Derived.Test.YtlpncoeijhpddaaGreatDoorW12
import Derived.Test.YtlpncoeijhpddaaGreatDoorW5
import Derived.WalkKit
import Derived.LaidEql
import Derived.Stop.Asserts
import Derived.RowKitTokens
set_option maxRecDepth 100000
set_option maxHeartbeats 4000000
section
namespace Go.Proofs.AN
open Gp Gp.V4 Go.Proofs Go.Proofs.VN
open Gp.Bind (In64)
section
variable {w0 w w':θ}
theorem jo {W:θ} {b:Nat} {vs:List Value} (hr:Row W b vs) (hv:∀v∈vs,∀n,v≠.int .u8 n) {s:gG} {L:List UInt8} (hs:iH W s L) {ad:Addr} (ha:s.a=some ad) (hl:0<L.length):¬ad.block=b:=by
 intro e;obtain⟨x,hx⟩:∃x,L[0]? =some x:=⟨_,adP hl⟩;obtain⟨a',ha',hc⟩:=hs.at_ hx;rw[ha] at ha'
 cases ha'
 obtain⟨T,hT⟩:=hr;obtain⟨bk,off,pth⟩:=ad;simp only at e;subst e;have h0:(Addr.add ⟨bk,off,pth⟩ 0)=⟨bk,off,pth⟩:=by simp[Addr.add]
 rw[h0] at hc;simp only[World.cell?,hT] at hc;split at hc
 ·cases hc
 ·rw[List.getElem?_toArray] at hc;exact hv _ (als hc) _ rfl
instance (n:Int):Decidable (In64 n):=inferInstanceAs (Decidable (_/\_))
theorem Zv (l:List UInt8) (i k:Nat) (hk:k<=4):In64 (num l i k:Int):=by
 have h1:=OI ((l.drop i).take k);have h2:(256:Nat)^((l.drop i).take k).length<=256^4:=amB (by omega) (by simp;omega);unfold In64 num;omega
theorem Yf {l:List UInt8} {i k n e:Int} (h:Nh l i k n e) (hk:k<=4):In64 n:=by
 unfold Nh at h;split at h
 ·rw[h.2];unfold In64;omega
 ·split at h
  ·rw[h.2];unfold In64;omega
  ·rw[h.2];exact Zv l _ _ (by omega)
@[reducible] def mW (n:Int):Prop:=0<=n/\n<=65535
theorem aj7 (l:List UInt8) (i:Nat):mW (num l i 2:Int):=by
 have h1:=OI ((l.drop i).take 2);have h2:(256:Nat)^((l.drop i).take 2).length<=256^2:=amB (by omega) (by simp;omega);unfold num;omega
theorem ahV {l:List UInt8} {i n e:Int} (h:Nh l i 2 n e):mW n:=by
 unfold Nh at h;split at h
 ·rw[h.2];decide
 ·split at h
  ·rw[h.2];decide
  ·rw[h.2];exact aj7 l _
theorem Tn (l:List UInt8) (j:Nat):mW ((wordAt l j:Nat):Int):=by
 have:=Fv l j;omega
theorem afx (x:Int):mW (lZ .i64 x 65535):=by
 unfold lZ;have h:IntKind.bits .i64=64:=rfl;have e1:(BitVec.ofInt (IntKind.bits .i64) x).toNat=(x % 18446744073709551616).toNat:=by rw[h,alZ];rfl
 have e2:(BitVec.ofInt (IntKind.bits .i64) 65535).toNat=2^16 - 1:=by rw[h,alZ];rfl
 rw[amx,e1,e2,am_];rw[Α];omega
theorem TS (x:Int) (n:Nat) (hn:n<=62) (m:Int) (hm:m=(2^n - 1:Nat)):lZ .i64 x m=x % ((2^n:Nat):Int):=by
 subst hm;unfold lZ;have h:IntKind.bits .i64=64:=rfl;have h1:2^n<=2^62:=amB (by omega) hn;have h0:0<2^n:=Nat.pos_of_ne_zero (by simp);have e1:(BitVec.ofInt (IntKind.bits .i64) x).toNat=(x % 18446744073709551616).toNat:=by rw[h,alZ];rfl
 have e2:(BitVec.ofInt (IntKind.bits .i64) ((2^n - 1:Nat):Int)).toNat=2^n - 1:=by
  rw[h,alZ];have:((2^n - 1:Nat):Int) % ((2^64:Nat):Int)=((2^n - 1:Nat):Int):=Int.emod_eq_of_lt (by omega) (by omega);rw[this];rfl
 rw[amx,e1,e2,am_];have h2:(x % 18446744073709551616).toNat % 2^n<2^n:=alV _ h0;rw[Α];have hd:((2^n:Nat):Int) ∣ 18446744073709551616:=by
  refine⟨((2^(64 - n):Nat):Int),?_⟩;rw[<- Int.natCast_mul,<- Nat.pow_add,show n+(64 - n)=64 by omega];rfl
 rw[Int.natCast_emod,Int.toNat_of_nonneg (by omega),Int.emod_emod_of_dvd _ hd]
theorem Zn (x:Int) (k:Nat) (hk:k=1\/k=2\/k=4) (w:θ):AZ x (k:Int) w λr w'=>r=x % ((2^(8 * k):Nat):Int)/\w'=w:=by
 apply acB;rcases hk with rfl|rfl|rfl
 ·exact⟨by decide,TS x 8 (by omega) _ (by decide),rfl⟩
 ·exact⟨by decide,TS x 16 (by omega) _ (by decide),rfl⟩
 ·exact⟨by decide,TS x 32 (by omega) _ (by decide),rfl⟩
def zI (a b c d:Int):List UInt8:=mP (mP (mP (mP [] (a % 4294967296) 4) (b % 4294967296) 4) (c % 256) 2) (d % 65536) 2
theorem DV (a b c d:Int):(zI a b c d).length<=100:=by
 have l2:=AY [] (a % 4294967296) 4;have l4:=AY (mP [] (a % 4294967296) 4) (b % 4294967296) 4;have l6:=AY (mP (mP [] (a % 4294967296) 4) (b % 4294967296) 4) (c % 256) 2;have l8:=AY (mP (mP (mP [] (a % 4294967296) 4) (b % 4294967296) 4) (c % 256) 2) (d % 65536) 2;unfold zI;simp only[amn,Int.cast_ofNat_Int] at l2 l4 l6 l8 ⊢;omega
theorem KE (a b c d:Int) (w:θ):uz a b c d w λr w'=>iH w' r (zI a b c d)/\Ext w w':=by
 apply XI;refine cmS1 (Zn _ 4 (by omega) w) ?_;rintro r1 w1 ⟨rfl,hw⟩;subst hw;refine cmS2 (Ah iH.nil (by simp) _ 4) ?_;rintro s1 w2 ⟨b2,f2,_⟩;refine cmS1 (Zn _ 4 (by omega) w2) ?_;rintro r2 w3 ⟨rfl,hw⟩;subst hw;have l2:(mP [] (a % ((2^(8 * 4):Nat):Int)) 4).length<=0+4:=AY [] _ 4;refine cmS2 (Ah (iH.iM b2) (by omega) _ 4) ?_;rintro s3 w4 ⟨b4,f4,_⟩;refine cmS1 (Zn _ 1 (by omega) w4) ?_;rintro r3 w5 ⟨rfl,hw⟩;subst hw;have l4:(mP (mP [] (a % ((2^(8 * 4):Nat):Int)) 4) (b % ((2^(8 * 4):Nat):Int)) 4).length<=(mP [] (a % ((2^(8 * 4):Nat):Int)) 4).length+4:=AY _ _ 4;refine cmS2 (Ah (iH.iM b4) (by omega) _ 2) ?_;rintro s5 w6 ⟨b6,f6,_⟩;refine cmS1 (Zn _ 2 (by omega) w6) ?_;rintro r4 w7 ⟨rfl,hw⟩;subst hw;have l6:(mP (mP (mP [] (a % ((2^(8 * 4):Nat):Int)) 4) (b % ((2^(8 * 4):Nat):Int)) 4) (c % ((2^(8 * 1):Nat):Int)) 2).length<=(mP (mP [] (a % ((2^(8 * 4):Nat):Int)) 4) (b % ((2^(8 * 4):Nat):Int)) 4).length+2:=AY _ _ 2;refine cmS2 (Ah (iH.iM b6) (by omega) _ 2) ?_;rintro s7 w8 ⟨b8,f8,_⟩;exact⟨iH.iM b8,((f2.trans f4).trans f6).trans f8⟩
theorem half (i:Nat) (h:i<4):ο.wrap (Int.tdiv ((2 * i:Nat):Int) 2)=(i:Int):=by
 have:i=0\/i=1\/i=2\/i=3:=by omega
 rcases this with rfl|rfl|rfl|rfl<;>decide
theorem KD {b:Nat} {s s':gG} {l l':List UInt8} (h:Row w b [Δ s,.slice s'.a s'.len s'.cap]) (hs:iH w s l) (hs':iH w s' l'):Parts w ⟨some ⟨b,0,none⟩,2,2⟩ [(s,l),(s',l')]:=by
 refine⟨rfl,λi p hi=> ?_⟩
 match i,hi with
 |0,hi=>simp at hi;subst hi;exact⟨b,0,rfl,by rw[h.cell];rfl,hs⟩
 |1,hi=>simp at hi;subst hi;exact⟨b,0,rfl,by rw[h.cell];rfl,hs'⟩
 |(n+2),hi=>simp at hi
structure XU (sa da:Int) (l:List UInt8):Prop where
 len:8<=l.length
 size:wordAt l 4=l.length
 own:wordAt l 6≠0
 sum:fold (tot (zI sa da 17 (l.length:Int))+tot l)=65535
theorem abo {l:List UInt8} {j:Nat} (hj:j+1<8):wordAt ((l.take (8:Int).toNat).drop (0:Int).toNat) j=wordAt l j:=by
 unfold wordAt;have e8:(8:Int).toNat=8:=rfl;have e0:(0:Int).toNat=0:=rfl;rw[e8,e0,amW,amr,amr,adZ (by omega),adZ (by omega)]
theorem acV (sa da:Int) {s:gG} {l:List UInt8} (hs:iH w s l) (hl:l.length<=2^40) {K:Int->Int->Bool->gG->Int->b_}
  (hK:∀a b c d e w',Ext w w'->mW a->mW b->(∃L:List UInt8,iH w' d L/\L.length<=2^40)->(XU sa da l->e=0/\a=(wordAt l 0:Int)/\b=(wordAt l 2:Int)/\c=false/\iH w' d (l.drop 8))->K a b c d e w'):IK sa da s w K:=by
 apply Z4;refine gU λa w1 r1 e1 z1 f1=> ?_;have hlen:=hs.1;have rdk:∀{W:θ} {x0 x1:Int} {x2:Bool} {x3:gG} {e:Int},mW x0->mW x1->Ext w W->(∃L:List UInt8,iH W x3 L/\L.length<=2^40)->(XU sa da l->e=0/\x0=(wordAt l 0:Int)/\x1=(wordAt l 2:Int)/\x2=false/\iH W x3 (l.drop 8))->Row W a [Β x0,Β x1,.bool x2,Δ x3]->
   Ld ν W (Addr.add ⟨a,0,none⟩ 0) λy0=>Ld ν W (Addr.add ⟨a,0,none⟩ 1) λy1=>Ld .bool W (Addr.add ⟨a,0,none⟩ 2) λy2=>Ld .slice W (Addr.add ⟨a,0,none⟩ 3) λy3=>K y0 y1 y2 y3 e W:=by
  intro W x0 x1 x2 x3 e i0 i1 hx hL hG hr;exact Ld_i 0 x0 hr (Ld_i 1 x1 hr (Ld_b 2 x2 hr (Ld_s 3 x3 hr (hK _ _ _ _ _ _ hx i0 i1 hL hG))))
 by_cases c1:(s.len:Int)<8
 ·rw[aff c1,abt];refine StN_f r1 λw4 r4 f4 z4=> ?_;exact rdk (x3:=⟨none,0,0⟩) (by decide) (by decide) (f1.nw f4) ⟨[],iH.nil,by simp⟩ (λhg=>by have:=hg.len;omega) r4
 rw[adX c1,aaf];refine gU λg w2 r2 e2 z2 f2=> ?_;have x2:=f1.trans f2;have hs2:=hs.ext x2;refine mY hs2 (by omega) (by omega) (by omega) λs' hs' _=> ?_;apply Jh;refine⟨rfl,gU λk w3 r3 e3 z3 f3=> ?_⟩;have hs3:=hs'.ext f3;have hl8:((l.take (8:Int).toNat).drop (0:Int).toNat).length=8:=by simp;omega
 have hw8:∀j,j+1<8->wordAt ((l.take (8:Int).toNat).drop (0:Int).toNat) j=wordAt l j:=λj hj=>abo hj;generalize (l.take (8:Int).toNat).drop (0:Int).toNat=l8 at hs3 hl8 hw8;have x3:=x2.trans f3;have ha3:a<w3.heap.size:=((r1.ext f2).ext f3).lt;have hg3:g<w3.heap.size:=(r2.ext f3).lt;have wl:(wB l8).length=4:=by rw[QK,hl8]
 have U:=hs.ext x3;refine vU (NZ (s:=s') (f0:=k) (l:=l8) (by omega)) (λi Y=>(∃v0 v1 v2 v3:Int,(mW v0/\mW v1/\mW v2/\mW v3)/\((1<=i->v0=(wordAt l8 (2 * 0):Int))/\(2<=i->v1=(wordAt l8 (2 * 1):Int))/\(3<=i->v2=(wordAt l8 (2 * 2):Int))/\(4<=i->v3=(wordAt l8 (2 * 3):Int)))/\Row Y g [Β v0,Β v1,Β v2,Β v3])/\ig w3 Y (·=g)) (λ_ _=>False) (by simp) ?_ ?_ ?_ (by intro e W W' h;exact h.elim) (by intro e W h;exact h.elim) ?_ ?_ (by intro W h;exact h.elim) (by intro id W h;exact h.elim)
 ·intro Y hY _;exact⟨⟨0,0,0,0,by decide,⟨λh=>by omega,λh=>by omega,λh=>by omega,λh=>by omega⟩,(r2.ext f3).ext hY⟩,hY _⟩
 ·rintro i Y ⟨_,hf⟩;exact⟨r3.fr hf (by omega),hs3.fr hf λad ha h0 e=>jo (r2.ext f3) (by simp) hs3 ha h0 e⟩
 ·rintro i Y Y' ⟨⟨v0,v1,v2,v3,hv,hE,hr⟩,hf⟩ hf';have:lM none w3=w3.heap.size+1:=rfl;exact⟨⟨v0,v1,v2,v3,hv,hE,hr.fr hf' (by omega)⟩,hf.trans hf' λy hy e=>by omega⟩
 ·rintro i x Y Kb hx ⟨⟨v0,v1,v2,v3,⟨j0,j1,j2,j3⟩,⟨h0,h1,h2,h3⟩,hr⟩,hf⟩ hlt hk _;have hi:i<4:=by rw[<- wl];exact(afg.1 hx).1
  rw[ό l8 (by omega)] at hx
  cases hx
  refine⟨rfl,by omega,?_⟩;simp only;rw[half i hi];refine⟨by omega,by omega,?_⟩;rw[abu,aiC,gY,ahn];have fb:=ig.gQ Y (lM none w3);have hlw:lM none w3=w3.heap.size+1:=rfl;have ae:=hr.fr fb (by omega);refine iC (i:=i) ae rfl (by simp;omega) λw5 r5 f5' z5=> ?_;have f5:ig (gQ Y (lM none w3)) w5 (·=g):=f5' _ rfl;refine hk w5 (·=g) f5 (λy e=>by omega) ⟨?_,(hf.trans fb λy hy e=>by omega).trans f5 λy _ e=>e⟩;have:i=0\/i=1\/i=2\/i=3:=by omega
  rcases this with rfl|rfl|rfl|rfl<;>(simp only[af5,ahm] at r5;exact⟨_,_,_,_,⟨by first|assumption|exact Tn _ _,by first|assumption|exact Tn _ _,by first|assumption|exact Tn _ _,by first|assumption|exact Tn _ _⟩,⟨λ_=>by first|rfl|exact h0 (by omega),λ_=>by first|rfl|exact h1 (by omega)|omega,λ_=>by first|rfl|exact h2 (by omega)|omega,λ_=>by first|rfl|exact h3 (by omega)|omega⟩,r5⟩)
 rintro Y ⟨⟨v0,v1,v2,v3,⟨j0,j1,_,_⟩,⟨h0,h1,h2,h3⟩,hr⟩,hf⟩ hm;rw[wl] at h0 h1 h2 h3;have h0:v0=(wordAt l 0:Int):=by rw[h0 (by omega),hw8 _ (by omega)]
 have h1:v1=(wordAt l 2:Int):=by rw[h1 (by omega),hw8 _ (by omega)]
 have h2:v2=(wordAt l 4:Int):=by rw[h2 (by omega),hw8 _ (by omega)]
 have h3:v3=(wordAt l 6:Int):=by rw[h3 (by omega),hw8 _ (by omega)]
 have Z:=hm rfl;have I:=hr.drew;have hYs:w3.heap.size<Y.heap.size:=(akE.1 Z).1;have N:ig w3 Y.drew (·=g):=hf.ext (Ext.drew Y);have xY:Ext w Y.drew:=x3.nw N;have ra:Row Y.drew a _:=((r1.ext f2).ext f3).fr N (by omega);have O:Y.drew.heap[w3.heap.size]? =some (.deferred (some [])):=Z;have aa:iH Y.drew s l:=U.fr N λad ha h0 e=>jo (r2.ext f3) (by simp) U ha h0 e;have fin:∀(W:θ) (x0 x1:Int) (x2:Bool) (x3:gG) (e:Int),mW x0->mW x1->Ext Y.drew W->(∃L:List UInt8,iH W x3 L/\L.length<=2^40)->(∀ad,x3.a=some ad->a<ad.block/\ad.block≠w3.heap.size)->(XU sa da l->e=0/\x0=(wordAt l 0:Int)/\x1=(wordAt l 2:Int)/\x2=false/\iH W x3 (l.drop 8))->
   iE [Β x0,Β x1,.bool x2,Δ x3] W ⟨a,0,none⟩ 0 λu=>u.heap[w3.heap.size]? =some (.deferred (some []))/\
    Ld ν (u.putObj w3.heap.size (.deferred none)) (Addr.add ⟨a,0,none⟩ 0) λy0=>Ld ν (u.putObj w3.heap.size (.deferred none)) (Addr.add ⟨a,0,none⟩ 1) λy1=>Ld .bool (u.putObj w3.heap.size (.deferred none)) (Addr.add ⟨a,0,none⟩ 2) λy2=>
     Ld .slice (u.putObj w3.heap.size (.deferred none)) (Addr.add ⟨a,0,none⟩ 3) λy3=>K y0 y1 y2 y3 e (u.putObj w3.heap.size (.deferred none)):=by
  intro W x0 x1 x2 x3' e i0 i1 hW hL ab hG;refine StN_f (ra.ext hW) λw5 r5 f5 z5=> ?_;have zW:=hW.size;have hYd:Y.drew.heap.size=Y.heap.size:=rfl;refine⟨?_,?_⟩
  ·rw[f5.same _ (by omega) (by omega),(hW λ_=>False).same _ (by omega) (by simp)];exact O
  ·have fp:=ig.nG w5 w3.heap.size (.deferred none);have zx:=x3.size;have kp:∀L:List UInt8,iH W x3' L->iH (w5.putObj w3.heap.size (.deferred none)) x3' L:=λL hL=>(hL.fr f5 λad ha h0 e=>by have:=(ab ad ha).1;omega).fr fp λad ha h0 e=>by
    exact(ab ad ha).2 e
   obtain⟨L,hL1,hL2⟩:=hL;exact rdk (x3:=x3') i0 i1 (((xY.trans hW).nw f5).new fp λy hy e=>by omega) ⟨L,kp L hL1,hL2⟩ (λhg=>by obtain⟨g0,g1,g2,g3,g4⟩:=hG hg;exact⟨g0,g1,g2,g3,kp _ g4⟩) (r5.fr fp (by omega))
 refine⟨by omega,by omega,?_⟩;refine Ld_i 2 v2 I ?_;refine⟨by omega,by omega,?_⟩;refine Ld_i 3 v3 I ?_;by_cases c2:v2<8
 ·rw[aff c2,abt];exact fin Y.drew 0 0 false ⟨none,0,0⟩ 4 (by decide) (by decide) (Ext.refl _) ⟨[],iH.nil,by simp⟩ (λad h=>by cases h) λhg=>by have:=hg.len;have:=hg.size;omega
 rw[adX c2,aaf];by_cases c3:v2>(s.len:Int)
 ·rw[aff c3,abt];exact fin Y.drew 0 0 false ⟨none,0,0⟩ 3 (by decide) (by decide) (Ext.refl _) ⟨[],iH.nil,by simp⟩ (λad h=>by cases h) λhg=>by have:=hg.size;omega
 rw[adX c3,aaf];by_cases c4:v2<(s.len:Int)
 ·rw[aff c4,abt];exact fin Y.drew 0 0 false ⟨none,0,0⟩ 4 (by decide) (by decide) (Ext.refl _) ⟨[],iH.nil,by simp⟩ (λad h=>by cases h) λhg=>by have:=hg.size;omega
 rw[adX c4,aaf];intro J;have af:∀W,Ext Y.drew W->¬XU sa da l->J true W:=λW hW ag=>by
  simp only[J,abt];exact fin W 0 0 false ⟨none,0,0⟩ 5 (by decide) (by decide) hW ⟨[],iH.nil,by simp⟩ (λad h=>by cases h) λhg=>absurd hg ag
 have ac:∀W,Ext Y.drew W->J false W:=λW hW=>by
  simp only[J,aaf];have R:=(I.ext hW).drew;refine⟨by omega,by omega,?_⟩;refine Ld_i 0 v0 R ?_;refine⟨by omega,by omega,?_⟩;refine Ld_i 1 v1 R ?_;refine mY ((aa.ext hW).ext (Ext.drew W)) (by omega) (by omega) (by omega) λs9 hs9 _=> ?_;refine cmS2 (oG hs9 (by simp;omega)) ?_;rintro cd w5 ⟨bcd,_,f5,ncd⟩;have hr5:=R.ext f5;refine⟨by rw[show Int.toNat 1 * 1=1 from rfl,gY,hr5.cell];rfl,by rw[show Int.toNat 0 * 1=0 from rfl,gY,hr5.cell];rfl,?_⟩;have hzz:=(hW.trans (Ext.drew W)).size;have hYd2:Y.drew.heap.size=Y.heap.size:=rfl;have hWd2:W.drew.heap.size=W.heap.size:=rfl;refine fin w5 v0 v1 (v3==0) cd 0 j0 j1 ((hW.trans (Ext.drew W)).trans f5) ⟨_,iH.iM bcd,by simp;omega⟩ (λad ah=>by have:=ncd _ (bcd.at_eq ah);constructor<;>omega) λhg=>⟨rfl,h0,h1,?_,?_⟩
  ·have:=hg.own;rw[h3,amH];omega
  ·have e9:(l.take (s.len:Int).toNat).drop (8:Int).toNat=l.drop 8:=by
    rw[ali (by omega)];rfl
   have:=iH.iM bcd;rw[e9] at this;exact this
 clear_value J;by_cases hv3:v3=0
 ·have:(v3 !=0)=false:=by simp[hv3]
  rw[this,aaf];exact ac _ (Ext.refl _)
 ·have:(v3 !=0)=true:=by rw[amj];exact hv3
  rw[this,abt];refine cmS2 (KE sa da 17 v2 _) ?_;rintro ps w5 ⟨ai,f5⟩;have hpll:=DV sa da 17 v2;refine gU λm w6 r6 e6 z6 f6=> ?_;refine cmS0 (QJ (KD r6 (ai.ext f6) ((aa.ext f5).ext f6)) (by simp) (by simp;omega)) ?_;rintro rt w7 ⟨aj,f7⟩
  cases rt
  ·refine af w7 ((f5.trans f6).trans f7) λhg=> ?_;have h9:=amC aj.symm;apply h9;have e2:v2=(l.length:Int):=by rw[h2,hg.size]
   rw[e2];have:=hg.sum;simpa [sZ] using this
  ·exact ac w7 ((f5.trans f6).trans f7)
end
end Go.Proofs.AN
end
section
namespace Go.Proofs.AN
open Gp Gp.V4 Go.Proofs Go.Proofs.VN
open Gp.Bind (In64)
section
variable {w0 w w':θ}
theorem afK {W:θ} {b:Nat} {vs:List Value} (hr:Row W b vs) (hv:∀v∈vs,∀n,v≠.int .u8 n) {ad:Addr} {n:Int} (hc:W.cell? ad=some (.int .u8 n)):¬ad.block=b:=by
 intro e;obtain⟨T,hT⟩:=hr;obtain⟨bk,off,pth⟩:=ad;simp only at e;subst e;simp only[World.cell?,hT] at hc;split at hc
 ·cases hc
 ·rw[List.getElem?_toArray] at hc;exact hv _ (als hc) _ rfl
theorem aaW {W:θ} {a:Nat} {x0 x1 x2 x3 x4 x5 x6 x7:Int} {x8 x9:gG} {Q:Int->Int->Int->Int->Int->Int->Int->Int->gG->gG->Prop} (hr:Row W a (mQ x0 x1 x2 x3 x4 x5 x6 x7 x8 x9)) (hq:Q x0 x1 x2 x3 x4 x5 x6 x7 x8 x9):Bj W ⟨a,0,none⟩ Q:=by
 simp only[sx,hr.cell];exact hq
theorem KJ {W:θ} {a:Nat} {s:gG} {l:List UInt8} (hr:Row W a [Δ s]) (hs:iH W s l) (hl:l.length<=2^40) (i k:Int) (hk:k<=4) {K:Value->b_} (hK:∀n:Int,In64 n->(k=2->mW n)->K (Β n) W):
  jF υ [.one ν] (Value.func (.func WZ) #[] #[(Value.pointer (some ⟨a,0,none⟩))]) [Β i,Β k] W K:=by
 refine CN.kJ (by kernel_rfl) ?_;refine Calls.mono (VB (a0:=i) (a1:=k) (f0:=⟨a,0,none⟩) (w:=W) (K:=λn W'=>(In64 n/\(k=2->mW n))/\W'=W) ?_) ?_
 ·refine Ld_s 0 s hr ?_;refine cmS8 (P_ hs (by omega) i k) ?_;rintro n e w1 ⟨hw,hg⟩;exact⟨⟨Yf hg hk,λh2=>by subst h2;exact ahV hg⟩,hw⟩
 ·rintro e W' ⟨n,he,hn,rfl⟩;exact⟨n,he,hK n hn.1 hn.2⟩
theorem acT (sa da:Int) {s:gG} {l:List UInt8} (hs:iH w s l) (hl:l.length<=2^40) {K:Int->Int->Int->Int->Int->Int->Int->Int->gG->gG->Int->b_}
  (hK:∀a b c d e f g h i j r w',Ext w w'->mW a->mW b->(∃L:List UInt8,iH w' i L/\L.length<=2^40)->(∃L:List UInt8,iH w' j L/\L.length<=2^40)->K a b c d e f g h i j r w'):IG sa da s w K:=by
 apply ZW;refine⟨rfl,gU λa w1 r1 e1 z1 f1=> ?_⟩;refine gU λb w2 r2 e2 z2 f2=> ?_;have u:=r1.ext f2;have x2:=f1.trans f2;have hs2:=hs.ext x2;have hlen:=hs.1;have za:=f1.size;have fin:∀(W:θ) x0 x1 x2' x3 x4 x5 x6 x7 x8 x9 (r:Int),mW x0->mW x1->Ext w2 W->(∃L:List UInt8,iH W x8 L/\L.length<=2^40)->(∃L:List UInt8,iH W x9 L/\L.length<=2^40)->iE (mQ x0 x1 x2' x3 x4 x5 x6 x7 x8 x9) W ⟨b,0,none⟩ 0 λw9=>Bj w9 ⟨b,0,none⟩ λy0 y1 y2 y3 y4 y5 y6 y7 y8 y9=>K y0 y1 y2 y3 y4 y5 y6 y7 y8 y9 r w9:=by
  intro W x0 x1 x2' x3 x4 x5 x6 x7 x8 x9 r i0 i1 hW hL8 hL9;obtain⟨L8,g8,l8⟩:=hL8;obtain⟨L9,g9,l9⟩:=hL9;refine StN_f (r2.ext hW) λw9 r9 f9 z9=> ?_;refine aaW r9 ?_;exact hK _ _ _ _ _ _ _ _ _ _ r w9 ((x2.trans hW).nw f9) i0 i1 ⟨L8,g8.fr f9 λad ha h0 e=>jo (r2.ext hW) (by simp) g8 ha h0 e,l8⟩ ⟨L9,g9.fr f9 λad ha h0 e=>jo (r2.ext hW) (by simp) g9 ha h0 e,l9⟩
 have ld:∀{W:θ} {Q:gG->Prop},Ext w2 W->Q s->Ld .slice W ⟨a,0,none⟩ Q:=λhW hq=>Ld_s 0 s (u.ext hW) hq;refine ld (Ext.refl _) ?_;by_cases c1:(s.len:Int)<20
 ·rw[aff c1,abt];exact fin w2 0 0 0 0 0 0 0 0 ⟨none,0,0⟩ ⟨none,0,0⟩ 3 (by decide) (by decide) (Ext.refl _) ⟨[],iH.nil,by simp⟩ ⟨[],iH.nil,by simp⟩
 rw[adX c1,aaf];have R:=adP (show 12<l.length by omega);have af:=adP (show 13<l.length by omega);generalize l[12]=U at R;generalize l[13]=ag at af;refine ld (Ext.refl _) ?_;refine six (i:=12) hs2 R λa12 an=> ?_;refine iO (k:= .int .u8) (y:=(U.toNat:Int)) an ⟨by omega,?_⟩;generalize hhd:ο.wrap (ο.wrap (jR .u8 (U.toNat:Int) 4) * 4)=hd;by_cases c2:hd<20
 ·rw[aff c2,abt];exact fin w2 0 0 0 0 0 0 0 0 ⟨none,0,0⟩ ⟨none,0,0⟩ 4 (by decide) (by decide) (Ext.refl _) ⟨[],iH.nil,by simp⟩ ⟨[],iH.nil,by simp⟩
 rw[adX c2,aaf];refine ld (Ext.refl _) ?_;by_cases c3:hd>(s.len:Int)
 ·rw[aff c3,abt];exact fin w2 0 0 0 0 0 0 0 0 ⟨none,0,0⟩ ⟨none,0,0⟩ 3 (by decide) (by decide) (Ext.refl _) ⟨[],iH.nil,by simp⟩ ⟨[],iH.nil,by simp⟩
 rw[adX c3,aaf];refine ld (Ext.refl _) ?_;by_cases c4:(s.len:Int)>65535
 ·rw[aff c4,abt];exact fin w2 0 0 0 0 0 0 0 0 ⟨none,0,0⟩ ⟨none,0,0⟩ 6 (by decide) (by decide) (Ext.refl _) ⟨[],iH.nil,by simp⟩ ⟨[],iH.nil,by simp⟩
 rw[adX c4,aaf];refine ld (Ext.drew w2) (ld (Ext.drew w2) ?_);refine cmS2 (KE sa da 6 _ _) ?_;rintro ps w3 ⟨ao,f3⟩;have hpll:=DV sa da 6 (s.len:Int);have g3:=(Ext.drew w2).trans f3;refine⟨by rw[(u.ext g3).cell];rfl,?_⟩;refine gU λm w4 r4 e4 z4 f4=> ?_;have g4:=g3.trans f4;refine cmS0 (QJ (KD r4 (ao.ext f4) (hs2.ext g4)) (by simp) (by simp;omega)) ?_;rintro rt w5 ⟨_,f5⟩;have g5:=g4.trans f5
 cases rt
 ·exact fin w5 0 0 0 0 0 0 0 0 ⟨none,0,0⟩ ⟨none,0,0⟩ 5 (by decide) (by decide) g5 ⟨[],iH.nil,by simp⟩ ⟨[],iH.nil,by simp⟩
 rw[adt,aaf];have hs5:=hs2.ext g5;have N:=u.ext g5;refine KJ N hs5 hl 0 2 (by omega) λn0 _ in0=>⟨n0,rfl,?_⟩;refine KJ N hs5 hl 2 2 (by omega) λn1 _ in1=>⟨n1,rfl,?_⟩;refine KJ N hs5 hl 4 4 (by omega) λn2 _ in2=>⟨n2,rfl,?_⟩;refine KJ N hs5 hl 8 4 (by omega) λn3 _ in3=>⟨n3,rfl,?_⟩;refine gU λk w6 r6 e6 z6 f6=> ?_;refine StN_f r6 λw7 r7 f7 z7=> ?_;have ah:Ext w5 w7:=f6.nw f7;have g7:=(g5.trans ah).trans (Ext.drew w7);have hs7:=hs2.ext g7;have ai:=u.ext g7;refine ld g7 ?_;refine six (i:=12) hs7 R λp12 Y=> ?_;refine iO (k:= .int .u8) (y:=(U.toNat:Int)) Y (ld g7 ?_);refine six (i:=13) hs7 af λp13 I=> ?_;refine iO (k:= .int .u8) (y:=(ag.toNat:Int)) I ?_;have ca:∀{W:θ},Ext w2 W->W.cell? ⟨a,0,none⟩=some (Δ s):=λhW=>by rw[(u.ext hW).cell];rfl
 refine KJ ai hs7 hl 14 2 (by omega) λn4 _ in4=>⟨n4,rfl,I,ca g7,Y,ca g7,?_⟩;refine KJ ai hs7 hl 18 2 (by omega) λn5 _ in5=>⟨n5,rfl,I,ca g7,Y,ca g7,?_⟩;have r7d:=r7.drew;have g57:=g5.size;refine iC (i:=4) r7d rfl (by simp) λw8 r8 f8' z8=> ?_;have f8:ig w7.drew w8 (·=k):=f8' _ rfl;have zk:w5.heap.size<=k:=by omega
 have g8:Ext w2 w8:=(g5.trans (ah.trans (Ext.drew w7))).trans (Ext.refl _)|>.nw f8;have aq:w8.cell? p13=some (.int .u8 (ag.toNat:Int)):=Gu I f8 λe=>afK r7d (by simp) I e;refine⟨aq,ca g8,?_⟩;refine iC (i:=5) r8 rfl (by simp) λw9 r9 f9' z9=> ?_;have f9:ig w8 w9 (·=k):=f9' _ rfl;refine iC (i:=6) r9 rfl (by simp) λaj ar Z z10=> ?_;have f10:ig w9 aj (·=k):=Z _ rfl;refine iC (i:=7) ar rfl (by simp) λO ak aa z11=> ?_;have f11:ig aj O (·=k):=aa _ rfl;have g11:Ext w2 O:=((g8.nw f9).nw f10).nw f11;have g11d:=g11.trans (Ext.drew O);have hs11:=hs2.ext g11d;refine ld g11d ?_;refine mY hs11 (by omega) (by omega) (by omega) λs1 hs1 _=> ?_;refine ld g11d ?_;refine mY hs11 (by omega) (by omega) (by omega) λs2 hs2' _=> ?_;refine cmS2 (oG hs1 (by simp;omega)) ?_;rintro o1 w12 ⟨bo1,_,f12,no1⟩;have g12:=g11d.trans f12;refine⟨ca g12,?_⟩;refine cmS2 (oG (hs2'.ext f12) (by simp;omega)) ?_;rintro o2 au ⟨bo2,_,f13,no2⟩;have g13:=g12.trans f13;have rk13:=((ak.drew).ext f12).ext f13;refine iC (i:=8) rk13 rfl (by simp) λam av ab z14=> ?_;have f14:ig au am (·=k):=ab _ rfl;refine iC (i:=9) av rfl (by simp) λac J ae z15=> ?_;have f15:ig am ac (·=k):=ae _ rfl;simp only[af5,ahm] at J;have g15:Ext w2 ac:=(g13.nw f14).nw f15;refine aaW J ?_;have hkl:k<O.drew.heap.size:=ak.drew.lt;have z12:=f12.size;have ap1:∀b,gG.at o1 b->¬b=k:=λb hb e=>by have:=no1 b hb;omega
 have ap2:∀b,gG.at o2 b->¬b=k:=λb hb e=>by have:=no2 b hb;omega
 have B1:=((bo1.fr (f13 λ_=>False) (by simp)).fr f14 ap1).fr f15 ap1;have B2:=(bo2.fr f14 ap2).fr f15 ap2;exact fin ac _ _ _ _ _ _ _ _ _ _ 0 (in0 rfl) (in1 rfl) g15 ⟨_,iH.iM B1,by simp;omega⟩ ⟨_,iH.iM B2,by simp;omega⟩
end
end Go.Proofs.AN
end
section
namespace Go.Proofs.AN
open Gp Gp.V4 Go.Proofs Go.Proofs.VN
open Gp.Bind (In64)
section
variable {w0 w w':θ}
theorem rd3 {W:θ} {a:Nat} {x0 x1 x2:Int} {K:Int->Int->Int->b_} (hr:Row W a [Β x0,Β x1,Β x2]) (hq:K x0 x1 x2 W):
  Ld ν W (Addr.add ⟨a,0,none⟩ 0) λy0=>Ld ν W (Addr.add ⟨a,0,none⟩ 1) λy1=>Ld ν W (Addr.add ⟨a,0,none⟩ 2) λy2=>K y0 y1 y2 W:=
 Ld_i 0 x0 hr (Ld_i 1 x1 hr (Ld_i 2 x2 hr hq))
theorem aiD (l:List UInt8) (q:Bool):In64 (V4.read l q).proto/\In64 (V4.read l q).src/\In64 (V4.read l q).dst:=by
 unfold V4.read;split
 ·exact⟨Zv l 9 1 (by omega),Zv l 12 4 (by omega),Zv l 16 4 (by omega)⟩
 ·simp only[kZ.zero];decide
theorem aeT {l:List UInt8} (h:rO l true=0):20+(V4.read l true).opts.length+(V4.read l true).data.length<=l.length:=by
 unfold V4.read;rw[adZ h];have ho:nO l true=0:=by
  unfold rO at h;by_cases h0:nO l true=0
  ·exact h0
  ·rw[adZ h0] at h;exact absurd h h0
 have:=(Ut ho).2;unfold kZ.size at this;exact this
theorem Pn (s0:gG) (x0 x1 x2 x3 x4 x5 x6:Int) (x7 x8:Bool) (x9:gG) (h:Int) {d:gG} {m:List UInt8} (hd:iH w d m) (hm:m.length<=2^40) (i:Int):
  jZ s0 x0 x1 x2 x3 x4 x5 x6 x7 x8 x9 d h i w λn w'=>In64 n/\Ext w w':=by
 apply LK;refine gU λa w1 r1 e1 z1 f1=> ?_;refine iO (k:= .slice) (y:=d) (by rw[gY,gY,r1.cell];rfl) ?_;refine cmS8 (P_ (hd.ext f1) (by omega) i 2) ?_;rintro n e w2 ⟨hw,hg⟩;subst hw;exact⟨Yf hg (by omega),f1⟩
theorem aaT {s:gG} {l:List UInt8} (hs:iH w s l) (hl:l.length<=2^40) {K:gG->Int->Int->Int->Int->Int->Int->Int->Bool->Bool->gG->gG->Int->Int->b_}
  (hK:∀t i o l' p s' d' df mf op da hd e w' (m:List UInt8),Ext w w'->iH w' da m->m.length<=2^40->(e=0->8<=m.length)->In64 p->In64 s'->In64 d'->∀s0,(e=0->s0=s/\20<=hd/\hd+(m.length:Int)<=(l.length:Int))->K s0 t i o l' p s' d' df mf op da hd e w'):wZ s w K:=by
 apply Xr;refine gU λa w1 r1 e1 z1 f1=> ?_;have z:∀(W:θ) (e:Int),Ext w1 W->e≠0->iE (oI ⟨none,0,0⟩ 0 0 0 0 0 0 0 false false ⟨none,0,0⟩ ⟨none,0,0⟩ 0) W ⟨a,0,none⟩ 0 λJ=>uN J ⟨a,0,none⟩ λy0 y1 y2 y3 y4 y5 y6 y7 y8 y9 U Y Z=>K y0 y1 y2 y3 y4 y5 y6 y7 y8 y9 U Y Z e J:=by
  intro W e hW he;refine StN_f (r1.ext hW) λw2 r2 f2 z2=> ?_;refine QC r2 ?_;exact hK _ _ _ _ _ _ _ _ _ _ _ _ e w2 [] ((f1.trans hW).nw f2) iH.nil (by simp) (λh=>absurd h he) (by decide) (by decide) (by decide) _ (λh=>absurd h he)
 refine cmS11 (aeS (hs.ext f1) hl) ?_;rintro t i o l' p s' d' df mf op da e w2 ⟨aa,hP,f2⟩;have ab:=aaX l true;have u:=aiD l true;have N:= @aeT l;generalize V4.read l true=P at hP ab u N;obtain⟨rfl,rfl,rfl,rfl,rfl,rfl,rfl,rfl,rfl,O,R⟩:=hP;refine gU λb w3 r3 e3 z3 f3=> ?_;refine StN_f r3 λw4 r4 f4 z4=> ?_;have I:Ext w2 w4:=f3.nw f4;have g4:=f2.trans I;by_cases he:e=0;rotate_left
 ·have:(e !=0)=true:=by rw[amj];exact he
  rw[this,abt];exact z w4 e g4 he
 subst he;show cond false _ _;rw[aaf];refine Ld_i 2 P.off r4 ?_;by_cases c1:P.off>0
 ·rw[aff c1,abt];exact z w4 4 g4 (by omega)
 rw[adX c1,aaf];refine Ld_s 10 da r4 ?_;by_cases c2:(da.len:Int)<8
 ·rw[aff c2,abt];exact z w4 3 g4 (by omega)
 rw[adX c2,aaf];have r4d:=r4.drew;refine lu r4d (lu r4d ?_);have hd4:=(R.ext I).ext (Ext.drew w4);have ho4:=(O.ext I).ext (Ext.drew w4);refine cmS1 (adL _ _ _ _ _ _ _ _ _ _ _ (by have:=ho4.1;omega) _) ?_;rintro hd w5 ⟨hhd,f5⟩;have ac:=r4d.ext f5;refine Ij ac ?_;have g5:=(g4.trans (Ext.drew w4)).trans f5;refine StN_f (r1.ext g5) λw6 r6 f6 z6=> ?_;refine QC r6 ?_;have hd5:=hd4.ext f5;refine hK _ _ _ _ _ _ _ _ _ _ _ _ 0 w6 P.data ((f1.trans g5).nw f6) (hd5.fr f6 λad ha h0 e=>jo (r1.ext g5) (by simp) hd5 ha h0 e) (by omega) (λ_=>by have:=R.1;omega) u.1 u.2.1 u.2.2 _ (λ_=>⟨rfl,by omega,by have:=N aa.symm;have:=O.1;omega⟩)
theorem QB {s:gG} {l:List UInt8} (hs:iH w s l) (hl:l.length<=2^40) {K:Int->Int->Int->Int->Int->Int->Int->Bool->Bool->gG->gG->Int->Int->Int->Int->b_}
  (hK:∀t i o l' p s' d' df mf op da x y z e w',Ext w w'->In64 s'->In64 x->In64 y->In64 d'->In64 z->K t i o l' p s' d' df mf op da x y z e w'):vK s w K:=by
 apply Vk;refine gU λa w1 r1 e1 z1 f1=> ?_;refine gU λb w2 r2 e2 z2 f2=> ?_;have x2:=f1.trans f2;have I:=r1.ext f2;have za:=f1.size;have fin:∀(W:θ) (t i o l' p s' d':Int) (df mf:Bool) (op da:gG) (x y z e:Int),In64 s'->In64 x->In64 y->In64 d'->In64 z->Ext w2 W->
   iE (gX t i o l' p s' d' df mf op da) W ⟨a,0,none⟩ 0 λY=>iE [Β x,Β y,Β z] Y ⟨b,0,none⟩ 0 λh=>iG h ⟨a,0,none⟩ λy0 y1 y2 y3 y4 y5 y6 y7 y8 y9 Z=>
    Ld ν h (Addr.add ⟨b,0,none⟩ 0) λu0=>Ld ν h (Addr.add ⟨b,0,none⟩ 1) λu1=>Ld ν h (Addr.add ⟨b,0,none⟩ 2) λu2=>K y0 y1 y2 y3 y4 y5 y6 y7 y8 y9 Z u0 u1 u2 e h:=by
  intro W t i o l' p s' d' df mf op da x y z e i0 i1 i2 i3 i4 hW;refine StN_f (I.ext hW) λw3 r3 f3 z3=> ?_;refine StN_f ((r2.ext hW).fr f3 (by omega)) λw4 r4 f4 z4=> ?_;refine lu (r3.fr f4 (by omega)) ?_;refine rd3 (K:=λu0 u1 u2 W'=>K _ _ _ _ _ _ _ _ _ _ _ u0 u1 u2 e W') r4 ?_;exact hK _ _ _ _ _ _ _ _ _ _ _ _ _ _ e w4 (((x2.trans hW).nw f3).nw f4) i0 i1 i2 i3 i4
 refine aaT (hs.ext x2) hl λt i o l' p s' d' df mf op da hd e w3 m f3 aa hm hm8 ip is idd s0 _=> ?_;refine gU λg w4 r4 e4 z4 f4=> ?_;refine StN_f r4 λw5 r5 f5 z5=> ?_;have O:Ext w3 w5:=f4.nw f5;have g5:=f3.trans O;by_cases he:e=0;rotate_left
 ·have:(e !=0)=true:=by rw[amj];exact he
  rw[this,abt];exact fin w5 0 0 0 0 0 0 0 false false ⟨none,0,0⟩ ⟨none,0,0⟩ 0 0 0 e (by decide) (by decide) (by decide) (by decide) (by decide) g5
 subst he;show cond false _ _;rw[aaf];refine QC r5 ?_;have qp:∀{K2:Int->Int->Int->Int->b_},(∀x y z e W,Ext w5 W->In64 x->In64 y->In64 z->K2 x y z e W)->tV s0 t i o l' p s' d' df mf op da hd w5 K2:=by
  intro K2 hK2;have hd5:=aa.ext O;apply H9;refine gU λa' w6 r6 e6 z6 f6=> ?_;refine gU λb' w7 r7 e7 z7 f7=> ?_;have u:=r6.ext f7;have R:=f6.trans f7;have zb:=f6.size;have fin2:∀(W:θ) (x y z e:Int),In64 x->In64 y->In64 z->Ext w7 W->iE [Β x,Β y,Β z] W ⟨b',0,none⟩ 0 λw8=>Ld ν w8 (Addr.add ⟨b',0,none⟩ 0) λy0=>Ld ν w8 (Addr.add ⟨b',0,none⟩ 1) λy1=>Ld ν w8 (Addr.add ⟨b',0,none⟩ 2) λy2=>K2 y0 y1 y2 e w8:=by
   intro W x y z e i0 i1 i2 hW;refine gZ (r7.ext hW) rfl rfl λw8 r8 f8' z8=> ?_;have f8:ig W w8 (·=b'):=f8' _ rfl;refine rd3 (K:=λu0 u1 u2 W'=>K2 u0 u1 u2 e W') r8 ?_;exact hK2 _ _ _ _ _ ((R.trans hW).new f8 λy hy e=>by omega) i0 i1 i2
  intro J;have hJ:∀W,Ext w7 W->J W:=λW hW=>by
   simp only[J];exact fin2 W 0 0 0 8 (by decide) (by decide) (by decide) hW
  clear_value J;have h7d:=hd5.ext R;refine iO (k:= .int .i64) (y:=p) (by rw[gY,gY,u.cell];rfl) ?_;have r67d:=u.drew;intro J2;have hJ2t:J2 true:=by
   simp only[J2,abt];refine iO (k:= .int .i64) (y:=p) (by rw[gY,gY,r67d.cell];rfl) ?_;refine QC r67d (QC r67d ?_);refine cmS1 (Pn _ _ _ _ _ _ _ _ _ _ _ _ (h7d.ext (Ext.drew w7)) hm 0) ?_;rintro n1 w8 ⟨in1,f8⟩;have r8:=r67d.ext f8;refine Ij r8 ⟨by rw[gY,gY,r8.cell];rfl,?_⟩;refine cmS1 (Pn _ _ _ _ _ _ _ _ _ _ _ _ ((h7d.ext (Ext.drew w7)).ext f8) hm 2) ?_;rintro n2 w9 ⟨in2,f9⟩;refine⟨by rw[gY,gY,(r8.ext f9).cell];rfl,?_⟩;exact fin2 w9 _ _ _ 0 ip in1 in2 (((Ext.drew w7).trans f8).trans f9)
  have hJ2f:J2 false:=by
   simp only[J2,aaf]
   cases (p==1)
   ·exact hJ w7 (Ext.refl _)
   rw[abt];refine iO (k:= .slice) (y:=da) (by rw[gY,gY,u.cell];rfl) ?_;have b0:=adP (show 0<m.length by have:=hm8 rfl;omega);generalize m[0]=u0 at b0;refine six (i:=0) h7d b0 λa0 h0=> ?_;refine iO (k:= .int .u8) (y:=(u0.toNat:Int)) h0 ?_;refine cmS0 (aaU _ _) ?_;rintro qr w8 f8
   cases qr
   ·exact hJ w8 f8
   rw[abt];have r8:=(u.ext f8).drew;have h8:=(h7d.ext f8).ext (Ext.drew w8);refine QC r8 (QC r8 ?_);refine cmS1 (Pn _ _ _ _ _ _ _ _ _ _ _ _ h8 hm 4) ?_;rintro n1 w9 ⟨in1,f9⟩;refine Ij (r8.ext f9) ?_;refine cmS1 (Pn _ _ _ _ _ _ _ _ _ _ _ _ (h8.ext f9) hm 4) ?_;rintro n2 N ⟨in2,f10⟩;exact fin2 N _ _ _ 0 (by decide) in1 in2 (((f8.trans (Ext.drew w8)).trans f9).trans f10)
  clear_value J2;have hJ2:∀q,J2 q:=λq=>by cases q;exact hJ2f;exact hJ2t
  cases (p==6)
  ·exact hJ2 _
  ·exact hJ2 _
 refine qp λx y z e2 w6 f6 ix iy iz=> ?_;have g6:=g5.trans f6;have ab:=r5.ext f6;refine gU λk w7 r7 e7 z7 f7=> ?_;refine StN_f r7 λw8 r8 f8 z8=> ?_;have U:Ext w6 w8:=f7.nw f8;have g8:=g6.trans U
 cases (e2 !=0)
 rotate_left
 ·exact fin w8 0 0 0 0 0 0 0 false false ⟨none,0,0⟩ ⟨none,0,0⟩ 0 0 0 e2 (by decide) (by decide) (by decide) (by decide) (by decide) g8
 rw[aaf];have ac:=(ab.ext U).drew;have r8d:=r8.drew;have g8d:=g8.trans (Ext.drew w8);have rdw:∀{Q:Int->Int->Int->Int->Int->Int->Int->Bool->Bool->gG->gG->Prop},Q t i o l' p s' d' df mf op da->iG w8.drew (Addr.add ⟨g,0,none⟩ 1) Q:=by
  intro Q hQ;rw[gY];simp only[sx,ac.cell];exact hQ
 refine rdw ?_;refine Ld_i 0 x r8d (Ld_i 1 y r8d (Ld_i 2 z r8d ?_));have ha2:a<w2.heap.size:=I.lt;have hb2:b<w2.heap.size:=r2.lt;have z8:=(g6.trans (Ext.refl _)).size;refine StN_f (I.ext g8d) λw9 r9 f9 z9=> ?_;have r8e:=r8d.fr f9 (by omega);refine⟨by rw[gY,r8e.cell];rfl,by rw[gY,r8e.cell];rfl,by rw[gY,r8e.cell];rfl,?_⟩;refine StN_f ((r2.ext g8d).fr f9 (by omega)) λN ae f10 z10=> ?_;refine lu (r9.fr f10 (by omega)) ?_;refine rd3 (K:=λu0 u1 u2 W'=>K _ _ _ _ _ _ _ _ _ _ _ u0 u1 u2 0 W') ae ?_;exact hK _ _ _ _ _ _ _ _ _ _ _ _ _ _ 0 N (((x2.trans g8d).nw f9).nw f10) is ix iy idd iz
end
end Go.Proofs.AN
end
section
namespace Go.Proofs.AN
open Gp Gp.V4 Go.Proofs Go.Proofs.VN
open Gp.Bind (In64)
section
variable {w0 w w':θ}
abbrev shP:List Shape:=[.agg [ν,ν,ν]]
theorem ah4 (v:Value) (w:θ) (K:Int->Int->Int->b_):MK υ (.iface 303 v) "goosepond/ports.ports" [] shP w K=gI υ 350 [v] shP w K:=by kernel_rfl
theorem ah7 (v:Value) (w:θ) (K:Int->Int->Int->b_):MK υ (.iface 309 v) "goosepond/ports.ports" [] shP w K=gI υ 357 [v] shP w K:=by kernel_rfl
theorem ah5 (v:Value) (w:θ) (K:Int->Int->Int->b_):MK υ (.iface 311 v) "goosepond/ports.ports" [] shP w K=gI υ 365 [v] shP w K:=by kernel_rfl
def Pay (pr:Int) (q:Int->Int->Prop) (v:Value):Prop:=∀(w:θ) (K:Int->Int->Int->b_),(∀y z w',Ext w w'->mW y->mW z->q y z->K pr y z w')->MK υ v "goosepond/ports.ports" [] shP w K
theorem aiv (a0 a1:Int) (a2:Bool) (a3:gG) (i0:mW a0) (i1:mW a1):Pay 17 (λy z=>y=a0/\z=a1) (.iface 303 (.agg ⟨[Β a0,Β a1,.bool a2,Δ a3]⟩)):=by
 intro w K hK;rw[ah4];apply E_;refine gU λa w1 r1 e1 z1 f1=> ?_;refine gU λb w2 r2 e2 z2 f2=> ?_;have h:=r1.ext f2;have za:=f1.size;have zb:=f2.size;refine Ld_i 0 a0 h (Ld_i 1 a1 h ?_);refine StN_f r2 λw3 r3 f3 z3=> ?_;exact rd3 (K:=K) r3 (hK _ _ w3 ((f1.trans f2).nw f3) i0 i1 ⟨rfl,rfl⟩)
theorem aix (a0 a1 a2 a3 a4 a5 a6 a7:Int) (a8 a9:gG) (i0:mW a0) (i1:mW a1):Pay 6 (λ_ _=>True) (.iface 309 (.agg ⟨mQ a0 a1 a2 a3 a4 a5 a6 a7 a8 a9⟩)):=by
 intro w K hK;rw[ah7];apply GU;refine gU λa w1 r1 e1 z1 f1=> ?_;refine gU λb w2 r2 e2 z2 f2=> ?_;have h:=r1.ext f2;have za:=f1.size;have zb:=f2.size;refine Ld_i 0 a0 h (Ld_i 1 a1 h ?_);refine StN_f r2 λw3 r3 f3 z3=> ?_;exact rd3 (K:=K) r3 (hK _ _ w3 ((f1.trans f2).nw f3) i0 i1 trivial)
theorem aiw (a0 a1 a2:Int) (a3:gG):Pay 1 (λ_ _=>True) (.iface 311 (.agg ⟨[Β a0,Β a1,Β a2,Δ a3]⟩)):=by
 intro w K hK;rw[ah5];apply Ju;refine gU λa w1 r1 e1 z1 f1=> ?_;refine gU λb w2 r2 e2 z2 f2=> ?_;have h:=r1.ext f2;have za:=f1.size;have zb:=f2.size;refine Yx (K:=λx6 x7 x8 x9 W=>_) h ?_;apply acz;refine gU λc w3 r3 e3 z3 f3=> ?_;have zc:=f3.size;refine Ld_i 2 a2 r3 ⟨by omega,?_⟩;refine StN_f (r2.ext f3) λw4 r4 f4 z4=> ?_;exact rd3 (K:=K) r4 (hK _ _ w4 (((f1.trans f2).trans f3).nw f4) (afx _) (afx _) trivial)
def rC (p:kZ):Prop:=p.proto=17/\p.check=0/\p.mf=false/\p.off<=0/\XU p.src p.dst p.data
abbrev WA (w:θ) (s:gG):Prop:=∃L:List UInt8,iH w s L/\L.length<=2^40
theorem WA.ext {s:gG} (h:WA w s) (hf:Ext w w'):WA w' s:=by
 obtain⟨L,h1,h2⟩:=h;exact⟨L,h1.ext hf,h2⟩
inductive Form (w:θ) (p:kZ) (v:Value):Prop
 |dat (a0 a1:Int) (a2:Bool) (a3:gG) (h:p.proto=17) (hv:v= .iface 303 (.agg ⟨[Β a0,Β a1,.bool a2,Δ a3]⟩)) (i0:mW a0) (i1:mW a1) (hb:WA w a3) (hg:rC p->a0=(wordAt p.data 0:Int)/\a1=(wordAt p.data 2:Int)/\a2=false/\iH w a3 (p.data.drop 8))
 |seg (a0 a1 a2 a3 a4 a5 a6 a7:Int) (a8 a9:gG) (h:p.proto=6) (hv:v= .iface 309 (.agg ⟨mQ a0 a1 a2 a3 a4 a5 a6 a7 a8 a9⟩)) (i0:mW a0) (i1:mW a1) (hb8:WA w a8) (hb9:WA w a9)
 |que (a0 a1 a2:Int) (a3:gG) (h:p.proto=1) (hv:v= .iface 311 (.agg ⟨[Β a0,Β a1,Β a2,Δ a3]⟩)) (hb:WA w a3)
theorem Pay.mono {pr:Int} {q q':Int->Int->Prop} {v:Value} (h:Pay pr q v) (hq:∀y z,q y z->q' y z):Pay pr q' v:=λw K hK=>h w K λy z w' f i j k=>hK y z w' f i j (hq y z k)
theorem Form.pay {p:kZ} {v:Value} (h:Form w p v):Pay p.proto (λy z=>rC p->y=(wordAt p.data 0:Int)/\z=(wordAt p.data 2:Int)) v:=by
 cases h with
 |dat a0 a1 a2 a3 h hv i0 i1 hb hg=>rw[h,hv];exact(aiv _ _ _ _ i0 i1).mono λy z hq g=>by obtain⟨g0,g1,_⟩:=hg g;exact⟨hq.1.trans g0,hq.2.trans g1⟩
 |seg a0 a1 a2 a3 a4 a5 a6 a7 a8 a9 h hv i0 i1 hb8 hb9=>rw[h,hv];exact(aix _ _ _ _ _ _ _ _ _ _ i0 i1).mono λy z _ g=>by have:=g.1;omega
 |que a0 a1 a2 a3 h hv hb=>rw[h,hv];exact(aiw _ _ _ _).mono λy z _ g=>by have:=g.1;omega
theorem Form.pr {p:kZ} {v:Value} (h:Form w p v):p.proto=1\/p.proto=6\/p.proto=17:=by
 cases h with
 |dat a0 a1 a2 a3 h=>exact .inr (.inr h)
 |seg a0 a1 a2 a3 a4 a5 a6 a7 a8 a9 h=>exact .inr (.inl h)
 |que a0 a1 a2 a3 h=>exact .inl h
theorem NY (x0 x1 x2 x3 x4 x5 x6:Int) (x7 x8:Bool) (x9 u:gG) (w:θ):BQ x0 x1 x2 x3 x4 x5 x6 x7 x8 x9 u w λr w'=>r=(!x8 && decide (x2<=0))/\Ext w w':=by
 apply aaL;refine gU λa w1 r1 e1 z1 f1=> ?_;intro J;have hJ:∀q,q=(!x8 && decide (x2<=0))->J q:=λq h=>⟨h,f1⟩;clear_value J;refine Ld_b 8 x8 r1 ?_
 cases x8
 ·exact Ld_i 2 x2 r1 (hJ _ (by simp))
 ·exact hJ _ rfl
theorem NS (p:kZ) {o d:gG} (ho:iH w o p.opts) (hd:iH w d p.data) (h1:p.opts.length<=2^40) (h2:p.data.length<=2^40) {K:Value->Int->b_}
  (hK:∀v e w',Ext w w'->(e=0->Form w' p v)->(rC p->e=0)->K v e w'):
  tN p.tos p.id p.off p.ttl p.proto p.src p.dst p.df p.mf o d w K:=by
 apply RZ;refine gU λa w1 r1 e1 z1 f1=> ?_;refine lu r1 ?_;refine cmS1 (Ol p (ho.ext f1).1 (hd.ext f1).1 (by omega) (by omega)) ?_;rintro ce w2 ⟨U,f2⟩;have x2:=f1.trans f2;by_cases hc:ce=0;rotate_left
 ·have:(ce !=0)=true:=by rw[amj];exact hc
  rw[this,abt];exact hK _ ce w2 x2 (λh=>absurd h hc) λg=>by rw[U];exact g.2.1
 subst hc;show cond false _ _;rw[aaf];have O:=r1.ext f2;refine lu O ?_;refine cmS0 (NY _ _ _ _ _ _ _ _ _ _ _ _) ?_;rintro wh w3 ⟨R,f3⟩;have x3:=x2.trans f3;have u:=O.ext f3
 cases wh
 ·exact hK _ 4 w3 x3 (λh=>by cases h) λg=>by obtain⟨_,_,g2,g3,_⟩:=g;rw[g2,aff g3] at R;cases R
 rw[adt,aaf];have hd3:=hd.ext x3;refine Ld_i 4 p.proto u ?_;by_cases I:p.proto=17
 ·have:(p.proto==17)=true:=by simpa using I
  rw[this,abt];refine Ld_i 5 p.src u (Ld_i 6 p.dst u (Ld_s 10 d u ?_));refine acV _ _ hd3 h2 λu0 u1 u2 u3 e w4 f4 j0 j1 hb hG=> ?_;refine gU λb w5 r5 e5 z5 f5=> ?_;refine StN_f r5 λw6 r6 f6 z6=> ?_;have x6:Ext w4 w6:=f5.nw f6;refine Ld_i 0 u0 r6 (Ld_i 1 u1 r6 (Ld_b 2 u2 r6 (Ld_s 3 u3 r6 ?_)));exact hK _ e w6 ((x3.trans f4).trans x6) (λ_=> .dat _ _ _ _ I rfl j0 j1 (WA.ext hb x6) λg=>by obtain⟨_,g1,g2,g3,g4⟩:=hG g.2.2.2.2;exact⟨g1,g2,g3,g4.ext x6⟩) λg=>(hG g.2.2.2.2).1
 have:(p.proto==17)=false:=by simpa using I
 rw[this,aaf];by_cases p6:p.proto=6
 ·have:(p.proto==6)=true:=by simpa using p6
  rw[this,abt];refine Ld_i 5 p.src u (Ld_i 6 p.dst u (Ld_s 10 d u ?_));refine acT _ _ hd3 h2 λu0 u1 u2 u3 u4 u5 u6 u7 u8 u9 e w4 f4 j0 j1 hb8 hb9=> ?_;refine gU λb w5 r5 e5 z5 f5=> ?_;refine StN_f r5 λw6 r6 f6 z6=> ?_;have x6:Ext w4 w6:=f5.nw f6;refine aaW r6 ?_;exact hK _ e w6 ((x3.trans f4).trans x6) (λ_=> .seg _ _ _ _ _ _ _ _ _ _ p6 rfl j0 j1 (WA.ext hb8 x6) (WA.ext hb9 x6)) λg=>absurd g.1 I
 have:(p.proto==6)=false:=by simpa using p6
 rw[this,aaf];by_cases p1:p.proto=1;rotate_left
 ·have:(p.proto==1)=false:=by simpa using p1
  rw[this,aaf];exact hK _ 8 w3 x3 (λh=>by cases h) λg=>absurd g.1 I
 have:(p.proto==1)=true:=by simpa using p1
 rw[this,abt];refine Ld_s 10 d u ?_;refine UE hd3 h2 λu0 u1 u2 u3 e w4 m f4 hm Y=> ?_;refine gU λb w5 r5 e5 z5 f5=> ?_;refine StN_f r5 λw6 r6 f6 z6=> ?_;have x6:Ext w4 w6:=f5.nw f6;have g6:=(x3.trans f4).trans x6;intro J;have hJ:∀e W,Ext w6 W->J e W:=λe W hW=>by
  simp only[J];refine Yx (K:=λZ aa ab N W'=>K (Value.iface 311 (Value.agg ⟨[Β Z,Β aa,Β ab,Δ N]⟩)) e W') (r6.ext hW) ?_;exact hK _ e W (g6.trans hW) (λ_=> .que _ _ _ _ p1 rfl ⟨m,(hm.ext x6).ext hW,Y⟩) λg=>absurd g.1 I
 clear_value J;intro J2;have hJ2:∀q W,Ext w6 W->J2 q W:=λq W hW=>by
  simp only[J2]
  cases q
  ·exact hJ _ W hW
  ·exact hJ _ W hW
 clear_value J2
 cases (e==0)
 ·exact hJ2 _ _ (Ext.refl _)
 ·rw[abt];refine Ld_i 0 u0 r6 ?_;refine cmS0 (aaU _ _) ?_;rintro qr w7 f7;exact hJ2 _ _ f7
theorem agW (p:kZ) {o d:gG} (ho:iH w o p.opts) (hd:iH w d p.data) (h1:p.opts.length<=2^40) (h2:p.data.length<=2^40):
  FZ p.tos p.id p.off p.ttl p.proto p.src p.dst p.df p.mf o d w λx y z e w'=>(mW y/\mW z/\(e=0->x=p.proto/\(p.proto=1\/p.proto=6\/p.proto=17))/\(rC p->e=0/\y=(wordAt p.data 0:Int)/\z=(wordAt p.data 2:Int)))/\Ext w w':=by
 apply aaC;refine gU λa w1 r1 e1 z1 f1=> ?_;refine gU λb w2 r2 e2 z2 f2=> ?_;have x2:=f1.trans f2;have za:=f1.size;have zb:=f2.size;refine lu (r1.ext f2) ?_;refine NS p (ho.ext x2) (hd.ext x2) h1 h2 λv e w3 f3 hp hG=> ?_;have x3:=x2.trans f3;by_cases he:e=0;rotate_left
 ·have:(e !=0)=true:=by rw[amj];exact he
  rw[this,abt];refine StN_f (r2.ext f3) λw4 r4 f4 z4=> ?_;exact rd3 (K:=λx y z W=>(mW y/\mW z/\(e=0->x=p.proto/\(p.proto=1\/p.proto=6\/p.proto=17))/\(rC p->e=0/\y=(wordAt p.data 0:Int)/\z=(wordAt p.data 2:Int)))/\Ext w W) r4 ⟨⟨by decide,by decide,λh=>absurd h he,λg=>absurd (hG g) he⟩,x3.nw f4⟩
 subst he;show cond false _ _;rw[aaf];refine(hp rfl).pay w3 _ λy z w4 f4 iy iz hq=> ?_;refine StN_f ((r2.ext f3).ext f4) λw5 r5 f5 z5=> ?_;exact rd3 (K:=λx y z W=>(mW y/\mW z/\((0:Int)=0->x=p.proto/\(p.proto=1\/p.proto=6\/p.proto=17))/\(rC p->(0:Int)=0/\y=(wordAt p.data 0:Int)/\z=(wordAt p.data 2:Int)))/\Ext w W) r5 ⟨⟨iy,iz,λ_=>⟨rfl,(hp rfl).pr⟩,λg=>⟨rfl,hq g⟩⟩,(x3.trans f4).nw f5⟩
end
end Go.Proofs.AN
end
section
namespace Go.Proofs.AN
open Gp Gp.V4 Go.Proofs Go.Proofs.VN
open Gp.Bind (In64)
section
variable {w0 w w':θ}
theorem Yn (p:kZ) {o d:gG} (ho:iH w o p.opts) (hd:iH w d p.data) (h1:p.opts.length<=2^40) (h2:p.data.length<=2^40):
  Aw p.tos p.id p.off p.ttl p.proto p.src p.dst p.df p.mf o d w λr w'=>r=(decide (p.check=0) && (!p.mf && decide (p.off<=0)))/\Ext w w':=by
 apply Xk;refine gU λa w1 r1 e1 z1 f1=> ?_;intro J;refine lu r1 ?_;refine cmS1 (Ol p (ho.ext f1).1 (hd.ext f1).1 (by omega) (by omega)) ?_;rintro ce w2 ⟨h,f2⟩;subst h;by_cases hc:p.check=0;rotate_left
 ·have:(p.check==0)=false:=by simp_all
  rw[this,aaf];exact⟨by simp[hc],f1.trans f2⟩
 ·have:(p.check==0)=true:=by simp_all
  rw[this,abt];refine lu (r1.ext f2) ?_;refine cmS0 (NY _ _ _ _ _ _ _ _ _ _ _ _) ?_;rintro wh w3 ⟨rfl,f3⟩;exact⟨by simp[hc],(f1.trans f2).trans f3⟩
theorem KG (a b:Int) (q:Bool) (w:θ):mF a b q w λ_ w'=>Ext w w':=by
 apply Qw;refine gU λp w1 r1 e1 z1 f1=> ?_
 cases q
 ·exact iF r1 rfl f1
 ·exact iF r1 rfl f1
theorem agQ (s:Int) (q:Bool) (w:θ):Eo s q w λ_ w'=>Ext w w':=by
 apply VA;intro J;have hJ:∀b,J b:=by
  intro b;simp only[J]
  cases b
  ·rw[aaf]
   cases (s==1)
   ·rw[aaf]
    cases (s==2)
    ·exact Ext.refl _
    ·exact cmS1 (KG _ _ _ _) λ_ _ h=>h
   ·exact cmS1 (KG _ _ _ _) λ_ _ h=>h
  ·exact cmS1 (KG _ _ _ _) λ_ _ h=>h
 clear_value J
 cases (s==0)
 ·exact hJ _
 ·exact hJ _
theorem aem (s:Int) (q:Bool) (w:θ):BP s q w λ_ w'=>Ext w w':=by
 apply Sl
 cases (s==3)
 ·rw[aaf]
  cases (s==4)
  ·rw[aaf]
   cases (s==5)
   ·exact Ext.refl _
   ·exact cmS1 (KG _ _ _ _) λ_ _ h=>h
  ·exact cmS1 (KG _ _ _ _) λ_ _ h=>h
 ·exact cmS1 (KG _ _ _ _) λ_ _ h=>h
theorem aij (s:Int) (q:Bool) (fl:Int) (w:θ):Gm s q fl w λ_ _ w'=>Ext w w':=by
 apply XF;intro J;have hJ:∀b,J b:=by
  intro b;simp -zeta only[J]
  cases b
  rotate_left
  ·exact Ext.refl _
  rw[aaf];intro J6;have h6:∀b W,Ext w W->J6 b W:=by
   intro b W hx;simp -zeta only[J6]
   cases b
   rotate_left
   ·exact hx
   rw[aaf]
   cases ((lZ .i64 fl 4) !=0)
   rotate_left
   ·exact hx
   rw[aaf];intro J9;have h9:∀W,Ext w W->J9 W:=by
    intro W hx;simp only[J9]
    cases ((lZ .i64 fl 1) !=0)
    ·exact hx
    ·exact cmS1 (aem _ _ _) λ_ _ h=>hx.trans h
   clear_value J9;apply Hf
   cases ((lZ .i64 fl 6)==2)
   ·exact h9 W hx
   ·rw[abt];refine cmS1 (agQ _ _ _) ?_;intro r W2 h2
    cases (r !=s)
    ·exact h9 W2 (hx.trans h2)
    ·exact hx.trans h2
  clear_value J6
  cases (s==0)
  ·exact h6 _ _ (Ext.refl _)
  ·rw[abt];apply Hf;exact h6 _ _ (Ext.refl _)
 clear_value J
 cases (decide (s<0))
 ·exact hJ _
 ·exact hJ _
theorem ahp {t:TypeId} {v:Value} {Kt:Value->Prop} {Kf:Prop} (h:Kt v):AsT t (.iface t v) Kt Kf:=by
 show cond (Nat.beq t t) (Kt v) Kf;have:=Nat.beq_refl t;rw[this];exact h
theorem af9 (p:kZ) {o d:gG} (ho:iH w o p.opts) (hd:iH w d p.data) (h1:p.opts.length<=2^40) (h2:p.data.length<=2^40):
  Ec p.tos p.id p.off p.ttl p.proto p.src p.dst p.df p.mf o d w λ_ w'=>Ext w w':=by
 apply Vh;refine gU λa w1 r1 e1 z1 f1=> ?_;refine lu r1 ?_;refine NS p (ho.ext f1) (hd.ext f1) h1 h2 λv e w3 f3 hp _=> ?_;have x3:=f1.trans f3;by_cases he:e=0;rotate_left
 ·have:(e !=0)=true:=by simp_all
  rw[this,abt];exact x3
 subst he;show cond false _ _;rw[aaf];have out:∀(W:θ),Ext w W->Al W (.cells ⟨mQ 0 0 0 0 0 0 0 0 ⟨none,0,0⟩ ⟨none,0,0⟩⟩ 309) λa24 u=>iE (mQ 0 0 0 0 0 0 0 0 ⟨none,0,0⟩ ⟨none,0,0⟩) u a24 0 λI=>Ext w I:=by
  intro W hx;refine gU λb w4 r4 e4 z4 f4=> ?_;refine gZ r4 rfl rfl λw5 r5 f5 z5=> ?_;have:=hx.size;exact(hx.trans f4).new (f5 (·=b) rfl) λy hy e=>by omega
 cases hp rfl with
 |dat a0 a1 a2 a3 h hv=>
  subst hv;exact out w3 x3
 |que a0 a1 a2 a3 h hv=>
  subst hv;exact out w3 x3
 |seg a0 a1 a2 a3 a4 a5 a6 a7 a8 a9 h hv=>
  subst hv;refine ahp ?_;refine gU λb w4 r4 e4 z4 f4=> ?_;show iE (mQ a0 a1 a2 a3 a4 a5 a6 a7 a8 a9) w4 _ 0 _;refine gZ r4 rfl rfl λw5 r5 f5 z5=> ?_;have:=x3.size;exact iF r5 rfl ((x3.trans f4).new (f5 (·=b) rfl) λy hy e=>by omega)
theorem step_ok (b0:Int) (b1:Bool) (b2:Int) (b3:Bool) (b4 b5 b6:Int) (p:kZ) {o d:gG} (ho:iH w o p.opts) (hd:iH w d p.data) (h1:p.opts.length<=2^40) (h2:p.data.length<=2^40) (q:Bool):
  Dl b0 b1 b2 b3 b4 b5 b6 p.tos p.id p.off p.ttl p.proto p.src p.dst p.df p.mf o d q w λnx ok w'=>(p.proto≠6->nx=0/\ok=true)/\Ext w w':=by
 apply ZG;refine gU λa w1 r1 e1 z1 f1=> ?_;refine gU λb w2 r2 e2 z2 f2=> ?_;have x2:=f1.trans f2;refine iF r2 rfl ?_;by_cases h6:p.proto=6;rotate_left
 ·have:(p.proto !=6)=true:=by simp_all
  rw[this,abt]
  grind
 have:(p.proto !=6)=false:=by simp[h6]
 rw[this,aaf];have xd:=x2.trans (Ext.drew w2);have r1d:=(r1.ext f2).drew;refine iF r1d rfl ?_;refine lu r2.drew ?_;refine cmS1 (af9 p (ho.ext xd) (hd.ext xd) h1 h2) ?_;intro fl w3 f3;refine⟨by rw[gY,(r1d.ext f3).cell];rfl,?_⟩;refine cmS3 (aij _ _ _ _) ?_;intro nx ok w4 f4;exact⟨λh=>absurd h6 h,(xd.trans f3).trans f4⟩
theorem abI (p:kZ) {o d:gG} (hd:iH w d p.data) (h2:p.data.length<=2^40):
  BJ p.tos p.id p.off p.ttl p.proto p.src p.dst p.df p.mf o d w λr w'=>(p.proto≠1->r=false)/\Ext w w':=by
 apply RY;refine gU λa w1 r1 e1 z1 f1=> ?_;intro J;have hJ:∀q,(p.proto≠1->q=false)->J q:=λq h=>⟨h,f1⟩;clear_value J;refine iF r1 rfl ?_;by_cases hp:p.proto=1;rotate_left
 ·have:(p.proto==1)=false:=by simp_all
  rw[this,aaf];exact hJ _ λ_=>rfl
 have:(p.proto==1)=true:=by simp_all
 rw[this,abt];refine iF r1 rfl ?_;by_cases hl:(d.len:Int)>0;rotate_left
 ·rw[adX hl,aaf];exact hJ _ λ_=>rfl
 rw[aff hl,abt];refine iF r1 rfl ?_;have hd1:=hd.ext f1;have hlen:=hd1.1;refine six hd1 (adP (show 0<p.data.length by omega)) λad hc=> ?_;exact iO hc (hJ _ λh=>absurd hp h)
end
end Go.Proofs.AN
end
section
namespace Go.Proofs.EN
open Gp Gp.V4 Go.Proofs Go.Proofs.AN Go.Proofs.VN
open Gp.Bind (Bnd Slots live GoodB freeN getS In64)
open Gp.Ses (Ses)
variable {w w':θ} {a:EA} {c:Cf} {e:ES}
structure Flow (c:Cf) (e e':ES) (sw pr ad po ra rp bd sid:Int) (kn:Bool):Prop where
 bnd:∃(j:Nat) (b:Bnd),bd=(j:Int)/\e'.S[j]? =some (some b)/\b.sw=sw/\b.pr=pr/\b.ad=ad/\b.po=po
 ses:(kn=true/\∃(k:Nat) (s0:Ses),sid=(k:Int)/\e'.SS[k]? =some (some s0)/\s0.bd=bd/\s0.ra=ra/\s0.rp=rp)\/
  (kn=false/\e'.M (Bind.keyS [bd,ra,rp])=none/\((Gp.Ses.live 0 e'.SS).length:Int)<c.ns)
 was:(e'=e/\e.Mi (Bind.keyS [sw,pr,ad,po])=some bd)\/(e.Mi (Bind.keyS [sw,pr,ad,po])=none/\kn=false/\∃(i:Nat) (o:PN.O3) (Mi Mo:ByteArray->Option Int),bd=(i:Int)/\freeN e.S=some i/\PN.Fp pr po sw c.lo c.hi c.pl e.G=some o/\
   e'={e with S:=e.S.set i (some ⟨sw,pr,ad,po,o.1,o.2.1,o.2.2,false⟩),Mi:=Mi,Mo:=Mo,Q:=e.Q.set sw.toNat (QN.at_ e.Q sw+1),G:=CS e.G o ()})
def N_ (e:ES) (sw pr ad po ra rp:Int):Prop:=∀bd sid,e.Mi (Bind.keyS [sw,pr,ad,po])=some bd->e.M (Bind.keyS [bd,ra,rp])≠some sid
theorem aez (h:lS w a c e) {x y z v:Int} (hx:∀n∈[x,y,z],In64 n) (hM:e.M (Bind.keyS [x,y,z])=some v):∃(k:Nat) (s:Ses),v=(k:Int)/\e.SS[k]? =some (some s)/\s.bd=x/\s.ra=y/\s.rp=z:=by
 obtain⟨k,s,h1,h2,h3⟩:=(h.se.good.k _ _).1 hM;have:=Gp.Bind.keyS_inj (by simp[Ses.k]) (h.se.good.ok k s h1) hx h2;simp only[Ses.k,amh,amf] at this
 grind
theorem agz (h:lS w a c e) {x y z u v:Int} (hx:∀n∈[x,y,z,u],In64 n) (hM:e.Mi (Bind.keyS [x,y,z,u])=some v):∃(j:Nat) (b:Bnd),v=(j:Int)/\e.S[j]? =some (some b)/\b.sw=x/\b.pr=y/\b.ad=z/\b.po=u:=by
 obtain⟨j,b,h1,h2,h3⟩:=(h.db.good.i _ _).1 hM;have:=Gp.Bind.keyS_inj (by simp[Bnd.i]) (h.db.good.ok j b h1).1 hx h2;simp only[Bnd.i,amh,amf] at this
 grind
theorem aik {φ:Value->Prop} (h:φ (.bool false)):G_ υ .neq 111 .nilIface .nilIface φ:=by
 have e:G_ υ .neq 111 .nilIface .nilIface φ=φ (.bool false):=by kernel_rfl
 rw[e];exact h
theorem afX {d:Int} {φ:Value->Prop} (h:φ (.bool true)):G_ υ .neq 111 (QT d) .nilIface φ:=by
 have e:G_ υ .neq 111 (QT d) .nilIface φ=φ (.bool true):=by kernel_rfl
 rw[e];exact h
theorem ahL {d:Int} {A B:Prop} (h:A):G_ υ .neq 111 (QT d) .nilIface λv=>IfB v λb=>cond b A B:=afX (φ:=λv=>IfB v λb=>cond b A B) h
theorem aj3 {A B:Prop} (h:B):G_ υ .neq 111 .nilIface .nilIface λv=>IfB v λb=>cond b A B:=aik (φ:=λv=>IfB v λb=>cond b A B) h
abbrev QX (x0:Int) (x1:Bool) (x2:Int) (x3:Bool) (x4 x5 x6:Int):List Value:=[Β x0,.bool x1,Β x2,.bool x3,Β x4,Β x5,Β x6]
theorem rd7 {W:θ} {b:Nat} {x0 x2 x4 x5 x6:Int} {x1 x3:Bool} {Q:Int->Bool->Int->Bool->Int->Int->Int->Prop} (hr:Row W b (QX x0 x1 x2 x3 x4 x5 x6)) (hq:Q x0 x1 x2 x3 x4 x5 x6):
  Ld ν W (Addr.add ⟨b,0,none⟩ 0) λy0=>Ld .bool W (Addr.add ⟨b,0,none⟩ 1) λy1=>Ld ν W (Addr.add ⟨b,0,none⟩ 2) λy2=>Ld .bool W (Addr.add ⟨b,0,none⟩ 3) λy3=>Ld ν W (Addr.add ⟨b,0,none⟩ 4) λy4=>Ld ν W (Addr.add ⟨b,0,none⟩ 5) λy5=>Ld ν W (Addr.add ⟨b,0,none⟩ 6) λy6=>Q y0 y1 y2 y3 y4 y5 y6:=by
 simp only[sx,hr.cell];exact hq
theorem Ϣ (h:lS w a c e) (hg:Gd c e) (hm:CfM c) {sw pr ad po ra rp:Int} (p:kZ) {o d:gG} (ho:iH w o p.opts) (hd:iH w d p.data) (h1:p.opts.length<=2^40) (h2:p.data.length<=2^40)
  (aC:UD c sw) (hp:pr=1\/pr=6\/pr=17) (aJ:0<=ad/\ad<=4294967295) (aK:0<=po/\po<=65535) (aD:In64 ra) (aE:In64 rp)
  {K:Int->Bool->Int->Bool->Int->Int->Int->Value->b_}
  (hD:∀d w',(Full c e sw pr po d\/(p.proto=6/\d=8)\/(p.proto=1/\d=9))->(p.proto=6\/N_ e sw pr ad po ra rp)->Ext w w'->K 0 false 0 false 0 0 0 (QT d) w')
  (hK:∀w' a' e' bd sid kn nx,ig w w' (iW a)->lS w' a' c e'->Gd c e'->Grow a a' w.heap.size->a'.x=a.x->Flow c e e' sw pr ad po ra rp bd sid kn->(p.proto≠6->nx=0)->K bd true sid kn nx ra rp .nilIface w'):
  kK (some ⟨a.x,0,none⟩) sw pr ad po ra rp p.tos p.id p.off p.ttl p.proto p.src p.dst p.df p.mf o d w K:=by
 have hsl:=h.cf.sw;have i4:∀n∈[sw,pr,ad,po],In64 n:=by
  intro n hn;simp only[agI,ajr,alf] at hn;obtain⟨s0,s1⟩:=aC;unfold In64;rcases hn with rfl|rfl|rfl|rfl<;>omega
 apply Jp;refine gU λb6 w1 r6 e6 z6 f6=> ?_;refine gU λb8 w2 r8 e8 z8 f8=> ?_;refine gU λb10 w3 I e10 z10 f10=> ?_;refine gU λR w4 J e12 z12 f12=> ?_;have r6:=((r6.ext f8).ext f10).ext f12;have r8:=(r8.ext f10).ext f12;have I:=I.ext f12;have x4:=((f6.trans f8).trans f10).trans f12;have s6:=f6.size;have s8:=f8.size;have s10:=f10.size;have s12:=f12.size;refine Ld_i 0 ra r8 (Ld_i 1 rp r8 ?_);refine gU λO w5 u e16 z16 f16=> ?_;have r6:=r6.ext f16;have I:=I.ext f16;have J:=J.ext f16;refine gZ u rfl rfl λw6 u g16 y16=> ?_;have g16:ig w5 w6 (·=O):=g16 _ rfl;have x6:Ext w w6:=(x4.trans f16).nw g16;have r6:=(r6.fr g16 (by omega)).drew;have I:=(I.fr g16 (by omega)).drew;have J:=(J.fr g16 (by omega)).drew;have u:=u.drew;have x6:=x6.trans (Ext.drew w6);have h6:=h.ext x6;have zw:w.heap.size<=b6:=by omega
 refine jS.2 (iO (k:= .ptr) (y:=some ⟨a.B.d,0,none⟩) (by rw[gY];exact h6.c2) ?_);refine Ld_i 0 sw r6 (Ld_i 1 pr r6 (Ld_i 2 ad r6 (Ld_i 3 po r6 ?_)));refine cmS3 (IU h6.db sw pr ad po i4) ?_;rintro n1 t1 w7 ⟨rfl,rfl,f7⟩;have r6:=r6.ext f7;have I:=I.ext f7;have J:=J.ext f7;have u:=u.ext f7;refine iC (i:=0) u rfl (by simp) λw8 u g8 y8=> ?_;refine iC (i:=1) u rfl (by simp) λw9 u g9 y9=> ?_;simp only[ahm,af5] at u;have ah:ig w7 w9 (·=O):=(g8 (·=O) rfl).trans (g9 (·=O) rfl) λ_ _ q=>q;have x9:Ext w w9:=(x6.trans f7).nw ah;have r6:=r6.fr ah (by omega);have I:=I.fr ah (by omega);have J:=J.fr ah (by omega);have h9:=h.ext x9;generalize ab:e.Mi (Bind.keyS [sw,pr,ad,po])=mi at u ⊢;have aL:mi.isSome=true->∃(j:Nat) (b:Bnd),mi.getD 0=(j:Int)/\e.S[j]? =some (some b)/\b.sw=sw/\b.pr=pr/\b.ad=ad/\b.po=po:=by
  intro hs;obtain⟨v,rfl⟩:=amP.1 hs;exact agz h i4 ab
 have ibd:In64 (mi.getD 0):=by
  cases hq:mi with
  |none=>decide
  |some v=>
   obtain⟨j,b,g1,g2,_⟩:=aL (by rw[hq];rfl);rw[hq] at g1;have:=(afg.1 g2).1;have:=h.db.len;have:=h.cf.b1;rw[g1];unfold In64;omega
 have i3:∀n∈[mi.getD 0,ra,rp],In64 n:=by
  intro n hn;simp only[agI,ajr,alf] at hn;rcases hn with rfl|rfl|rfl
  ·exact ibd
  ·exact aD
  ·exact aE
 refine rd7 u ?_;refine find_ok h9 _ _ ra rp i3 λaM U=> ?_;have u:=u.ext U;refine gZ u rfl rfl λaF u g11 y11=> ?_;have g11:ig aM aF (·=O):=g11 _ rfl;have ai:Ext w aF:=(x9.trans U).nw g11;have r6:=(r6.ext U).fr g11 (by omega);have I:=(I.ext U).fr g11 (by omega);have J:=(J.ext U).fr g11 (by omega);have h11:=h.ext ai;generalize ac:VR e mi.isSome (mi.getD 0) ra rp=so at u ⊢;generalize aiM e so=st at u ⊢;refine rd7 u ?_;refine lu I ?_;refine cmS3 (step_ok _ _ _ _ _ _ _ p (ho.ext ai) (hd.ext ai) h1 h2 true) ?_;rintro nx ok aa ⟨aN,Y⟩;have aj:=ai.trans Y;have r6:=r6.ext Y;have I:=I.ext Y;have J:=J.ext Y;have u:=u.ext Y;have N:∀(dd:Int) (W:θ),(Full c e sw pr po dd\/(p.proto=6/\dd=8)\/(p.proto=1/\dd=9))->(p.proto=6\/so=none)->Ext aa W->iE (QX 0 false 0 false 0 0 0) W ⟨R,0,none⟩ 0 λZ=>Ld ν Z (Addr.add ⟨R,0,none⟩ 0) λaO=>Ld .bool Z (Addr.add ⟨R,0,none⟩ 1) λaP=>Ld ν Z (Addr.add ⟨R,0,none⟩ 2) λaQ=>Ld .bool Z (Addr.add ⟨R,0,none⟩ 3) λaR=>Ld ν Z (Addr.add ⟨R,0,none⟩ 4) λaS=>Ld ν Z (Addr.add ⟨R,0,none⟩ 5) λaT=>Ld ν Z (Addr.add ⟨R,0,none⟩ 6) λaU=>K aO aP aQ aR aS aT aU (QT dd) Z:=by
  intro dd W am an hx;have an:p.proto=6\/N_ e sw pr ad po ra rp:=an.imp id λhn bd sid q1 q2=>by
   rw[ab] at q1;subst q1;rw[hn] at ac;have ac:e.M (Bind.keyS [bd,ra,rp])=none:=ac
   simp_all
  refine gZ (J.ext hx) rfl rfl λZ aV aW y66=> ?_;refine rd7 (Q:=λy0 y1 y2 y3 y4 y5 y6=>K y0 y1 y2 y3 y4 y5 y6 (QT dd) Z) aV ?_;exact hD dd Z am an ((aj.trans hx).new (aW (·=R) rfl) λy hy he=>by omega)
 cases ok
 ·rw[afk,abt];have p6:p.proto=6:=ame λhh=>by simp_all
  exact N 8 aa (.inr (.inl ⟨p6,rfl⟩)) (.inl p6) (Ext.refl _)
 rw[adt,aaf];intro ao;have hJ74:∀q W,Ext aa W->(q=true->p.proto=1/\so=none)->ao q W:=by
  intro q W hx hq;simp -zeta only[ao]
  cases q
  rotate_left
  ·exact N 9 W (.inr (.inr ⟨(hq rfl).1,rfl⟩)) (.inr (hq rfl).2) hx
  rw[aaf];intro aq;have hJ85:∀q W,Ext aa W->(q=false->so.isSome=true\/((Gp.Ses.live 0 e.SS).length:Int)<c.ns)->(q=true->so=none/\c.ns<=((Gp.Ses.live 0 e.SS).length:Int))->aq q W:=by
   intro q W hx hq hq';simp -zeta only[aq]
   cases q
   rotate_left
   ·exact N 6 W (.inl (.inr (.inl ⟨rfl,.inr (hq' rfl).2⟩))) (.inr (hq' rfl).1) hx
   have hq:=hq rfl;rw[aaf];intro ar;have r6W:=r6.ext hx;have r12W:=J.ext hx;have r16W:=u.ext hx;have xW:=aj.trans hx;have hW:=h.ext xW;have hJ96:∀(W':θ) (a':EA) (e':ES) (bd sid:Int) (kn:Bool),ig w W' (iW a)->aa.heap.size<=W'.heap.size->lS W' a' c e'->Gd c e'->Grow a a' W.heap.size->a'.x=a.x->Flow c e e' sw pr ad po ra rp bd sid kn->Row W' O (QX bd true sid kn st ra rp)->Row W' R (QX 0 false 0 false 0 0 0)->ar W':=by
    intro W' a' e' bd sid kn hf hz hE hG ae au aX hr hr2;simp -zeta only[ar];have hn:∀b,iW a' b->b≠O/\b≠R:=by
     intro b hb;have l1:=r16W.lt;have l2:=r12W.lt;rcases ae b hb with ⟨k,hk⟩|hge
     ·have:=h.lt k b hk;omega
     ·omega
    refine iC (i:=4) hr rfl (by simp) λaY aG aZ y98=> ?_;simp only[ahm,af5] at aG;have av:ig W' aY (·=O):=aZ _ rfl;refine rd7 aG ?_;refine StN_f (hr2.fr av (by omega)) λaw a6 aH y99=> ?_;refine rd7 (Q:=λy0 y1 y2 y3 y4 y5 y6=>K y0 y1 y2 y3 y4 y5 y6 .nilIface aw) a6 ?_;have hE2:=(hE.fr av λk b hb he=>(hn b ⟨k,hb⟩).1 he).fr aH λk b hb he=>(hn b ⟨k,hb⟩).2 he;have a7:ig w aw (iW a):=(hf.trans av λy hy he=>by omega).trans aH λy hy he=>by omega
    refine hK aw a' e' bd sid kn nx a7 hE2 hG (λb hb=> ?_) au aX (λhh=>(aN hh).1);rcases ae b hb with hb|hb
    ·exact .inl hb
    ·exact .inr (by have:=xW.size;omega)
   clear_value ar;refine Ld_b 1 mi.isSome r16W ?_
   cases hb:mi.isSome
   ·
    rw[afk,abt];refine Ld_i 0 sw r6W (Ld_i 1 pr r6W (Ld_i 2 ad r6W (Ld_i 3 po r6W ?_)));have a8:mi=none:=by simp_all
    have ax:so=none:=by rw[<- ac,hb];rfl
    have af:e.Mi (Bind.keyS [sw,pr,ad,po])=none:=by rw[ab,a8]
    refine agJ hW hg hm aC hp aJ aK af ?_ ?_
    ·intro dd w' am hx';refine ahL ?_;exact N dd w' (.inl am) (.inr ax) (hx.trans hx')
    ·intro w' a' i oo Mi Mo hf ay ba hq2 hE hG ae au;refine aj3 ?_;have aI:∀b,iW a b->b≠O/\b≠R:=by
      rintro b ⟨k,hk⟩;have:=h.lt k b hk;omega
     have az:=r16W.fr hf (λhb=>(aI _ hb).1 rfl);have aA:=r12W.fr hf (λhb=>(aI _ hb).2 rfl);refine iC (i:=0) az rfl (by simp) λw132 r132 g132 y132=> ?_;refine iC (i:=1) r132 rfl (by simp) λw133 r133 g133 y133=> ?_;simp only[ahm,af5] at r133;have ak:ig w' w133 (·=O):=(g132 (·=O) rfl).trans (g133 (·=O) rfl) λ_ _ q=>q;have aB:∀b,iW a' b->b≠O:=by
      intro b hb;have l1:=r16W.lt;rcases ae b hb with hb|hb
      ·simp_all
      ·omega
     have hE2:=hE.fr ak λk b hb he=>aB b ⟨k,hb⟩ he;have hzf:=hf.size;have hzq:=ak.size;have hzx:=hx.size;refine hJ96 w133 a' _ (i:Int) (so.getD 0) so.isSome ((xW.fr hf).trans ak λy hy he=>by omega) (by omega) hE2 hG ae au ?_ r133 (aA.fr ak (by omega));have bb:=(Gp.Bind.jE 0 ay).1;refine⟨⟨i,_,rfl,by rw[akQ,adZ rfl,adZ bb],rfl,rfl,rfl,rfl⟩,.inr ⟨by simp_all,?_,?_⟩,.inr ⟨af,by simp_all,i,oo,Mi,Mo,rfl,ay,ba,rfl⟩⟩
     ·show e.M (Bind.keyS [(i:Int),ra,rp])=none
      cases bc:e.M (Bind.keyS [(i:Int),ra,rp]) with
      |none=>rfl
      |some v=>
       exfalso;have hlen:=h.db.len;have hb1:=h.cf.b1;obtain⟨k,s,_,g2,g3,_⟩:=aez h (by
        intro n hn;simp only[agI,ajr,alf] at hn;rcases hn with rfl|rfl|rfl
        ·unfold In64;omega
        ·exact aD
        ·exact aE) bc
       obtain⟨j,b,g4,g5⟩:=hg.sb k s g2;have:j=i:=by omega
       subst this;rw[(Gp.Bind.jE 0 ay).2.1] at g5
       cases g5
     simp_all
   ·rw[adt,aaf];obtain⟨v,rfl⟩:=amP.1 hb;have ag:e.M (Bind.keyS [v,ra,rp])=so:=by trivial
    refine hJ96 W a e v (so.getD 0) so.isSome (xW _) hx.size hW hg (Grow.refl _ _) rfl ?_ r16W r12W;refine⟨agz h i4 ab,?_,.inl ⟨rfl,ab⟩⟩
    cases hs:so with
    |none=>
     simp_all
    |some v2=>
     rw[hs] at ag;obtain⟨k,s,g1,g2,g3,g4,g5⟩:=aez h i3 ag
     grind
  clear_value aq;have r16W:=u.ext hx;refine Ld_b 3 so.isSome r16W ?_
  cases hs:so.isSome
  ·rw[afk,abt];refine cmS0 (Ue (h.ext (aj.trans hx))) ?_;rintro r W2 ⟨rfl,f2⟩;exact hJ85 _ W2 (hx.trans f2) (λhq=> .inr (by simp_all)) λhq=>⟨Option.not_isSome_iff_eq_none.1 (by simp_all),by simp_all⟩
  ·rw[adt,aaf];exact hJ85 _ W hx (λ_=> .inl hs) λhq=>by cases hq
 clear_value ao;refine Ld_b 1 mi.isSome u ?_
 cases hb:mi.isSome
 ·rw[afk,abt];refine lu I ?_;refine cmS0 (abI p (hd.ext aj) h2) ?_;rintro r W2 ⟨hr,f2⟩;exact hJ74 r W2 f2 λhq=>⟨ame λhh=>by simp_all,ac.symm.trans (by rw[hb];rfl)⟩
 ·rw[adt,aaf];exact hJ74 false aa (Ext.refl _) λhq=>by cases hq
end Go.Proofs.EN
end
section
namespace Go.Proofs.AS
open Go.RowKit Go.Extern.Stop Go.Stop Go.Extern
theorem as_nil (t:Value) (w:θ):
  Calls Tryz.prog 43 #[.nilIface,t] w λe w'=>e= .returned (.bool false)/\w'=w:=by
 go_enter Tryz.func43,Tryz.ntmps43
 go_wp2
 go_ret
 exact⟨rfl,rfl⟩
theorem YN (t:Addr) (w:θ):(ReflectliteValue.unpack (.iface 117 (.pointer (some t)))).run υ w
  = .ok (.agg #[.pointer (some ⟨1,117,none⟩),.pointer (some ⟨w.heap.size,0,none⟩),.int .u64 150]) (w.alloc (.cells #[.pointer (some t)] 117)):=by kernel_rfl
theorem ad5 (a:Addr) (w:θ):(ReflectliteValue.methodAny (ReflectliteValue.valueError "reflectlite.Value.Type" 0) (λt _ _ _=>ReflectliteType.toType t) #[.agg #[.pointer (some ⟨1,117,none⟩),.pointer (some a),.int .u64 150]]).run υ w
  = .ok (.iface 316 (.agg #[.pointer (some ⟨1,117,none⟩)])) w:=by kernel_rfl
theorem WG (h:Value) (w:θ):(Go.method 574 316 (.agg #[h]) "Kind").run υ w= .ok (340,h) w:=by kernel_rfl
theorem ad4 (w:θ):((ReflectliteType.abiMethod λt=>(λa:Nat=>Value.int IntKind.u8 (a:Int))<$>Rtype.kind t) #[.pointer (some ⟨1,117,none⟩)]).run υ w= .ok (.int .u8 22) w:=by kernel_rfl
theorem ad3 (w:θ):((ReflectliteType.abiMethod λt=>(λa:Nat=>Value.int IntKind.u8 (a:Int))<$>Rtype.kind t) #[.pointer (some ⟨1,115,none⟩)]).run υ w= .ok (.int .u8 2) w:=by kernel_rfl
theorem rlm (z:Sem Value) (f:TypeId->Addr->Nat->Nat->Sem Value) (v:Value):
  ReflectliteValue.method z f #[v]=(do match<- ReflectliteValue.parts v with|none=>z|some (t,a,fl)=>f t a fl (fl % 32)):=rfl
theorem TT (a:Addr) (w:θ):(ReflectliteValue.parts (.agg #[.pointer (some ⟨1,117,none⟩),.pointer (some a),.int .u64 150])).run υ w= .ok (some (117,a,150)) w:=by kernel_rfl
theorem abM (a p:Addr) (W:θ) (ha:W.cell? a=some (.pointer (some p))):
  (ReflectliteValue.method (ReflectliteValue.valueError "reflectlite.Value.IsNil" 0) ReflectliteValue.isNil #[.agg #[.pointer (some ⟨1,117,none⟩),.pointer (some a),.int .u64 150]]).run υ W= .ok (.bool false) W:=by
 rw[rlm];simp only[Sem.run_bind,TT,Result.andThen];simp[ReflectliteValue.isNil,loadVar,isAgg,underlying,Tryz.underlying117,ha,Result.andThen]
theorem WE (h:Value) (w:θ):(Go.method 574 316 (.agg #[h]) "Elem").run υ w= .ok (372,.agg #[h]) w:=by kernel_rfl
theorem KN (h:Value) (w:θ):(Go.method 574 316 (.agg #[h]) "Implements").run υ w= .ok (373,.agg #[h]) w:=by kernel_rfl
theorem Hr (h:Value) (w:θ):(Go.method 574 316 (.agg #[h]) "AssignableTo").run υ w= .ok (370,.agg #[h]) w:=by kernel_rfl
theorem ad2 (w:θ):(ReflectliteType.method ReflectliteType.elem #[.agg #[.pointer (some ⟨1,117,none⟩)]]).run υ w= .ok (.iface 316 (.agg #[.pointer (some ⟨1,115,none⟩)])) w:=by kernel_rfl
theorem Ru (w:θ):(ReflectliteType.relation "Implements" ReflectliteType.implements_ #[.agg #[.pointer (some ⟨1,115,none⟩)],.iface 316 (.agg #[.pointer (some ⟨1,111,none⟩)])]).run υ w= .ok (.bool true) w:=by kernel_rfl
theorem ϡ (v:Value) (w:θ):(ReflectliteType.typeOf #[.iface 115 v]).run υ w= .ok (.iface 316 (.agg #[.pointer (some ⟨1,115,none⟩)])) w:=by kernel_rfl
theorem Rt (w:θ):(ReflectliteType.relation "AssignableTo" ReflectliteType.assignableTo #[.agg #[.pointer (some ⟨1,115,none⟩)],.iface 316 (.agg #[.pointer (some ⟨1,115,none⟩)])]).run υ w= .ok (.bool true) w:=by kernel_rfl
theorem YM (e:Int) (w:θ):(ReflectliteValue.unpack (.iface 115 (Β e))).run υ w
  = .ok (.agg #[.pointer (some ⟨1,115,none⟩),.pointer (some ⟨w.heap.size,0,none⟩),.int .u64 130]) (w.alloc (.cells #[Β e] 115)):=by kernel_rfl
theorem ϟ (w:θ):(Rtype.elem? 117).run υ w= .ok (some 115) w:=by kernel_rfl
theorem ahA (p:Addr) (w:θ):(ReflectliteValue.mk 115 p ReflectliteValue.flagAddr).run υ w= .ok (.agg #[.pointer (some ⟨1,115,none⟩),.pointer (some p),.int .u64 386]) w:=by kernel_rfl
theorem abL (a p:Addr) (W:θ) (ha:W.cell? a=some (.pointer (some p))):
  (ReflectliteValue.method (ReflectliteValue.valueError "reflectlite.Value.Elem" 0) ReflectliteValue.elem #[.agg #[.pointer (some ⟨1,117,none⟩),.pointer (some a),.int .u64 150]]).run υ W
   = .ok (.agg #[.pointer (some ⟨1,115,none⟩),.pointer (some p),.int .u64 386]) W:=by
 rw[rlm];simp only[Sem.run_bind,TT,Result.andThen];simp[ReflectliteValue.elem,loadVar,isAgg,underlying,Tryz.underlying117,ha,Result.andThen,ϟ,ahA]
theorem rls (v x:Value):ReflectliteValue.set #[v,x]=(do
  let (some (dst,a,fl),some (src,b,_)):=(<- ReflectliteValue.parts v,<- ReflectliteValue.parts x)
   |unsupported (.noEntry "extern/(internal/reflectlite.Value).Set.zeroValue")
  if fl / ReflectliteValue.flagAddr % 2==0 then unsupported (.noEntry "extern/(internal/reflectlite.Value).Set.unaddressable")
  let val<- loadVar src b
  if<- Rtype.directlyAssignable dst src then storeVar dst a val
  else if<- Rtype.implements dst src then
   if (<- Rtype.kind src)==20 then
    match val with
    | .nilIface=>unsupported (.noEntry "extern/reflectlite: a nil value of one interface type handed on as a value of another")
    |_=>storeVar dst a val
   else storeVar dst a (.iface src val)
  else panicString ("reflectlite.Set: value of type "++(<- Rtype.spelt src)++" is not assignable to type "++(<- Rtype.spelt dst))
  pure (.tuple #[])):=rfl
theorem Ϡ (a:Addr) (w:θ):(ReflectliteValue.parts (.agg #[.pointer (some ⟨1,115,none⟩),.pointer (some a),.int .u64 386])).run υ w= .ok (some (115,a,386)) w:=by kernel_rfl
theorem abN (a:Addr) (w:θ):(ReflectliteValue.parts (.agg #[.pointer (some ⟨1,115,none⟩),.pointer (some a),.int .u64 130])).run υ w= .ok (some (115,a,130)) w:=by kernel_rfl
theorem Ϟ (w:θ):(Rtype.directlyAssignable 115 115).run υ w= .ok true w:=by kernel_rfl
theorem afA (ta b:Addr) (e:Int) (old:Value) (W:θ) (hb:W.cell? b=some (Β e)) (ht:W.cell? ta=some old) (hf:W.frozen? ta=false):
  (ReflectliteValue.set #[.agg #[.pointer (some ⟨1,115,none⟩),.pointer (some ta),.int .u64 386],.agg #[.pointer (some ⟨1,115,none⟩),.pointer (some b),.int .u64 130]]).run υ W
   = .ok (.tuple #[]) (W.setCell ta (Β e)):=by
 rw[rls];simp only[Sem.run_bind,Ϡ,abN,Result.andThen];simp[ReflectliteValue.flagAddr,loadVar,isAgg,underlying,Tryz.underlying115,hb,Result.andThen,Ϟ,storeVar,Value.cells,storeCells,Addr.add];rw[run_store υ W ta _ _ (by rfl)];simp[ht,hf]
set_option maxHeartbeats 4000000 in
theorem as_hit (e:Int) (t:Addr) (old:Value) (w:θ) (hg:w.cell? ⟨0,0,none⟩=some (.iface 316 (.agg #[.pointer (some ⟨1,111,none⟩)]))) (ht0:w.cell? t=some old) (hf0:w.frozen? t=false):
  Calls Tryz.prog 43 #[.iface 115 (.int .i64 e),.iface 117 (.pointer (some t))] w λev w'=>ev= .returned (.bool true)/\w'=((((w.alloc (.cells #[.pointer (some t)] 117)).alloc (.cells #[.pointer (some ⟨1,117,none⟩),.pointer (some ⟨w.heap.size,0,none⟩),.int .u64 150] 211)).alloc (.cells #[.pointer (some ⟨1,117,none⟩),.pointer (some ⟨w.heap.size,0,none⟩),.int .u64 150] 211)).alloc (.cells #[.int .i64 e] 115)).setCell t (.int .i64 e):=by
 have h6:= @run_callFunc_extern Tryz.prog 102 _ (λargs=>ReflectliteValue.unpack (args.getD 0 (.tuple #[]))) Tryz.func102 (by kernel_rfl) (by kernel_rfl) (by kernel_rfl) (by kernel_rfl);have h7:= @run_callFunc_extern Tryz.prog 103 _ (ReflectliteValue.methodAny (ReflectliteValue.valueError "reflectlite.Value.Type" 0) (λt _ _ _=>ReflectliteType.toType t)) Tryz.func103 (by kernel_rfl) (by kernel_rfl) (by kernel_rfl) (by kernel_rfl);have h8:= @run_callFunc_extern Tryz.prog 104 _ (ReflectliteValue.method (ReflectliteValue.valueError "reflectlite.Value.IsNil" 0) ReflectliteValue.isNil) Tryz.func104 (by kernel_rfl) (by kernel_rfl) (by kernel_rfl) (by kernel_rfl);have h27:= @run_callFunc_extern Tryz.prog 340 _ (ReflectliteType.abiMethod λt=>do pure (.int .u8 (<- Rtype.kind t))) Tryz.func340 (by kernel_rfl) (by kernel_rfl) (by kernel_rfl) (by kernel_rfl)
 have h37:= @run_callFunc_extern Tryz.prog 372 _ (ReflectliteType.method ReflectliteType.elem) Tryz.func372 (by kernel_rfl) (by kernel_rfl) (by kernel_rfl) (by kernel_rfl);have h38:= @run_callFunc_extern Tryz.prog 373 _ (ReflectliteType.relation "Implements" ReflectliteType.implements_) Tryz.func373 (by kernel_rfl) (by kernel_rfl) (by kernel_rfl) (by kernel_rfl);have h10:= @run_callFunc_extern Tryz.prog 202 _ ReflectliteType.typeOf Tryz.func202 (by kernel_rfl) (by kernel_rfl) (by kernel_rfl) (by kernel_rfl);have h35:= @run_callFunc_extern Tryz.prog 370 _ (ReflectliteType.relation "AssignableTo" ReflectliteType.assignableTo) Tryz.func370 (by kernel_rfl) (by kernel_rfl) (by kernel_rfl) (by kernel_rfl);have h11:= @run_callFunc_extern Tryz.prog 203 _ (ReflectliteValue.method (ReflectliteValue.valueError "reflectlite.Value.Elem" 0) ReflectliteValue.elem) Tryz.func203 (by kernel_rfl) (by kernel_rfl) (by kernel_rfl) (by kernel_rfl);have h12:= @run_callFunc_extern Tryz.prog 204 _ ReflectliteValue.set Tryz.func204 (by kernel_rfl) (by kernel_rfl) (by kernel_rfl) (by kernel_rfl);have tO:=ϡ;have mA:=Hr;have a25:=Rt;have v25:=YM;have f6:=YN;have f7:=ad5;have mK:=WG;have mE:=WE;have mI:=KN;have k27:=ad4;have k25:=ad3;have e27:=ad2;have i25:=Ru;have n8:=abM ⟨w.heap.size,0,none⟩ t ((w.alloc (.cells #[.pointer (some t)] 117)).alloc (.cells #[.pointer (some ⟨1,117,none⟩),.pointer (some ⟨w.heap.size,0,none⟩),.int .u64 150] 211)) (by simp);have I:0<w.heap.size:=by
  rcases Nat.eq_zero_or_pos w.heap.size with h0|h
  ·simp[World.cell?,h0] at hg
  ·exact h
 have hg2:((w.alloc (.cells #[.pointer (some t)] 117)).alloc (.cells #[.pointer (some ⟨1,117,none⟩),.pointer (some ⟨w.heap.size,0,none⟩),.int .u64 150] 211)).cell? ⟨0,0,none⟩=some (.iface 316 (.agg #[.pointer (some ⟨1,111,none⟩)])):=by
  rw[World.cell?_alloc_lt _ _ ⟨0,0,none⟩ (by simp),World.cell?_alloc_lt _ _ ⟨0,0,none⟩ I];exact hg
 have u:t.block<w.heap.size:=by
  rcases Nat.lt_or_ge t.block w.heap.size with h|h
  ·exact h
  ·simp[World.cell?,Array.getElem?_eq_none h] at ht0
 have el:=abL ⟨w.heap.size,0,none⟩ t (((w.alloc (.cells #[.pointer (some t)] 117)).alloc (.cells #[.pointer (some ⟨1,117,none⟩),.pointer (some ⟨w.heap.size,0,none⟩),.int .u64 150] 211)).alloc (.cells #[.pointer (some ⟨1,117,none⟩),.pointer (some ⟨w.heap.size,0,none⟩),.int .u64 150] 211)) (by rw[World.cell?_alloc_lt _ _ ⟨w.heap.size,0,none⟩ (by simp;omega)];simp);have st:=afA t ⟨w.heap.size+1+1+1,0,none⟩ e old ((((w.alloc (.cells #[.pointer (some t)] 117)).alloc (.cells #[.pointer (some ⟨1,117,none⟩),.pointer (some ⟨w.heap.size,0,none⟩),.int .u64 150] 211)).alloc (.cells #[.pointer (some ⟨1,117,none⟩),.pointer (some ⟨w.heap.size,0,none⟩),.int .u64 150] 211)).alloc (.cells #[.int .i64 e] 115))
  (by rw[World.cell?_alloc_at _ _ _ _ (by simp)];rfl)
  (by rw[World.cell?_alloc_lt _ _ t (by simp;omega),World.cell?_alloc_lt _ _ t (by simp;omega),World.cell?_alloc_lt _ _ t (by simp;omega),World.cell?_alloc_lt _ _ t u];exact ht0)
  (by rw[World.frozen?_alloc_old _ _ t (by simp;omega),World.frozen?_alloc_old _ _ t (by simp;omega),World.frozen?_alloc_old _ _ t (by simp;omega),World.frozen?_alloc_old _ _ t (Nat.ne_of_lt u)];exact hf0)
 go_enter Tryz.func43,Tryz.ntmps43
 go_wp2
 refine wp_loop_rounds 1 ?_;rw[rounds_succ]
 go_wp2
 go_ret
 exact⟨rfl,rfl⟩
end Go.Proofs.AS
end
section
namespace Go.Proofs.EN
open Gp Go.Proofs Go.Proofs.AN
def Hdl (w:θ):Prop:=w.cell? ⟨0,0,none⟩=some (.iface 316 (.agg #[.pointer (some ⟨1,111,none⟩)]))
theorem Hdl.ext {w w':θ} (h:Hdl w) (hf:Ext w w'):Hdl w':=kS h hf
theorem afC (v:Value) (w:θ):Ip .nilIface v w λr w'=>r=false/\w'=w:=by
 refine Calls.mono (AS.as_nil v w) ?_;rintro e w' ⟨rfl,rfl⟩;exact⟨false,rfl,rfl,rfl⟩
theorem afB {w:θ} {t:Nat} {o d:Int} (hg:Hdl w) (hr:Row w t [Β o]):Ip (.iface 115 (Β d)) (.iface 117 (.pointer (some ⟨t,0,none⟩))) w λr w'=>r=true/\ig w w' (·=t)/\Row w' t [Β d]:=by
 have hc:w.cell? ⟨t,0,none⟩=some (Β o):=by rw[hr.cell];rfl
 refine Calls.mono (AS.as_hit d ⟨t,0,none⟩ _ w hg hc (hr.frozen 0)) ?_;rintro e w' ⟨rfl,hw⟩;refine⟨true,rfl,rfl,?_⟩;generalize hW:(((w.alloc (.cells #[.pointer (some ⟨t,0,none⟩)] 117)).alloc (.cells #[.pointer (some ⟨1,117,none⟩),.pointer (some ⟨w.heap.size,0,none⟩),.int .u64 150] 211)).alloc (.cells #[.pointer (some ⟨1,117,none⟩),.pointer (some ⟨w.heap.size,0,none⟩),.int .u64 150] 211)).alloc (.cells #[Β d] 115)=W at hw;have hx:ig w W (·=t):=by
  rw[<- hW];exact(((ig.alloc w _ _).trans (ig.alloc _ _ _) λ_ _ h=>h).trans (ig.alloc _ _ _) λ_ _ h=>h).trans (ig.alloc _ _ _) λ_ _ h=>h
 have hx0:ig w W (λ_=>False):=by
  rw[<- hW];exact(((ig.alloc w _ _).trans (ig.alloc _ _ _) λ_ _ h=>h).trans (ig.alloc _ _ _) λ_ _ h=>h).trans (ig.alloc _ _ _) λ_ _ h=>h
 have u:=hr.fr hx0 (by simp);rw[hw];exact⟨hx.trans (ig.set W ⟨t,0,none⟩ _ rfl) λ_ _ h=>h.symm,u.set 0 (Β d)⟩
end Go.Proofs.EN
end
section
namespace Go.Proofs.AN
open Gp Gp.V4 Go.Proofs Go.Proofs.VN
open Gp.Bind (In64)
section
variable {w0 w w':θ}
theorem ϧ {w:θ} {a:gu} {n m:Nat} {vs:List Value} (h:oL w a n vs) (hm:m<=n):oL w a m (vs.take m):=by
 cases a with
 |none=>
  have h:vs=[]:=h;subst h;show List.take m []=[];simp
 |some a=>
  obtain⟨h1,h2⟩:=h;refine⟨by simp;omega,λj hj=> ?_⟩;have hj':j<vs.length:=by simp at hj;omega
  have:=h2 j hj';rw[this];rw[amr];have:j<m:=by simp at hj;omega
  rw[adZ this]
theorem ac7 {s src:gG} {L:List UInt8} (hs:Buf w s (bytesV L)) {at_:Int} (h0:0<=at_) (h1:at_<L.length) {Q:gG->Prop}
  (hQ:∀s',(∀(W:θ) (m:List UInt8) (K:Int->b_),Buf W s (bytesV L)->iH W src m->(∀n W' L',L'.length=L.length->Buf W' s (bytesV L')->ig W W' (gG.at s)->K n W')->Bg 1 s' src W K)->Q s'):lG s 1 at_ (s.len:Int) Q:=by
 obtain⟨hl,⟨ha,hb,_⟩|⟨b,pad,ha,hc,hr⟩⟩:=hs
 ·have:L.length=0:=by have:=congrArg List.length hb;simpa [bytesV] using this
  omega
 have N:(bytesV L).length=L.length:=jW L;refine⟨h0,by omega,by omega,hQ _ ?_⟩;intro W m K hs hm hK;have I:rP s.a s.cap at_.toNat 1=some ⟨b,at_.toNat,none⟩:=by
  unfold rP;rw[acZ (by omega),ha];show some ((⟨b,0,none⟩:Addr).add (at_.toNat * 1))=_;rw[gY];simp
 rw[I];obtain⟨hl2,⟨ha2,_,_⟩|⟨b2,pad2,ha2,hc2,hr2⟩⟩:=hs
 ·rw[ha2] at ha;cases ha
 have U:b2=b:=by rw[ha2] at ha;cases ha;rfl
 subst U;have h:Nat.min src.len ((s.len:Int).toNat - at_.toNat)<=src.len:=Nat.min_le_left _ _;have u:Nat.min src.len ((s.len:Int).toNat - at_.toNat)<=(s.len:Int).toNat - at_.toNat:=Nat.min_le_right _ _;generalize hq:Nat.min src.len ((s.len:Int).toNat - at_.toNat)=q at h u;have O:=ϧ hm.2.1 h;have Y:(bytesV m).take q=bytesV (m.take q):=by simp[bytesV]
 rw[Y] at O;have R:(bytesV (m.take q)).length=q:=by
  have:=hm.1;simp[bytesV];omega
 refine Bh (n:=1) (vs:=bytesV (m.take q)) (L:=bytesV L++pad2) hq (by rw[aiC];exact O) hr2 (by rw[R,ahP];omega) (TV _) λW' r f=> ?_;have hz:=r.lt;have J:spl (bytesV L++pad2) at_.toNat (bytesV (m.take q))=bytesV (L.take at_.toNat++m.take q++L.drop (at_.toNat+q))++pad2:=by
  unfold spl;rw[R,List.take_append_of_le_length (by omega),List.drop_append_of_le_length (by omega)];simp[bytesV]
 rw[J] at r;have hL':(L.take at_.toNat++m.take q++L.drop (at_.toNat+q)).length=L.length:=by
  have:=hm.1;simp;omega
 refine hK _ W' _ hL' ⟨by rw[jW,hL',hl2,N],.inr ⟨b2,pad2,ha2,by rw[jW,hL',hc2,N],r⟩⟩ (f.mono λy hy=>⟨0,by rw[ha2,hy]⟩)
theorem ad9 (n:Int) {so sn:gG} {lo ln:List UInt8} (ho:iH w so lo) (hn:iH w sn ln) (h1:lo.length<=100) (h2:ln.length<=100):Gn n so sn w λr w'=>mW r/\Ext w w':=by
 apply XG;intro J;have u:J true:=by
  simp only[J,abt];exact⟨by decide,Ext.refl _⟩
 have O:0<=n/\n<=65535->J false:=by
  intro hn16;simp only[J,aaf];refine gU λa w1 r1 e1 z1 f1=> ?_;have hp:=Fe r1 (hn.ext f1);refine cmS1 (abf hp (by simp) (by intro q hq;simp only[alk] at hq;subst hq;simp only;omega)) ?_;rintro tt w2 ⟨rfl,f2⟩;rw[Px];have htl:=Wj ln;refine gU λf w3 r3 e3 z3 f3=> ?_;have x3:=(f1.trans f2).trans f3;refine iC (i:=0) r3 rfl (by simp) λw4 r4 f4' z4=> ?_;simp only[af5] at r4;have f4:ig w3 w4 (·=f):=f4' _ rfl;have sz:=(f1.trans f2).size;have x4:Ext w w4:=x3.nw f4;apply Jh;refine⟨rfl,gU λk w5 r5 e5 z5 f5=> ?_⟩;have hs5:=ho.ext (x4.trans f5);have I:=r4.ext f5;have hfz:f<w4.heap.size:=r4.lt;have hwz:w.heap.size<=f:=by omega
  have R:∀ad,so.a=some ad->0<lo.length->ad.block<w.heap.size:=λad h h'=>ho.lt h h';rw[Α (n:=65535 - n) (by omega) (by omega),Α] at I;have hwl:(wB lo).length<=51:=by rw[QK];omega
  have lq:lM none w5=w5.heap.size+1:=rfl;refine vU (NZ (s:=so) (f0:=k) (l:=lo) (by omega)) (λi W=>(∃v:Nat,v<=65535+65535 * 100+i * 65535/\Row W f [Β (v:Int)])/\ig w5 W (·=f)) (λ_ _=>False) (by simp) ?_ ?_ ?_ (by intro e W W' h;exact h.elim) (by intro e W h;exact h.elim) ?_ ?_ (by intro W h;exact h.elim) (by intro id W h;exact h.elim)
  ·intro W hW _;refine⟨⟨(65535 - n+(tot ln:Int)).toNat,by omega,?_⟩,hW _⟩;have:(((65535 - n+(tot ln:Int)).toNat:Nat):Int)=65535 - n+(tot ln:Int):=by omega
   rw[this];exact I.ext hW
  ·rintro i W ⟨_,hf⟩;exact⟨r5.fr hf (by omega),hs5.fr hf λad ha h0 e=>by have:=R ad ha h0;omega⟩
  ·rintro i W W' ⟨⟨v,hv,hr⟩,hf⟩ hf';rw[lq] at hf';exact⟨⟨v,hv,hr.fr hf' (by omega)⟩,hf.trans hf' λy hy e=>by omega⟩
  ·rintro i x W Kb hx ⟨⟨v,hv,hr⟩,hf⟩ U hk _;have hi:i<(wB lo).length:=(afg.1 hx).1;have hi2:2 * i<lo.length:=by rw[QK] at hi;omega
   rw[ό lo hi2] at hx
   cases hx
   have hwa:=Fv lo (2 * i);have fb:=ig.gQ W (lM none w5);rw[lq] at fb U hk ⊢;have N:=hr.fr fb (by omega);refine⟨by trivial,Ld_i 0 (v:Int) N ?_⟩;refine iC (i:=0) N rfl (by simp) λW2 r2 f2' z2=> ?_;simp only[af5] at r2;have g2:ig (gQ W (w5.heap.size+1)) W2 (·=f):=f2' _ rfl;refine hk W2 (·=f) g2 (λy e=>by omega) ⟨⟨v+(65535 - wordAt lo (2 * i)),by omega,?_⟩,(hf.trans fb λy hy e=>by omega).trans g2 λy _ e=>e⟩;have he:ο.wrap ((v:Int)+ο.wrap (65535 - ((wordAt lo (2 * i):Nat):Int)))=((v+(65535 - wordAt lo (2 * i)):Nat):Int):=by
    rw[Α (n:=65535 - ((wordAt lo (2 * i):Nat):Int)) (by omega) (by omega),Α];omega
   rw[<- he];exact r2
  ·rintro W ⟨⟨v,hv,hr⟩,hf⟩ hm;have Y:=hm rfl;refine Ld_i 0 (v:Int) hr ?_;refine cmS1 (ado (by omega) W) ?_;rintro r W2 ⟨rfl,hw⟩;subst hw;refine⟨Y,?_⟩;have hfl:=OB v;rw[Α];refine⟨by omega,?_⟩;have xW:Ext w W2:=(x4.trans f5).new hf λy hy e=>by omega
   have:=(x4.trans f5).size;exact xW.new (ig.nG W2 w5.heap.size (.deferred none)) λy hy e=>by omega
 clear_value J;by_cases c1:n<0
 ·rw[aff c1,abt];exact u
 rw[adX c1,aaf];by_cases c2:n>65535
 ·rw[aff c2];exact u
 ·rw[adX c2];exact O ⟨by omega,by omega⟩
theorem agZ (n:Int) (k:Nat) (h:k<=4):(mP [] n (k:Int)).length<=4:=by have:=AY [] n k;simp at this;omega
theorem T_ {s:gG} {l:List UInt8} (hs:iH w s l) (hl:l.length<=2^40) (at_ n:Int) (k:Nat) (hk:k<=4) (h0:0<=at_) (h1:at_+k<=l.length):
  vW s at_ n (k:Int) w λy0 y1 y2 w'=>(y0=at_/\(∃m,iH w' y1 m/\m.length<=4)/\∃m,iH w' y2 m/\m.length<=4)/\Ext w w':=by
 apply Qu;refine gU λa w1 r1 e1 z1 f1=> ?_;rw[Α];refine mY (hs.ext f1) h0 (by omega) (by omega) λs' hs' _=> ?_;have h:((l.take (at_+(k:Int)).toNat).drop at_.toNat).length<=4:=by simp;omega
 generalize (l.take (at_+(k:Int)).toNat).drop at_.toNat=q at hs' h;refine cmS2 (oG hs' (by omega)) ?_;rintro r w2 ⟨b2,_,f2,n2⟩;refine cmS2 (Ah iH.nil (by simp) n k) ?_;rintro r3 w3 ⟨b3,f3,n3⟩;have u:=agZ n k hk;have x3:=(f1.trans f2).trans f3;have z2:=f2.size;have z3:=f3.size;refine StN_f ((r1.ext f2).ext f3) λw4 r4 f4 z4=> ?_;have x4:Ext w w4:=x3.nw f4;have n2':∀b,gG.at r b->¬b=a:=λb hb e=>by have:=n2 b hb;omega
 have n3':∀b,gG.at r3 b->¬b=a:=λb hb e=>by have:=n3 b hb;omega
 have B2:=(b2.fr (f3 λ_=>False) (by simp)).fr f4 n2';have B3:=b3.fr f4 n3';refine Ld_i 0 at_ r4 (Ld_s 1 r r4 (Ld_s 2 r3 r4 ?_));exact⟨⟨rfl,⟨q,iH.iM B2,h⟩,_,iH.iM B3,u⟩,x4⟩
end
end Go.Proofs.AN
end
section
namespace Go.Proofs.AN
open Gp Gp.V4 Go.Proofs Go.Proofs.VN
open Gp.Bind (In64)
section
variable {w0 w w':θ}
abbrev Ch:=Int×gG×gG
def chV (c:Ch):List Value:=[Β c.1,.slice c.2.1.a c.2.1.len c.2.1.cap,.slice c.2.2.a c.2.2.len c.2.2.cap]
theorem ac5 (c:Ch):(chV c).length=3:=rfl
structure adR (w:θ) (n:Nat) (c:Ch):Prop where
 at0:0<=c.1
 at1:c.1<n
 old:∃m,iH w c.2.1 m/\m.length<=4
 now:∃m,iH w c.2.2 m/\m.length<=4
theorem adR.ext {n:Nat} {c:Ch} (h:adR w n c) (hf:Ext w w'):adR w' n c:=by
 obtain⟨h1,h2,⟨m,h3,h4⟩,k,h5,h6⟩:=h;exact⟨h1,h2,⟨m,h3.ext hf,h4⟩,k,h5.ext hf,h6⟩
theorem ύ {s a2:gG} {l:List UInt8} (hs:iH w s l) (hl:l.length<=2^40) (place:Int) (hp0:0<=place) (hp1:place+2<=l.length) {cs:List Ch} (Z:ny 3 chV w a2 cs) (hn:cs.length<=4) (hc:∀c∈cs,adR w l.length c):
  w_ s place a2 w λr w'=>(∃L:List UInt8,Buf w' r (bytesV L)/\L.length=l.length)/\Ext w w'/\∀b,gG.at r b->w.heap.size<=b:=by
 apply Xt;have I:=Z.len;refine cmS2 (oG hs (by omega)) ?_;rintro r w1 ⟨b1,_,f1,n1⟩;have hrl:r.len=l.length:=by rw[b1.1,jW]
 have O:∀b,gG.at r b->b<w1.heap.size:=λb hb=>b1.lt hb;refine g_ (λst W=>∃(i:Nat) (L o n:List UInt8),i<=cs.length/\st.2.2.1=(i:Int)/\L.length=l.length/\Buf W r (bytesV L)/\Buf W st.1 (bytesV o)/\Buf W st.2.1 (bytesV n)/\o.length<=4 * i/\n.length<=4 * i/\Ext w W/\w1.heap.size<=W.heap.size/\
   (∀b,gG.at st.1 b->w1.heap.size<=b)/\∀b,gG.at st.2.1 b->w1.heap.size<=b/\¬gG.at st.1 b)
  (λst _=>((cs.length:Int) - st.2.2.1).toNat) ?_ ?_
 ·refine⟨0,l,[],[],by omega,rfl,rfl,b1,Buf.nil,Buf.nil,by simp,by simp,f1,ajq _,?_,?_⟩
  ·rintro b ⟨o,h⟩;cases h
  ·rintro b ⟨o,h⟩;cases h
 rintro⟨old,now,ii,⟨⟩⟩ W ⟨i,L,o,n,hi,aa,hL,bL,bo,bn,lo,ln,hx,hz,no,nn⟩ next J
 simp only at aa bo bn no nn;subst aa;rw[I];by_cases ab:i<cs.length
 ·have u:((i:Int)<(cs.length:Int)):=by omega
  rw[aff u,abt];have N:=adP ab;have R:=akU ab;obtain⟨q0,q1,⟨m1,hm1,lm1⟩,m2,hm2,lm2⟩:=hc _ R;generalize cs[i]=cc at N hm1 hm2 q0 q1;obtain⟨at_,so,sn⟩:=cc;refine SN.SlN_ix (i:=(i:Int)) ac5 (by omega) (Z.ext hx) (by omega) (by rw[abu];exact N) λa9 h9=> ?_;refine iO (k:= .int .i64) (y:=at_) (h9 0 _ rfl) (iO (k:= .slice) (y:=so) (h9 1 _ rfl) (iO (k:= .slice) (y:=sn) (h9 2 _ rfl) ?_));refine gU λac w2 r2 e2 z2 f2=> ?_;refine gZ r2 rfl rfl λw3 r3 f3' z3=> ?_;have f3:=f3' _ rfl;have af:=f2.new f3 λy hy e=>by omega
  have x3d:=af.trans (Ext.drew w3);have r3d:=r3.drew;refine Ld_i 0 at_ r3d ?_;have bL3:=bL.fr (x3d λ_=>False) (by simp);have bo3:=bo.fr (x3d λ_=>False) (by simp);have bn3:=bn.fr (x3d λ_=>False) (by simp);have ha14:W.heap.size<=ac:=by omega
  have ltW:=O;refine ac7 (src:=sn) bL3 q0 (by omega) λs17 ag=> ?_;refine Ld_s 2 sn r3d ?_;refine ag w3.drew m2 _ bL3 (hm2.ext (hx.trans x3d)) λn19 w4 L' hL' bL4 f4=> ?_;have hrb:=n1;have x4:=(hx.trans x3d).new f4 λy hy hb=>by grind
  have r4:=(r3d.fr f4 (λhb=>by grind)).drew;have bo4:=(bo3.fr f4 (λb hb hb'=>by grind)).fr (Ext.drew w4 λ_=>False) (by simp);have bn4:=(bn3.fr f4 (λb hb hb'=>by grind)).fr (Ext.drew w4 λ_=>False) (by simp);have bL4:=bL4.fr (Ext.drew w4 λ_=>False) (by simp);have x4d:=x4.trans (Ext.drew w4);refine Ld_s 1 so r4 (Ld_s 2 sn r4 ?_);have z3:=f4.size;have z4d:w4.drew.heap.size=w4.heap.size:=rfl;have z1:=f1.size;have la:=r3d.lt;refine jK bo4 (hm1.ext x4d) (by omega) λae w5 b5 f5 n5 _=> ?_;have x5:=x4d.new f5 λy hy hb=>by grind
  have z5:=f5.size;have ah:¬gG.at old ac:=λhb=>by have:=bo.lt hb;omega
  refine⟨by rw[gY,(r4.fr f5 ah).cell];rfl,?_⟩;have bn5:=bn4.fr f5 λb hb=>(nn b hb).2;refine jK bn5 (hm2.ext x5) (by omega) λai w6 b6 f6 n6 _=> ?_;have x6:Ext w w6:=x5.new f6 λy hy hb=>by grind
  have z6:=f6.size;have aj:∀b,gG.at ae b->¬gG.at now b:=by
   intro b hb hb';rcases n5 b hb with h|h
   ·grind
   ·have:=bn.lt hb';omega
  have bL6:Buf w6 r (bytesV L'):=(bL4.fr f5 λb hb hb'=>by grind).fr f6 λb hb hb'=>by grind
  have hw:ο.wrap ((i:Int)+1)=(i:Int)+1:=Α;show next (ae,ai,ο.wrap ((i:Int)+1),()) w6
  rw[hw];refine J _ _ ⟨i+1,L',o++m1,n++m2,by omega,by rfl,by omega,bL6,b5.fr f6 aj,b6,by grind,by grind,x6,by omega,λb hb=> ?_,λb hb=>⟨?_,λhb'=> ?_⟩⟩ (by grind)
  ·grind
  ·grind
  ·rcases n6 b hb with h|h
   ·grind
   ·have:=b5.lt hb';omega
 ·have u:¬((i:Int)<(cs.length:Int)):=by omega
  rw[adX u,aaf];refine cmS8 (P_ (hs.ext hx) (by omega) place 2) ?_;rintro g e w2 ⟨hw,_⟩;subst hw;refine cmS1 (ad9 g (iH.iM bo) (iH.iM bn) (by omega) (by omega)) ?_;rintro ch w3 ⟨hch,f3⟩;have bL3:=bL.fr (f3 λ_=>False) (by simp);refine cmS5 (VT (iH.iM bL3) (by omega) place ch 2) ?_;rintro r2 e2 w4 ⟨U,f4,Y⟩;have ak:=(Td (l:=L) (by unfold jm lN;grind) hp0 (by omega) U).2;refine⟨⟨_,ak,?_⟩,(hx.trans f3).trans f4,λb hb=>by have:=Y b hb;have:=(hx.trans f3).size;omega⟩;have h2:(2:Int).toNat=2:=rfl;rw[h2];simp only[ahP,ajH,al2,jf];omega
end
end Go.Proofs.AN
end
