import Derived.Test.YtdmbjlliegbpcaaGreatDoorG27x
import Derived.Test.YtdmbjlliegbpcaaGreatDoorW3
import Derived.Test.YtdmbjlliegbpcaaGreatDoorW2
open List (getElem?_cons_zero length_cons length_set set_set)
open Int (toNat_natCast)
set_option maxRecDepth 100000
set_option maxHeartbeats 4000000
section
namespace Go.Proofs
open Gp
@[reducible] def aiq (a b c d e f g h i j k l m n o p q r:Int):List Value:= Β a:: Β b:: Β c:: Β d:: Β e:: Β f:: Β g:: Β h:: Β i:: Β j:: Β k:: Β l:: Β m:: Β n:: Β o:: Β p:: Β q:: Β r::[]
def Gg (a b c d e f g h i j:Int) (k l:fU) (w:θ) (K:fU->Int->b_):=fZ υ 245 [Β a,Β b,.agg ⟨kY c d e f g h i j k l⟩] [.one .slice,.one ν] w K
def Gh (a b c d e f g h:Int) (i j:fU) (w:θ) (K:Int->b_):=fZ υ 312 [.agg ⟨kY a b c d e f g h i j⟩] [.one ν] w K
def yV (a b c d e f g h:Int) (i j:fU) (w:θ) (K:fU->b_):=fZ υ 313 [.agg ⟨kY a b c d e f g h i j⟩] [.one .slice] w K
def Eo (c d:Int) (e:Bool) (b:fU) (f g:Int) (w:θ) (K:fU->Int->b_):=fZ υ 390 [(.agg ⟨[Β c,Β d,.bool e,Δ b]⟩),Β f,Β g] [.one .slice,.one ν] w K
def Ep (c d:Int) (e:Bool) (b:fU) (w:θ) (K:Int->Int->Int->b_):=fZ υ 391 [(.agg ⟨[Β c,Β d,.bool e,Δ b]⟩)] [.agg [ν,ν,ν]] w K
def Fj (c d:Int) (e:Bool) (b:fU) (f g:Int) (w:θ) (K:Value->b_):=fZ υ 392 [(.agg ⟨[Β c,Β d,.bool e,Δ b]⟩),Β f,Β g] [.one .any] w K
def Gj (c d e f:Int) (g:Bool) (b:fU) (w:θ) (K:fU->Int->b_):=fZ υ 393 [Β c,Β d,(.agg ⟨[Β e,Β f,.bool g,Δ b]⟩)] [.one .slice,.one ν] w K
def pG (a b:Int) (w:θ) (K:Int->b_):=fZ υ 394 [Β a,Β b] [.one ν] w K
def Gl (c d:Int) (e:Bool) (b:fU) (w:θ) (K:Int->b_):=fZ υ 395 [(.agg ⟨[Β c,Β d,.bool e,Δ b]⟩)] [.one ν] w K
def ED (c d:Int) (b:fU) (w:θ) (K:Int->b_):=fZ υ 396 [Β c,Β d,Δ b] [.one ν] w K
def Fp (a b c d e f g h:Int) (i j:fU) (k l:Int) (w:θ) (K:fU->Int->b_):=fZ υ 397 [.agg ⟨kY a b c d e f g h i j⟩,Β k,Β l] [.one .slice,.one ν] w K
def Fq (a b c d e f g h:Int) (i j:fU) (w:θ) (K:Int->Int->Int->b_):=fZ υ 398 [.agg ⟨kY a b c d e f g h i j⟩] [.agg [ν,ν,ν]] w K
def F6 (a b c d e f g h:Int) (i j:fU) (k l:Int) (w:θ) (K:Value->b_):=fZ υ 399 [.agg ⟨kY a b c d e f g h i j⟩,Β k,Β l] [.one .any] w K
def I_ (c d e:Int) (b:fU) (f g:Int) (w:θ) (K:fU->Int->b_):=fZ υ 400 [(.agg ⟨[Β c,Β d,Β e,Δ b]⟩),Β f,Β g] [.one .slice,.one ν] w K
def Ja (c d e:Int) (b:fU) (w:θ) (K:Int->Int->Int->b_):=fZ υ 401 [(.agg ⟨[Β c,Β d,Β e,Δ b]⟩)] [.agg [ν,ν,ν]] w K
def Kv (c d e:Int) (b:fU) (f g:Int) (w:θ) (K:Value->b_):=fZ υ 402 [(.agg ⟨[Β c,Β d,Β e,Δ b]⟩),Β f,Β g] [.one .any] w K
def Vu (c d e:Int) (b:fU) (w:θ) (K:Int->b_):=fZ υ 403 [(.agg ⟨[Β c,Β d,Β e,Δ b]⟩)] [.one ν] w K
def BU (c d e:Int) (b:fU) (f:Int) (w:θ) (K:Int->Int->Int->fU->b_):=fZ υ 404 [(.agg ⟨[Β c,Β d,Β e,Δ b]⟩),Β f] [.agg [ν,ν,ν,.slice]] w K
theorem XT {l m n o p q r s t u v x w K}:gI (Gg l m n o p q r s t u v x w K)
 (Ε w (kY n o p q r s t u v x) 401 λe y=>zJ y e λC D E F G H I J L M=>Gh C D E F G H I J L M y λz f=>(cond (z !=0) (K ⟨none,0,0⟩ z f) (zJ f e λN O P Q R T U V W X=>yV N O P Q R T U V W X f λA Y=>iW (S:=fU×Int×Unit) (λb c Z=>(cond (decide (b.2.1<(A.len:Int))) (iM A 2 b.2.1 λB=>fM c (B.add 0) λaa=>fM c (B.add 1) λab=>Ε c aaG 489 λg ac=>iw [Β aa,Β ab] ac g 0 λh=>fM h g λad=>fM h (g.add 1) λae=>lG b.1 ad ae h λaf ag=>Z (af,(ο.wrap (b.2.1+1)),()) ag) (Ld .slice c (e.add 8) λi=>Ld .slice c (e.add 9) λj=>Ε c [.slice b.1.a b.1.len b.1.cap,Δ i,Δ j] 23 λah ai=>jP ⟨(some ah),3,3⟩ ai λd aj=>rE l m 6 (d.len:Int) aj λk ak=>Ε ak [Δ k,Δ d] 23 λal am=>Dl ⟨(some al),2,2⟩ am λan ao=>vH d 16 an 2 ao λap aq ar=>K ap aq ar))) (⟨none,0,0⟩,0,()) Y))):=χ Tryz.func245 (fQ (fQ (fQ (.seq (fQ (.blk (.loop [(9,.slice),(20,ν)] .leaf))) .leaf))))
theorem XU {h i j k l m n o p q w K}:gI (Gh h i j k l m n o p q w K)
 (Ε w (kY h i j k l m n o p q) 401 λa b=>let d:Bool->Prop:=λu=>((cond u (K 1 b) (zJ b a λv x y z A B C D E F=>yV v x y z A B C D E F b λr G=>iW (S:=Int×Unit) (λe c H=>(cond (decide (e.1<(r.len:Int))) (iM r 2 e.1 λs=>fM c (s.add 0) λI=>fM c (s.add 1) λJ=>Ε c aaG 489 λf L=>iw [Β I,Β J] L f 0 λg=>fM g f λM=>fM g (f.add 1) λN=>jI M N g λO t=>(cond (!O) (K 1 t) (H ((ο.wrap (e.1+1)),()) t))) (Ld .slice c (a.add 8) λP=>Ld .slice c (a.add 9) λQ=>(cond (decide ((ο.wrap ((ο.wrap (20+(P.len:Int)))+(Q.len:Int)))>65535)) (K 6 c) (K 0 c))))) (0,()) G)))
 Ld .slice b (a.add 8) λR=>(cond (decide ((R.len:Int)>40)) (d true) (Ld .slice b (a.add 8) λT=>(4:Int)≠0/\
 (cond ((Int.tmod (T.len:Int) 4) !=0) (d true) (fM b (a.add 4) λU=>(cond (decide (U<0)) (d true) (fM b (a.add 4) λV=>d (decide (V>15))))))))):=χ Tryz.func312 (fQ (fQ (.seq (fQ (.blk (.loop [(29,ν)] .leaf))) .leaf)))
theorem Vf {c d e f g h i j k l w K}:gI (yV c d e f g h i j k l w K)
 (Ε w (kY c d e f g h i j k l) 401 λb a=>Ld .slice a (b.add 8) λm=>(4:Int)≠0/\
 fM a b λn=>fM a (b.add 1) λo=>fM a (b.add 2) λp=>fM a (b.add 3) λq=>0<=(4:Int)/\
 fM a (b.add 4) λr=>fM a (b.add 5) λs=>fM a (b.add 6) λt=>fM a (b.add 7) λu=>Ε a (aiq n 2 o 2 p 4 q 4 (Ql .i64 (FU .i64 (ο.wrap (Int.tdiv (ο.wrap (20+(m.len:Int))) 4)) 4) r) 1 s 1 t 2 0 2 u 2) 489 λv x=>K ⟨(some v),9,9⟩ x):=χ Tryz.func313
theorem DL {e f g c h i w K}:gI (Eo e f g c h i w K)
 (Ε w [Β e,Β f,.bool g,Δ c] 451 λd b=>fM b (d.add 0) λj=>fM b (d.add 1) λk=>Ld .bool b (d.add 2) λl=>Ld .slice b (d.add 3) λm=>Gj h i j k l m b λn o p=>K n o p):=χ Tryz.func390
theorem DN {f g h b w K}:gI (Ep f g h b w K)
 (Ε w [Β f,Β g,.bool h,Δ b] 451 λi j=>Ε j abH 261 λc e=>fM e i λk=>fM e (i.add 1) λl=>iw [Β 17,Β k,Β l] e c 0 λd=>fM d (c.add 0) λm=>fM d (c.add 1) λn=>fM d (c.add 2) λo=>K m n o d):=χ Tryz.func391
theorem EP {g h i d j k w K}:gI (Fj g h i d j k w K)
 (Ε w [Β g,Β h,.bool i,Δ d] 451 λb e=>fM e.drew b λn=>fM e.drew (b.add 1) λl=>pG j n e.drew λo m=>m.cell? (b.add 1)=some (Β l)/\
 pG k l m λp q=>St q b (Β o) λr=>St r (b.add 1) (Β p) λc=>fM c (b.add 0) λs=>fM c (b.add 1) λt=>Ld .bool c (b.add 2) λu=>Ld .slice c (b.add 3) λf=>K (Value.iface 451 (Value.agg ⟨[Β s,Β t,.bool u,Δ f]⟩)) c):=χ Tryz.func392
theorem XW {j k l m n f w K}:gI (Gj j k l m n f w K)
 (Ε w [Β l,Β m,.bool n,Δ f] 76 λb c=>fM c (b.add 0) λp=>fM c (b.add 1) λq=>Ld .bool c (b.add 2) λr=>Ld .slice c (b.add 3) λs=>Gl p q r s c λo d=>(cond (o !=0) (K ⟨none,0,0⟩ o d) (fM d b λt=>fM d (b.add 1) λu=>Ld .slice d (b.add 3) λv=>Ε d [Β t,Β u,Β (ο.wrap (8+(v.len:Int))),Β 0] 3 λx y=>iW (S:=fU×Int×Unit) (λe g z=>(cond (decide (e.2.1<(4:Int))) (iM ⟨(some x),4,4⟩ 1 e.2.1 λA=>fM g A λB=>lG e.1 B 2 g λC D=>z (C,(ο.wrap (e.2.1+1)),()) D) (Ld .slice g (b.add 3) λE=>lK 5 1 1 [(Value.int .u8 0)] e.1 E g λh i=>Ld .bool i (b.add 2) λF=>(cond F (K h 0 i) (ED j k h i λG H=>vH h 6 G 2 H λI J L=>K I J L))))) (⟨none,0,0⟩,0,()) y))):=χ Tryz.func393 (fQ (fQ (fQ (.seq (fQ (.blk (.loop [(9,.slice),(27,ν)] .leaf))) .leaf))))
theorem U2 {a b w K}:gI (pG a b w K)
 ((cond (a==(-1)) (K b w) (K a w))):=χ Tryz.func394
theorem XY {f g h b w K}:gI (Gl f g h b w K)
 (Ε w [Β f,Β g,.bool h,Δ b] 76 λd i=>let j:Bool->b_:=λk c=>((cond k (K 1 c) (Ld .slice c (d.add 3) λl=>(cond (decide ((l.len:Int)>65527)) (K 6 c) (K 0 c)))))
 fM i d λm=>jI m 2 i λn e=>(cond (!n) (j true e) (fM e (d.add 1) λo=>jI o 2 e λp q=>j (!p) q))):=χ Tryz.func395
theorem Vh {d e b w K}:gI (ED d e b w K)
 (rE d e 17 (b.len:Int) w λc h=>Ε h [Δ c,Δ b] 23 λi j=>Dl ⟨(some i),2,2⟩ j λf g=>(cond (f==0) (K 65535 g) (K f g))):=χ Tryz.func396
theorem ER {a b c d e f g h i j k l w K}:gI (Fp a b c d e f g h i j k l w K)
 (Ε w (kY a b c d e f g h i j) 453 λn m=>zJ m n λo p q r s t u v x y=>Gg k l o p q r s t u v x y m λz A B=>K z A B):=χ Tryz.func397
theorem ET {d e f g h i j k l m w K}:gI (Fq d e f g h i j k l m w K)
 (Ε w (kY d e f g h i j k l m) 453 λn o=>Ε o abH 261 λa c=>fM c n λp=>fM c (n.add 1) λq=>iw [Β 6,Β p,Β q] c a 0 λb=>fM b (a.add 0) λr=>fM b (a.add 1) λs=>fM b (a.add 2) λt=>K r s t b):=χ Tryz.func398
theorem FK {c d e f g h i j k l m n w K}:gI (F6 c d e f g h i j k l m n w K)
 (Ε w (kY c d e f g h i j k l) 453 λa b=>fM b.drew a λr=>fM b.drew (a.add 1) λo=>pG m r b.drew λs p=>p.cell? (a.add 1)=some (Β o)/\
 pG n o p λt u=>St u a (Β s) λv=>St v (a.add 1) (Β t) λq=>zJ q a λx y z A B C D E F G=>K (Value.iface 453 (Value.agg ⟨kY x y z A B C D E F G⟩)) q):=χ Tryz.func399
theorem Ho {e f g c h i w K}:gI (I_ e f g c h i w K)
 (Ε w [Β e,Β f,Β g,Δ c] 455 λd b=>fM b (d.add 0) λj=>fM b (d.add 1) λk=>fM b (d.add 2) λl=>Ld .slice b (d.add 3) λm=>yJ j k l m b λn o p=>K n o p):=χ Tryz.func400
theorem Hq {g h i c w K}:gI (Ja g h i c w K)
 (Ε w [Β g,Β h,Β i,Δ c] 455 λd k=>Ε k abH 261 λe b=>fM b (d.add 0) λl=>fM b (d.add 1) λm=>fM b (d.add 2) λn=>Ld .slice b (d.add 3) λo=>Vu l m n o b λj p=>iw [Β 1,Β j,Β j] p e 0 λf=>fM f (e.add 0) λq=>fM f (e.add 1) λr=>fM f (e.add 2) λs=>K q r s f):=χ Tryz.func401
theorem Ju {j k l e m n w K}:gI (Kv j k l e m n w K)
 (Ε w [Β j,Β k,Β l,Δ e] 455 λb c=>fM c.drew (b.add 0) λo=>fM c.drew (b.add 1) λp=>fM c.drew (b.add 2) λq=>Ld .slice c.drew (b.add 3) λf=>pG m n c.drew λr g=>Cj g b o p<|Ci g b 2 q<|Cs g b 3 (Δ f)<|BU o p q f r g λs t u h v=>iw [Β s,Β t,Β u,Δ h] v b 0 λd=>fM d (b.add 0) λx=>fM d (b.add 1) λy=>fM d (b.add 2) λz=>Ld .slice d (b.add 3) λi=>K (Value.iface 455 (Value.agg ⟨[Β x,Β y,Β z,Δ i]⟩)) d):=χ Tryz.func402
theorem aav {c d e b w K}:gI (Vu c d e b w K)
 (Ε w [Β c,Β d,Β e,Δ b] 142 λg f=>fM f (g.add 2) λh=>0<=(16:Int)/\
 K (kF .i64 (jH .i64 h 16) 65535) f):=χ Tryz.func403
theorem SX {i j k f l w K}:gI (BU i j k f l w K)
 (Ε w [Β i,Β j,Β k,Δ f] 142 λb o=>Ε o abO 142 λc m=>0<=(16:Int)/\
 fM m (b.add 2) λp=>St m (b.add 2) (Β (Ql .i64 (FU .i64 (kF .i64 l 65535) 16) (kF .i64 p 65535))) λn=>Ld .slice n (b.add 3) λq=>gK q n λg r=>St r (b.add 3) (Δ g) λd=>fM d (b.add 0) λs=>fM d (b.add 1) λt=>fM d (b.add 2) λu=>Ld .slice d (b.add 3) λh=>iw [Β s,Β t,Β u,Δ h] d c 0 λe=>fM e (c.add 0) λv=>fM e (c.add 1) λx=>fM e (c.add 2) λy=>Ld .slice e (c.add 3) λz=>K v x y z e):=χ Tryz.func404
theorem SY {w K}:gI (tH w K)
 (yU w λW X Y Z r5 r6 r7 r8 r9 af ag ah ai aj ak al am an ao ap aq ar au av aw ax ay az aA aB aC aD aE aF aG aH aI=>Ε aI (jO 0 0 0 0 0 0 0 0 0 0 0 0 0 0 0 0 ⟨none,0,0⟩ ⟨none,0,0⟩ 0 0 0 0 0 0 0 0 0 0 0 0 0 0 0 0 0 ⟨none,0,0⟩) 31 λb aJ=>iw (jO W X Y Z r5 r6 r7 r8 r9 af ag ah ai aj ak al am an ao ap aq ar au av aw ax ay az aA aB aC aD aE aF aG aH) aJ b 0 λf=>uS f b λaK aL aM aN aO aP aQ aR aS aT aU aV aW aX aY aZ a0 a1 a2 a3 a4 a5 a6 a7 a8 a9 ba bb bc bd be bf bg bh bi bj=>D_ aK aL aM aN aO aP aQ aR aS aT aU aV aW aX aY aZ a0 a1 a2 a3 a4 a5 a6 a7 a8 a9 ba bb bc bd be bf bg bh bi bj f λc bk d=>let g:Bool->Prop:=λbl=>((cond bl (K false d) (uS d.drew b λh i j k l m n o p q r s t u v x y z A B C D E F G H I J L M N O P Q R S=>kX 167772161 3221225985 5000 53 9 ⟨none,0,0⟩ d.drew λbm T=>u_ (jO h i j k l m n o p q r s t u v x y z A B C D E F G H I J L M N O P Q R S) T b 0 (
 yN h i j k l m n o p q r s t u v x y z A B C D E F G H I J L M N O P Q R S 1 bm T λbn bo=>oU c bn bo λU bp bq=>kX 3221225985 3325256705 53 5000 9 ⟨none,0,0⟩ bq λbr bs=>pU c br bs λV bt bu=>kX 3221225985 3325256705 53 5001 9 ⟨none,0,0⟩ bu λbv bw=>pU c bv bw λ _ bx e=>let a:Bool->Prop:=λbz=>(K bz e)
 (cond (bp==0) (cond ((U.len:Int)==1) (iM U 2 0 λbA=>fM e bA λbB=>(cond (bB==(-1)) (cond (bt==0) (cond ((V.len:Int)==1) (iM V 2 0 λbC=>fM e bC λbD=>(cond (bD==1) (a (bx==9)) (a false))) (a false)) (a false)) (a false))) (a false)) (a false))))))
 (cond (Option.isNone c) (g true) (g (bk !=0)))):=χ Tryz.func4
end Go.Proofs
end
section
namespace Gp.Hash
abbrev vk:=Option (ByteArray×Int)
def cy (m a:Nat):Nat:=if a<m then a else a - m
def used (L:List vk) (i:Nat):Prop:=∃e:ByteArray×Int,L[i]? =some (some e)
def Has (L:List vk) (k:ByteArray) (n:Int):Prop:=∃i:Nat,L[i]? =some (some (k,n))
structure T (H:ByteArray->Nat) (L:List vk) (X:Nat->Nat->Prop):Prop where
 dist:∀(i j:Nat) (k:ByteArray) (n n':Int),L[i]? =some (some (k,n))->L[j]? =some (some (k,n'))->i=j
 reach:∀(i:Nat) (k:ByteArray) (n:Int),L[i]? =some (some (k,n))->∃D,D<L.length/\cy L.length (H k+D)=i/\∀d,d<D->used L (cy L.length (H k+d))\/X i (cy L.length (H k+d))
def Stop (L:List vk) (h:Nat) (k:ByteArray) (d:Nat):Prop:=L[cy L.length (h+d)]? =some none\/∃n,L[cy L.length (h+d)]? =some (some (k,n))
structure First (L:List vk) (h:Nat) (k:ByteArray) (d:Nat):Prop where
 lt:d<L.length
 stop:Stop L h k d
 first:∀d',d'<d->¬Stop L h k d'
section
variable {H:ByteArray->Nat} {L:List vk} {X:Nat->Nat->Prop} {k:ByteArray} {n:Int}
theorem cyc (m a:Nat):(a<m/\cy m a=a)\/(m<=a/\cy m a=a - m):=by
 unfold cy;split<;>omega
theorem ad1 {m a:Nat} (h:a<2 * m):cy m a<m:=by unfold cy;split<;>omega
theorem acn (L:List vk) {i:Nat} (h:i<L.length):L[i]? =some none\/∃k n,L[i]? =some (some (k,n)):=by
 rw[List.getElem?_eq_getElem h]
 cases hx:L[i] with
 |none=>exact .inl rfl
 |some e=>exact .inr ⟨e.1,e.2,rfl⟩
theorem Y5 (t:T H L X) (hX:∀i p,¬X i p) (_:H k<L.length) {i:Nat} (hi:L[i]? =some (some (k,n))) {d:Nat} (f:First L (H k) k d):cy L.length (H k+d)=i:=by
 obtain⟨D,hD,hc,hu⟩:=t.reach i k n hi;have hs:Stop L (H k) k D:= .inr ⟨n,by rw[hc];exact hi⟩;have h1:¬D<d:=λu=>f.first D u hs
 by_cases h2:d<D
 ·rcases hu d h2 with ⟨e,he⟩|hx
  ·rcases f.stop with h0|⟨n',h0⟩
   ·rw[he] at h0;cases h0
   ·exact t.dist _ _ _ _ _ h0 hi
  ·exact absurd hx (hX _ _)
 ·have:d=D:=by omega
  rw[this,hc]
theorem RF (u:∀n,¬Has L k n) {h:Nat} (hh:h<L.length) {d:Nat} (f:First L h k d):L[cy L.length (h+d)]? =some none/\∀d',d'<d->used L (cy L.length (h+d')):=by
 refine⟨?_,λd' hd=> ?_⟩
 ·rcases f.stop with h0|⟨n',h0⟩
  ·exact h0
  ·exact absurd ⟨_,h0⟩ (u n')
 ·have hlt:=f.lt;rcases acn L (ad1 (m:=L.length) (a:=h+d') (by omega)) with h0|⟨k',n',h0⟩
  ·exact absurd (.inl h0) (f.first d' hd)
  ·exact⟨_,h0⟩
theorem iO (L:List vk) (q i:Nat) (e:vk):(L.set q e)[i]? =if q=i/\q<L.length then some e else L[i]? :=by
 rw[List.getElem?_set];by_cases h1:q=i
 ·subst h1;by_cases h2:q<L.length
  ·simp[h2]
  ·simp[h2]
 ·simp[h1]
theorem ϊ {q i:Nat} {e:vk} (hu:used L i) (hn:L[q]? =some none):used (L.set q e) i:=by
 obtain⟨x,hx⟩:=hu;refine⟨x,?_⟩;rw[iO,if_neg]
 ·exact hx
 ·rintro⟨rfl,_⟩;rw[hn] at hx;cases hx
theorem insert (t:T H L X) (u:∀n,¬Has L k n) (hh:H k<L.length) {d:Nat} (f:First L (H k) k d):T H (L.set (cy L.length (H k+d)) (some (k,n))) X:=by
 obtain⟨hn,hu⟩:=RF u hh f;have hq:cy L.length (H k+d)<L.length:=(List.getElem?_eq_some_iff.1 hn).1;refine⟨λi j k' n1 n2 hi hj=> ?_,λi k' n1 hi=> ?_⟩
 ·rw[iO] at hi hj;split at hi<;>split at hj
  ·rename_i h1 h2;rw[<- h1.1,<- h2.1]
  ·cases hi;exact absurd ⟨_,hj⟩ (u n2)
  ·cases hj;exact absurd ⟨_,hi⟩ (u n1)
  ·exact t.dist _ _ _ _ _ hi hj
 ·rw[iO] at hi;simp only[length_set];split at hi
  ·rename_i h1
   cases hi
   exact⟨d,f.lt,h1.1,λd' hd=> .inl (ϊ (hu d' hd) hn)⟩
  ·obtain⟨D,hD,hc,hx⟩:=t.reach i k' n1 hi;exact⟨D,hD,hc,λd' hd=>(hx d' hd).imp (λh=>ϊ h hn) id⟩
theorem KG {q:Nat} (hn:L[q]? =some none) (u:∀n,¬Has L k n) (k':ByteArray) (n':Int):Has (L.set q (some (k,n))) k' n'↔(k'=k/\n'=n)\/(k'≠k/\Has L k' n'):=by
 have hq:q<L.length:=(List.getElem?_eq_some_iff.1 hn).1;constructor
 ·rintro⟨i,hi⟩;rw[iO] at hi;split at hi
  ·cases hi;exact .inl ⟨rfl,rfl⟩
  ·refine .inr ⟨?_,i,hi⟩;rintro rfl;exact u _ ⟨i,hi⟩
 ·rintro(⟨rfl,rfl⟩|⟨hk,i,hi⟩)
  ·exact⟨q,by rw[iO,if_pos ⟨rfl,hq⟩]⟩
  ·refine⟨i,?_⟩;rw[iO,if_neg]
   ·exact hi
   ·rintro⟨rfl,_⟩;rw[hn] at hi;cases hi
theorem update (t:T H L X) {q:Nat} {n0:Int} (hq:L[q]? =some (some (k,n0))):T H (L.set q (some (k,n))) X:=by
 have u:q<L.length:=(List.getElem?_eq_some_iff.1 hq).1;have old:∀(i:Nat) (k':ByteArray) (n1:Int),(L.set q (some (k,n)))[i]? =some (some (k',n1))->∃n2:Int,L[i]? =some (some (k',n2)):=by
  intro i k' n1 hi;rw[iO] at hi;split at hi
  ·rename_i h1;cases hi;exact⟨n0,by rw[<- h1.1];exact hq⟩
  ·exact⟨n1,hi⟩
 have us:∀i,used L i->used (L.set q (some (k,n))) i:=by
  rintro i ⟨e,he⟩;by_cases h:q=i
  ·exact⟨_,by rw[iO,if_pos ⟨h,u⟩]⟩
  ·exact⟨e,by rw[iO,if_neg (λx=>h x.1)];exact he⟩
 refine⟨λi j k' n1 n2 hi hj=> ?_,λi k' n1 hi=> ?_⟩
 ·obtain⟨_,h1⟩:=old _ _ _ hi;obtain⟨_,h2⟩:=old _ _ _ hj;exact t.dist _ _ _ _ _ h1 h2
 ·obtain⟨_,h1⟩:=old _ _ _ hi;simp only[length_set];obtain⟨D,hD,hc,hx⟩:=t.reach i k' _ h1;exact⟨D,hD,hc,λd' hd=>(hx d' hd).imp (us _) id⟩
theorem RS (t:T H L X) {q:Nat} {n0:Int} (hq:L[q]? =some (some (k,n0))) (k':ByteArray) (n':Int):Has (L.set q (some (k,n))) k' n'↔(k'=k/\n'=n)\/(k'≠k/\Has L k' n'):=by
 have u:q<L.length:=(List.getElem?_eq_some_iff.1 hq).1;constructor
 ·rintro⟨i,hi⟩;rw[iO] at hi;split at hi
  ·cases hi;exact .inl ⟨rfl,rfl⟩
  ·rename_i h1;refine .inr ⟨?_,i,hi⟩;rintro rfl;exact h1 ⟨t.dist _ _ _ _ _ hq hi,u⟩
 ·rintro(⟨rfl,rfl⟩|⟨hk,i,hi⟩)
  ·exact⟨q,by rw[iO,if_pos ⟨rfl,u⟩]⟩
  ·refine⟨i,?_⟩;rw[iO,if_neg]
   ·exact hi
   ·rintro⟨rfl,_⟩;rw[hq] at hi;cases hi;exact hk rfl
def off (m at_ i:Nat):Nat:=if at_<=i then i - at_ else i+m - at_
theorem aiN (m at_ i:Nat):(at_<=i/\off m at_ i=i - at_)\/(i<at_/\off m at_ i=i+m - at_):=by
 unfold off;split<;>omega
def Xj (m at_ e j i p:Nat):Prop:=j<=off m at_ i/\off m at_ i<e/\off m at_ p<j
structure Zone (L:List vk) (at_ e j:Nat):Prop where
 at_lt:at_<L.length
 e1:e<L.length
 je:j<=e
 full:∀d,j<=d->d<e->used L (cy L.length (at_+d))
 free:L[cy L.length (at_+e)]? =some none
theorem way {m at_ e j h d D:Nat} (hat:at_<m) (he:e<m) (hje:j<e) (hh:h<m) (hD:D<m) (hd:d<D) (hp:cy m (at_+j)=cy m (h+d))
  (hz:¬(j<=off m at_ (cy m (h+D))/\off m at_ (cy m (h+D))<e)):(cy m (at_+e)=cy m (h+(d+(e - j)))/\d+(e - j)<D)\/cy m (at_+e)=cy m (h+D):=by
 have c1:=cyc m (at_+j);have c2:=cyc m (h+d);have c3:=cyc m (h+D);have c4:=cyc m (at_+e);have c5:=cyc m (h+(d+(e - j)));have o1:=aiN m at_ (cy m (h+D));omega
theorem clear {at_ e j:Nat} (z:Zone L at_ e j) (hj:j<e) (hH:∀k,H k<L.length) (t:T H L (Xj L.length at_ e j)):T H (L.set (cy L.length (at_+j)) none) (Xj L.length at_ e (j+1)):=by
 have J:=z.at_lt;have he:=z.e1;have hp:cy L.length (at_+j)<L.length:=ad1 (by omega);have old:∀(i:Nat) (k':ByteArray) (n1:Int),(L.set (cy L.length (at_+j)) none)[i]? =some (some (k',n1))->L[i]? =some (some (k',n1))/\cy L.length (at_+j)≠i:=by
  intro i k' n1 hi;rw[iO] at hi;split at hi
  ·cases hi
  ·rename_i h1;exact⟨hi,λh=>h1 ⟨h,hp⟩⟩
 refine⟨λi j' k' n1 n2 hi hj'=>t.dist _ _ _ _ _ (old _ _ _ hi).1 (old _ _ _ hj').1,λi k' n1 hi=> ?_⟩;obtain⟨hi,N⟩:=old _ _ _ hi;simp only[length_set];obtain⟨D,hD,hc,hx⟩:=t.reach i k' n1 hi;have hh:=hH k';have hlt:i<L.length:=(List.getElem?_eq_some_iff.1 hi).1;have hoff:off L.length at_ i≠j:=by
  intro h;apply N;unfold off at h;unfold cy;split at h<;>split<;>omega
 refine⟨D,hD,hc,λd hd=> ?_⟩;by_cases I:cy L.length (at_+j)=cy L.length (H k'+d)
 ·
  right;have o1:off L.length at_ (cy L.length (H k'+d))=j:=by rw[<- I];unfold off cy;split<;>split<;>omega
  refine⟨?_,?_,by omega⟩
  all_goals
   by_cases hz:j<=off L.length at_ i/\off L.length at_ i<e
   ·omega
   ·exfalso;have u:=z.free;have key:=way J he hj hh hD hd I (by rw[hc];exact hz);rcases key with ⟨k1,k2⟩|k1
    ·rcases hx _ k2 with ⟨x,hu⟩|hX
     ·rw[<- k1,u] at hu;cases hu
     ·exact hz ⟨hX.1,hX.2.1⟩
    ·rw[k1,hc,hi] at u;cases u
 ·rcases hx d hd with ⟨x,hu⟩|hX
  ·exact .inl ⟨x,by rw[iO,if_neg (λh=>I h.1)];exact hu⟩
  ·exact .inr ⟨by have:=hX.1;omega,hX.2.1,by have:=hX.2.2;omega⟩
theorem ahx {m h i:Nat} (hh:h<m) (hi:i<m):off m h i<m/\cy m (h+off m h i)=i:=by
 have c1:=cyc m (h+off m h i);have o1:=aiN m h i;omega
theorem ND {h i:Nat} (hh:h<L.length) (hi:L[i]? =some none):∃d,d<L.length/\Stop L h k d:=by
 have u:i<L.length:=(List.getElem?_eq_some_iff.1 hi).1;obtain⟨h1,h2⟩:=ahx hh u;exact⟨_,h1,.inl (by rw[h2];exact hi)⟩
def cnt:List vk->Nat
 |[]=>0
 |none::r=>cnt r
 |some _::r=>cnt r+1
theorem cnt_le:∀L:List vk,cnt L<=L.length
 |[]=>Nat.le_refl _
 |none::r=>by have:=cnt_le r;simp only[cnt,length_cons];omega
 |some _::r=>by have:=cnt_le r;simp only[cnt,length_cons];omega
theorem Xd:∀{L:List vk},cnt L<L.length->∃i:Nat,L[i]? =some none
 |[],h=>by simp[cnt] at h
 |none::_,_=>⟨0,rfl⟩
 |some _::r,h=>by
  obtain⟨i,hi⟩:=Xd (L:=r) (by simp only[cnt,length_cons] at h;omega);exact⟨i+1,by simpa using hi⟩
theorem LW:∀{L:List vk} {i:Nat} {e:ByteArray×Int},L[i]? =some none->cnt (L.set i (some e))=cnt L+1
 |[],_,_,h=>by simp at h
 |x::r,0,e,h=>by simp at h;subst h;rfl
 |x::r,i+1,e,h=>by
  have:=LW (L:=r) (i:=i) (e:=e) (by simpa using h)
  cases x<;>simp only[List.set_cons_succ,cnt,this]
theorem LX:∀{L:List vk} {i:Nat} {e e':ByteArray×Int},L[i]? =some (some e)->cnt (L.set i (some e'))=cnt L
 |[],_,_,_,h=>by simp at h
 |x::r,0,_,_,h=>by simp at h;subst h;rfl
 |x::r,i+1,e,e',h=>by
  have:=LX (L:=r) (i:=i) (e:=e) (e':=e') (by simpa using h)
  cases x<;>simp only[List.set_cons_succ,cnt,this]
theorem afG (n:Nat):cnt (List.replicate n none)=0:=by
 induction n with
 |zero=>rfl
 |succ n ih=>rw[List.replicate_succ];exact ih
end
end Gp.Hash
end
section
namespace Go.Proofs
open Gp Gp.Hash
theorem agO {m from_ i:Nat} (hm:m<=2^48) (hf:from_<m) (hi:i<m):Int.tmod (ο.wrap ((from_:Int)+(i:Int))) (m:Int)=((cy m (from_+i):Nat):Int):=by
 rw[Α,Int.tmod_eq_emod_of_nonneg (by omega)];have c:=cyc m (from_+i);rcases c with ⟨h1,h2⟩|⟨h1,h2⟩
 ·rw[h2,Int.emod_eq_of_lt (by omega) (by omega)];omega
 ·rw[h2];have:((from_:Int)+(i:Int))=((from_+i - m:Nat):Int)+(m:Int):=by omega
  rw[this,Int.add_emod_right,Int.emod_eq_of_lt (by omega) (by omega)]
theorem afm {w:θ} {f0 f1 b from_ m:Nat} {body:Nat->yu [.one ν]->θ->(Exit->b_)->Prop} {Kn Kr:b_} {Kx:List (Nat×(b_))}
  (I:Nat->b_) (J:Exit->b_) (hm:m<=2^48) (hf:from_<m)
  (h0:∀w1,(∀S,gW w w1 S)->w1.heap[w.heap.size]? =some (.deferred (some []))->w1.heap.size=w.heap.size+2->I 0 w1)
  (hI:∀i W,I i W->Row W f0 [.pointer (some ⟨b,0,none⟩)]/\Row W f1 [Β from_]/\∃s,W.cell? ⟨b,0,none⟩=some (.slice s m m))
  (stI:∀i W W',I i W->gW W W' (·=w.heap.size+1)->I i W')
  (stJ:∀e W W',J e W->gW W W' (·=w.heap.size+1)->J e W')
  (jmp:∀e W,J e W->e= .ret\/∃id,e= .exit id)
  (step:∀i W Kb,i<m->I i W->(∀W',W'.heap[w.heap.size+1]? =(gG W (w.heap.size+1)).heap[w.heap.size+1]? ->I (i+1) W'->Kb .normal W')->
   (∀e W',W'.heap[w.heap.size+1]? =(gG W (w.heap.size+1)).heap[w.heap.size+1]? ->J e W'->Kb e W')->body (w.heap.size+1) (((cy m (from_+i):Nat):Int),()) W Kb)
  (fn:∀W,I m W->Kn W) (fr:∀W,J .ret W->Kr W) (fx:∀id W,J (.exit id) W->RD id Kx W):
  yI υ none [.one ν] (Value.func (.func yG) #[] #[(Value.pointer (some ⟨f0,0,none⟩)),(Value.pointer (some ⟨f1,0,none⟩))]) w body Kn Kr Kx:=by
 refine⟨λl₀ h=>(by cases h),by kernel_rfl,λl L w1 ctx=> ?_⟩;have hl:l=w.heap.size+1:=ctx.at_;subst hl;refine Calls.mono (G_ (a0:= .func (.yield (w.heap.size+1)) #[] #[]) (f0:=⟨f0,0,none⟩) (f1:=⟨f1,0,none⟩)
  (K:=λw2=>∃st p,L st p w2/\st≠.busy/\aeK Kn Kr Kx p (iQ w2 (w.heap.size+1) .exhausted p)) ?_) (λe w' h=>h)
 have i0:=h0 w1 (λS=>⟨by have:=ctx.size;omega,λb hb _=>ctx.old b hb,ctx.io⟩) (ctx.marks rfl) ctx.size;obtain⟨r0,r1,s,hs⟩:=hI _ _ i0;simp only[sx,r0.cell,hs];refine gX (λst W=>(∃i:Nat,i<=m/\st.1=i/\I i W)/\L .ready none W) (λst _=>m - st.1.toNat) ⟨⟨0,by omega,rfl,i0⟩,ctx.ready⟩ ?_;rintro⟨x,⟨⟩⟩ W ⟨⟨i,hi,rfl,R⟩,hL⟩ next N
 by_cases U:i<m
 ·have u:((i:Int)<(m:Int)):=by omega
  simp only[u,decide_true,cond_true];have Y:=stI _ _ _ R (gW.drew W _);have O:L .ready none W.drew:=ctx.frame _ _ _ _ hL rfl;obtain⟨r0,r1,s,hs⟩:=hI _ _ Y;simp only[MB,getElem?_cons_zero,f_,gQ,gJ,EG,r0.cell,r1.cell,hs];refine⟨by omega,?_⟩;rw[agO hm hf U];refine ctx.yield (((cy m (from_+i):Nat):Int),()) W.drew none _ O (step i W.drew _ U Y ?_ ?_)
  ·intro W' hh hI';refine⟨ctx.frame _ _ _ _ (ctx.busy _ _ O) hh,none,rfl,true,rfl,?_⟩;simp only[Bool.not_true,cond_false];refine N _ _ ⟨⟨i+1,by omega,?_,stI _ _ _ hI' (gW.iQ _ _ _ _)⟩,ctx.set _ _ _ _ _ (ctx.frame _ _ _ _ (ctx.busy _ _ O) hh)⟩ ?_
   ·simp only;rw[Α];omega
   ·simp only;rw[Α];omega
  ·intro e W' hh hJ;have hb:=ctx.frame _ _ _ _ (ctx.busy _ _ O) hh;rcases jmp _ _ hJ with rfl|⟨id,rfl⟩
   ·refine⟨hb,_,rfl,false,rfl,?_⟩;simp only[Bool.not_false,cond_true];refine⟨.done,some .ret,ctx.set _ _ _ _ _ hb,by simp,?_⟩;exact fr _ (stJ _ _ _ (stJ _ _ _ hJ (gW.iQ _ _ _ _)) (gW.iQ _ _ _ _))
   ·refine⟨hb,_,rfl,false,rfl,?_⟩;simp only[Bool.not_false,cond_true];refine⟨.done,some (.exit id),ctx.set _ _ _ _ _ hb,by simp,?_⟩;exact fx _ _ (stJ _ _ _ (stJ _ _ _ hJ (gW.iQ _ _ _ _)) (gW.iQ _ _ _ _))
 ·have u:¬((i:Int)<(m:Int)):=by omega
  simp only[u,decide_false,cond_false];have:i=m:=by omega
  subst this;exact⟨.ready,none,hL,by simp,fn _ (stI _ _ _ R (gW.iQ _ _ _ _))⟩
def Oi:vk->ByteArray
 |none=>bs []
 |some x=>x.1
def eN:vk->Int
 |none=>0
 |some x=>x.2
def eU:vk->Bool
 |none=>false
 |some _=>true
def Ol (e:vk):List Value:=[.string (Oi e),Β (eN e),.bool (eU e)]
theorem Gv (e:vk):(Ol e).length=3:=rfl
def slA (s:Nat) (L:List vk):fO:=if L=[] then none else some ⟨s,0,none⟩
structure HT (w:θ) (b s:Nat) (L:List vk) (many most:Int):Prop where
 hd:Row w b [.slice (slA s L) L.length L.length,Β many,Β most,.bool true]
 row:L≠[]->Row w s (L.flatMap Ol)
 ne:L≠[]->b≠s
 sz:L.length<=2^20
theorem HT.fr {w w':θ} {b s:Nat} {L:List vk} {many most:Int} {S:Nat->Prop} (h:HT w b s L many most) (hf:gW w w' S) (h1:¬S b) (h2:L≠[]->¬S s):HT w' b s L many most:=
 ⟨h.hd.fr hf h1,λhn=>(h.row hn).fr hf (h2 hn),h.ne,h.sz⟩
theorem HT.VF {w w':θ} {b s:Nat} {L:List vk} {many most:Int} (h:HT w b s L many most) (hf:∀S,gW w w' S):HT w' b s L many most:=
 h.fr (hf λ_=>False) (by simp) (by simp)
theorem HT.ent {w:θ} {b s:Nat} {L:List vk} {many most:Int} (h:HT w b s L many most) {i:Nat} {e:vk} (hi:L[i]? =some e) (j:Nat) (hj:j<3):w.cell? ⟨s,i * 3+j,none⟩=(Ol e)[j]? :=by
 have hn:L≠[]:=by rintro rfl;simp at hi
 rw[(h.row hn).cell,flat_get _ 3 Gv _ _ j hj,hi];rfl
def hTo (k:ByteArray):Nat->Int
 |0=>2166136261
 |i+1=>match k[i]? with
  |some c=>IntKind.u32.wrap (Ue .u32 (hTo k i) (IntKind.u32.wrap (c.toNat:Int)) * 16777619)
  |none=>0
def rY (k:ByteArray) (m:Nat):Nat:=(Int.tmod (hTo k k.size) (m:Int)).toNat
theorem ϐ (n:Int):0<=IntKind.u32.wrap n/\IntKind.u32.wrap n<4294967296:=by
 rw[IntKind.wrap_u32];omega
theorem aex (k:ByteArray) (i:Nat):0<=hTo k i/\hTo k i<4294967296:=by
 cases i with
 |zero=>simp[hTo]
 |succ i=>
  simp only[hTo];split
  ·exact ϐ _
  ·omega
theorem GN (k:ByteArray) {m:Nat} (hm:0<m):rY k m<m:=by
 unfold rY;have h:=(aex k k.size).1;rw[Int.tmod_eq_emod_of_nonneg h];have:=Int.emod_lt_of_pos (hTo k k.size) (b:=(m:Int)) (by omega);have:=Int.emod_nonneg (hTo k k.size) (b:=(m:Int)) (by omega);omega
theorem af4 (k:ByteArray) (m:Nat) (hm:0<m) (hm2:m<=2^20) (w:θ) (hk:k.size<=2^63 - 1):F5 k (m:Int) w λr w'=>r=(rY k m:Int)/\w'=w:=by
 apply XE;refine gX (λst W=>(∃i:Nat,i<=k.size/\st.2.1=i/\st.1=hTo k i)/\W=w) (λst _=>k.size - st.2.1.toNat) ⟨⟨0,by omega,rfl,rfl⟩,rfl⟩ ?_;rintro⟨x,y,⟨⟩⟩ W ⟨⟨i,hi,rfl,rfl⟩,rfl⟩ next I
 by_cases J:i<k.size
 ·have u:((i:Int)<(k.size:Int)):=by omega
  simp only[u,decide_true,cond_true];have hg:k[i]? =some k[i]:=by simp[J]
  refine⟨k[i],by omega,by simp,?_⟩;have e:ο.wrap ((i:Int)+1)=((i+1:Nat):Int):=by rw[Α];omega
  rw[e];refine I _ _ ⟨⟨i+1,by omega,rfl,?_⟩,rfl⟩ (by simp only;omega);simp only[hTo,hg]
 ·have u:¬((i:Int)<(k.size:Int)):=by omega
  simp only[u,decide_false,cond_false];have e1:IntKind.u32.wrap (m:Int)=m:=by rw[IntKind.wrap_u32];omega
  have:i=k.size:=by omega
  subst this;rw[e1];refine⟨by omega,?_,by trivial⟩;have h1:=GN k hm;have h2:Int.tmod (hTo k k.size) (m:Int)=(rY k m:Int):=by
   unfold rY;have:=Int.tmod_nonneg (m:Int) (aex k k.size).1;omega
  rw[h2,Α]
theorem agZ (tb:Nat) (x:Int) (w:θ):vK (some ⟨tb,0,none⟩) x w λr w'=>∃f0 f1,r= .func (.func yG) #[] #[(Value.pointer (some ⟨f0,0,none⟩)),(Value.pointer (some ⟨f1,0,none⟩))]/\
  Row w' f0 [.pointer (some ⟨tb,0,none⟩)]/\Row w' f1 [Β x]/\w.heap.size<=f0/\w.heap.size<=f1/\∀S,gW w w' S:=by
 apply KW;refine⟨rfl,uo λa2 w1 r1 e1 _ f1=>⟨rfl,uo λa4 w3 r3 e3 _ f3=>⟨a2,a4,rfl,r1.fr (f3 λ_=>False) (by simp),r3,by omega,by have:=(f1 λ_=>False).size;omega,λS=>(f1 S).trans (f3 S) λ_ _ e=>e⟩⟩⟩
theorem VK {w:θ} {b s:Nat} {L:List vk} {many most:Int} (h:HT w b s L many most):oZ (some ⟨b,0,none⟩) w λr w'=>r=true/\w'=w:=by
 apply Jk;simp only[sx,h.hd.cell,Bool.not_false];exact⟨trivial,trivial⟩
theorem gW.putObj (w:θ) (b:Nat) (o:Obj):gW w (w.putObj b o) (·=b):=
 ⟨by simp[World.putObj],λc _ hn=>by simp[World.putObj,Array.getElem?_setIfInBounds];omega,rfl,rfl,rfl⟩
theorem toList_inj {a b:ByteArray} (h:a.toList=b.toList):a=b:=by
 rw[ByteArray.toList_eq,ByteArray.toList_eq] at h
 cases a;cases b
 simp at h;rw[h]
theorem V6 {a b:ByteArray}:strEq a b=true↔a=b:=by
 unfold strEq;constructor
 ·intro h;exact toList_inj (by simpa using h)
 ·rintro rfl;simp
theorem Yu {w:θ} {T:TypeId} {x y z x' y' z':Value} {K:Addr->b_} (h1:iL x'=true) (h2:iL y'=true) (h3:iL z'=true)
  (h:∀a w',Row w' a [x',y',z']->w.heap.size<=a->(∀S,gW w w' S)->K ⟨a,0,none⟩ w'):
  Al w (.cells ⟨[x,y,z]⟩ T) λa w1=>St w1 (a.add 0) x' λw2=>St w2 (a.add 1) y' λw3=>St w3 (a.add 2) z' λw4=>K a w4:=by
 refine uo λa w1 r1 e1 _ f1=> ?_;simp only[sx];refine g_ r1 h1 (by simp) λw2 r2 f2 _=> ?_;refine g_ r2 h2 (by simp) λw3 r3 f3 _=> ?_;refine g_ r3 h3 (by simp) λw4 r4 f4 _=> ?_;refine h a w4 r4 (by omega) λS=> ?_;exact(((f1 S).trans (f2 (·=a) rfl) λx hx e=>by omega).trans (f3 (·=a) rfl) λx hx e=>by omega).trans (f4 (·=a) rfl) λx hx e=>by omega
def adp (L:List vk) (k:ByteArray) (at_:Int) (t:Bool):Prop:=
 ∃d,First L (rY k L.length) k d/\at_=((cy L.length (rY k L.length+d):Nat):Int)/\
  ((t=true/\∃n,L[cy L.length (rY k L.length+d)]? =some (some (k,n)))\/(t=false/\L[cy L.length (rY k L.length+d)]? =some none))
structure FI (w W:θ) (S:Nat->Prop):Prop where
 fr:gW w W S
 mark:W.heap[w.heap.size]? =some (.deferred (some []))
 size:w.heap.size+2<=W.heap.size
theorem FI.st {w W W':θ} {S:Nat->Prop} (h:FI w W S) (hf:gW W W' (·=w.heap.size+1)):FI w W' S:=
 ⟨h.fr.trans hf λb hb e=>by omega,by rw[hf.same _ (by have:=h.size;omega) (by omega)];exact h.mark,by have:=h.size;have:=hf.size;omega⟩
theorem Za {w:θ} {b s:Nat} {L:List vk} {many most:Int} {k:ByteArray} (h:HT w b s L many most) (O:L≠[]) (hk:k.size<=2^63 - 1) (hs:∃d,d<L.length/\Stop L (rY k L.length) k d):
  jS (some ⟨b,0,none⟩) k w λat_ t w'=>adp L k at_ t/\∀S,gW w w' S:=by
 apply Au;have I:0<L.length:=by cases L with
  |nil=>exact absurd rfl O
  |cons _ _=>simp
 have ac:=h.sz;have hh:=GN k I;refine⟨rfl,uo λa2 w1 r2 e2 _ f1=>⟨rfl,uo λa4 w3 r4 e4 _ f3=>uo λa6 w5 r6 e6 _ f5=>uo λa8 w7 r8 e8 _ f7=> ?_⟩⟩;have s1:=(f1 λ_=>False).size;have s3:=(f3 λ_=>False).size;have s5:=(f5 λ_=>False).size;have s7:=(f7 λ_=>False).size;have l2:=r2.lt;have l4:=r4.lt;have l6:=r6.lt;have Y:∀S,gW w w7 S:=λS=>(((f1 S).trans (f3 S) λ_ _ e=>e).trans (f5 S) λ_ _ e=>e).trans (f7 S) λ_ _ e=>e;have h7:=h.VF Y;have r2:Row w7 a2 _:=((r2.fr (f3 λ_=>False) (by simp)).fr (f5 λ_=>False) (by simp)).fr (f7 λ_=>False) (by simp);have r4:Row w7 a4 _:=(r4.fr (f5 λ_=>False) (by simp)).fr (f7 λ_=>False) (by simp);have r6:Row w7 a6 _:=r6.fr (f7 λ_=>False) (by simp);have hl0:((L.length:Int)==0)=false:=by simp;omega
 have h7d:HT w7.drew b s L many most:=h7.VF λS=>gW.drew _ S;have r2d:=r2.drew;have r4d:=r4.drew;simp only[sx,r2.cell,r2d.cell,r4d.cell,h7.hd.cell,h7d.hd.cell,hl0];refine cmS1 (af4 k L.length I ac w7.drew hk) ?_;rintro r w22 ⟨rfl,rfl⟩;refine⟨by simp[r2d.cell],?_⟩;refine cmS5 (agZ b _ _) ?_;rintro r u ⟨g0,g1,rfl,q0,q1,lg0,lg1,f24⟩;have r2:Row u a2 _:=r2d.fr (f24 λ_=>False) (by simp);have r4:Row u a4 _:=r4d.fr (f24 λ_=>False) (by simp);have r6:Row u a6 _:=r6.drew.fr (f24 λ_=>False) (by simp);have r8:Row u a8 _:=r8.drew.fr (f24 λ_=>False) (by simp);have Z:=h7d.VF f24;have f024:∀S,gW w u S:=λS=>((Y S).trans (gW.drew _ S) λ_ _ e=>e).trans (f24 S) λ_ _ e=>e;have l8:=r8.lt;have hb:=h.hd.lt;have hs7:w7.heap.size<=u.heap.size:=by have:=(f24 λ_=>False).size;exact this
 have hsl:s<w.heap.size:=(h.row O).lt;have lg0':=q0.lt;have lg1':=q1.lt;have hg0:w7.heap.size<=g0:=lg0;have hg1:w7.heap.size<=g1:=lg1;refine afm (b:=b) (m:=L.length) (from_:=rY k L.length)
  (λi W=>(∀d,d<i->¬Stop L (rY k L.length) k d)/\FI u W λ_=>False)
  (λe W=>e= .ret/\(FI u W λx=>x=a6\/x=a8)/\∃at_ t,Row W a6 [Β at_]/\Row W a8 [.bool t]/\adp L k at_ t)
  (by omega) hh ?_ ?_ ?_ ?_ ?_ ?_ ?_ ?_ ?_
 ·exact λw1 hf hm hz=>⟨λd hd=>by omega,hf _,hm,by omega⟩
 ·exact λi W hI=>⟨q0.fr hI.2.fr (by simp),q1.fr hI.2.fr (by simp),_,by rw[(Z.hd.fr hI.2.fr (by simp)).cell];rfl⟩
 ·exact λi W W' hI hf=>⟨hI.1,hI.2.st hf⟩
 ·rintro e W W' ⟨rfl,hF,at_,t,ra,rt,hr⟩ hf;exact⟨by trivial,hF.st hf,at_,t,ra.fr hf (by omega),rt.fr hf (by omega),hr⟩
 ·exact λe W hJ=> .inl hJ.1
 ·rintro i W Kb hi ⟨J,hF⟩ hn hj;have hFz:=hF.size;have zb:=(gW.gG W (u.heap.size+1)).size;have fb:gW u (gG W (u.heap.size+1)) λ_=>False:=hF.fr.trans (gW.gG W _) λx hx e=>by omega
  have hW:HT (gG W (u.heap.size+1)) b s L many most:=Z.fr fb (by simp) (by simp);have q2:=r2.fr fb (by simp);have q4:=r4.fr fb (by simp);have q6:=r6.fr fb (by simp);have q8:=r8.fr fb (by simp);refine⟨by trivial,?_⟩;simp only[MB,getElem?_cons_zero,f_,gQ,EG,q2.cell,hW.hd.cell];have hx:cy L.length (rY k L.length+i)<L.length:=ad1 (by omega);have he:∃e,L[cy L.length (rY k L.length+i)]? =some e:=⟨_,List.getElem?_eq_getElem hx⟩;obtain⟨e,he⟩:=he;have c0:=hW.ent he 0 (by omega);have c1:=hW.ent he 1 (by omega);have c2:=hW.ent he 2 (by omega);refine zI (b:=s) (o:=0) (by simp[slA,O]) (by omega) (by simp only;omega) ?_;simp only[toNat_natCast,Nat.zero_add];simp only[Nat.add_zero] at c0;simp only[sx,c0,c1,c2,Ol];refine Yu rfl rfl rfl λa37 N af e37 f40=> ?_;have fb40:gW u N λ_=>False:=fb.trans (f40 _) λ_ _ e=>e;have l40:=(f40 λ_=>False).size;have q6:=q6.fr (f40 λ_=>False) (by simp);have q8:=q8.fr (f40 λ_=>False) (by simp);have q4:=q4.fr (f40 λ_=>False) (by simp);have hm40:N.heap[u.heap.size]? =some (.deferred (some [])):=by rw[(f40 λ_=>False).same _ (by omega) (by simp),(gW.gG W _).same _ (by omega) (by omega)];exact hF.mark
  have hk40:N.heap[u.heap.size+1]? =(gG W (u.heap.size+1)).heap[u.heap.size+1]? :=(f40 λ_=>False).same _ (by omega) (by simp);have out:∀(v:Int) (t:Bool),adp L k v t->St N ⟨a6,0,none⟩ (Β v) λaa=>St aa ⟨a8,0,none⟩ (Value.bool t) λR=>Kb .ret R:=by
   intro v t hr;refine g_ q6 rfl (by simp) λaa ag f42 z42=> ?_;refine g_ (q8.fr (f42 (·=a6) rfl) (by omega)) rfl (by simp) λR ah f43 z43=> ?_;have f0:gW N R λx=>x=a6\/x=a8:=(f42 _ (.inl rfl)).trans (f43 _ (.inr rfl)) λ_ _ e=>e;refine hj _ _ ?_ ⟨rfl,⟨(fb40.mono λ_ e=>e.elim).trans f0 λ_ _ e=>e,?_,by have:=f0.size;omega⟩,v,t,(ag.fr (f43 (·=a8) rfl) (by omega)),ah,hr⟩
   ·rw[f0.same _ (by omega) (by omega)];exact hk40
   ·rw[f0.same _ (by omega) (by omega)];exact hm40
  simp only[sx,af.cell,q4.cell]
  cases e with
  |none=>
   simp only[eU,Bool.not_false,cond_true];exact out _ _ ⟨i,⟨hi,.inl he,J⟩,rfl,.inr ⟨rfl,he⟩⟩
  |some x=>
   obtain⟨k',n'⟩:=x;simp only[eU,Bool.not_true,cond_false,cond_false,Oi]
   cases U:strEq k' k with
   |true=>
    have:=V6.1 U;subst this;simp only[cond_true];exact out _ _ ⟨i,⟨hi,.inr ⟨_,he⟩,J⟩,rfl,.inl ⟨rfl,_,he⟩⟩
   |false=>
    simp only[cond_false];refine hn _ hk40 ⟨λd hd=> ?_,fb40,hm40,by omega⟩;by_cases ai:d=i
    ·subst ai;rintro(h1|⟨n,h1⟩)
     ·rw[he] at h1;cases h1
     ·rw[he] at h1;cases h1;rw[V6.2 rfl] at U;cases U
    ·exact J d (by omega)
 ·rintro W ⟨J,_⟩;obtain⟨d,hd,aj⟩:=hs;exact absurd aj (J d hd)
 ·rintro W ⟨_,hF,at_,t,ra,rt,hr⟩;refine⟨hF.mark,?_⟩;have pf:=gW.putObj W u.heap.size (.deferred none);simp only[getElem?_cons_zero,f_,gJ,iY,(ra.fr pf (by omega)).cell,(rt.fr pf (by omega)).cell];refine⟨hr,λS=> ?_⟩;exact((f024 S).trans hF.fr λx hx e=>by omega).trans pf λx hx e=>by omega
 ·rintro id W ⟨h,_⟩
  cases h
theorem acp {w:θ} {b s:Nat} {many most:Int} {k:ByteArray} (h:HT w b s [] many most):
  jS (some ⟨b,0,none⟩) k w λ _ t w'=>t=false/\∀S,gW w w' S:=by
 apply Au;refine⟨rfl,uo λa2 w1 r2 e2 _ f1=>⟨rfl,uo λa4 w3 r4 e4 _ f3=>uo λa6 w5 r6 e6 _ f5=>uo λa8 w7 r8 e8 _ f7=> ?_⟩⟩;have s1:=(f1 λ_=>False).size;have s3:=(f3 λ_=>False).size;have s5:=(f5 λ_=>False).size;have s7:=(f7 λ_=>False).size;have l6:=r6.lt;have u:∀S,gW w w7 S:=λS=>(((f1 S).trans (f3 S) λ_ _ e=>e).trans (f5 S) λ_ _ e=>e).trans (f7 S) λ_ _ e=>e;have h7:=h.VF u;have r2:Row w7 a2 _:=((r2.fr (f3 λ_=>False) (by simp)).fr (f5 λ_=>False) (by simp)).fr (f7 λ_=>False) (by simp);have r6:Row w7 a6 _:=r6.fr (f7 λ_=>False) (by simp);simp only[sx,r2.cell,h7.hd.cell,List.length_nil,Int.natCast_zero,beq_self_eq_true];refine g_ r6 rfl (by simp) λw12 I f12 _=> ?_;refine g_ (r8.fr (f12 (·=a6) rfl) (by omega)) rfl (by simp) λw13 J f13 _=> ?_;simp only[(I.fr (f13 (·=a8) rfl) (by omega)).cell,J.cell];exact⟨by trivial,λS=>((u S).trans (f12 (·=a6) rfl) λx hx e=>by omega).trans (f13 (·=a8) rfl) λx hx e=>by omega⟩
structure TB (w:θ) (b s:Nat) (L:List vk) (most:Int) (M:ByteArray->Option Int):Prop where
 ht:HT w b s L (cnt L:Int) most
 t:T (λk=>rY k L.length) L λ_ _=>False
 free:2 * cnt L<=L.length
 m:∀k n,M k=some n↔Has L k n
 most0:0<=most
 most1:most<=65536
 sz:L.length<=262144
 nils:L=[]->s=b
 keys:∀k n,Has L k n->k.size<=2^63 - 1
theorem TB.fr {w w':θ} {b s:Nat} {L:List vk} {most:Int} {M:ByteArray->Option Int} {S:Nat->Prop} (h:TB w b s L most M) (hf:gW w w' S) (h1:¬S b) (h2:¬S s):TB w' b s L most M:=
 ⟨h.ht.fr hf h1 λ_=>h2,h.t,h.free,h.m,h.most0,h.most1,h.sz,h.nils,h.keys⟩
theorem TB.VF {w w':θ} {b s:Nat} {L:List vk} {most:Int} {M:ByteArray->Option Int} (h:TB w b s L most M) (hf:∀S,gW w w' S):TB w' b s L most M:=
 h.fr (hf λ_=>False) (by simp) (by simp)
theorem TB.Sv {w:θ} {b s:Nat} {L:List vk} {most:Int} {M:ByteArray->Option Int} (h:TB w b s L most M) (k:ByteArray):M k=none↔∀n,¬Has L k n:=by
 constructor
 ·intro hn n hx;rw[(h.m k n).2 hx] at hn;cases hn
 ·intro hn
  cases hx:M k with
  |none=>rfl
  |some n=>exact absurd ((h.m k n).1 hx) (hn n)
theorem TB.pos {w:θ} {b s:Nat} {L:List vk} {most:Int} {M:ByteArray->Option Int} (_:TB w b s L most M) (u:L≠[]):0<L.length:=by
 cases L with
 |nil=>exact absurd rfl u
 |cons _ _=>simp
theorem RU {w:θ} {b s:Nat} {L:List vk} {most:Int} {M:ByteArray->Option Int} (h:TB w b s L most M) (k:ByteArray) (hk:k.size<=2^63 - 1):
  jS (some ⟨b,0,none⟩) k w λat_ t w'=>(∀S,gW w w' S)/\
   ((t=true/\∃(i:Nat) (n:Int),at_=(i:Int)/\L[i]? =some (some (k,n))/\M k=some n)\/
    (t=false/\M k=none/\(L≠[]->∃d,First L (rY k L.length) k d/\at_=((cy L.length (rY k L.length+d):Nat):Int)))):=by
 by_cases u:L=[]
 ·subst u;refine cmS4 (acp h.ht) ?_;rintro at_ t w' ⟨rfl,hf⟩;refine⟨hf,.inr ⟨rfl,(h.Sv k).2 ?_,λhx=>absurd rfl hx⟩⟩;rintro n ⟨i,hi⟩;simp at hi
 ·have I:=h.pos u;have hh:=GN k I;have hfr:=h.free;obtain⟨i,hi⟩:=Xd (L:=L) (by omega);refine cmS4 (Za h.ht u hk (ND hh hi)) ?_;rintro at_ t w' ⟨⟨d,hd,rfl,⟨rfl,n,hn⟩|⟨rfl,hn⟩⟩,hf⟩
  ·exact⟨hf,.inl ⟨rfl,_,n,rfl,hn,(h.m k n).2 ⟨_,hn⟩⟩⟩
  ·refine⟨hf,.inr ⟨rfl,(h.Sv k).2 ?_,λ_=>⟨d,hd,rfl⟩⟩⟩;rintro n ⟨i,hi⟩;have:=Y5 h.t (λ_ _ x=>x) hh hi hd;rw[this,hi] at hn;cases hn
theorem Xi {w:θ} {b s:Nat} {L:List vk} {most:Int} {M:ByteArray->Option Int} (h:TB w b s L most M) (k:ByteArray) (hk:k.size<=2^63 - 1):
  oz (some ⟨b,0,none⟩) k w λn t w'=>(∀S,gW w w' S)/\t=(M k).isSome/\n=(M k).getD 0:=by
 apply M_;refine cmS0 (VK h.ht) ?_;rintro r w2 ⟨rfl,rfl⟩;simp only[Bool.not_true,cond_false];refine cmS4 (RU h k hk) ?_;rintro at_ t w' ⟨hf,⟨rfl,i,n,rfl,hi,hM⟩|⟨rfl,hM,_⟩⟩
 ·have h':=h.VF hf;have u:L≠[]:=by rintro rfl;simp at hi
  have hlt:i<L.length:=(List.getElem?_eq_some_iff.1 hi).1;simp only[sx,Bool.not_true,h'.ht.hd.cell];refine zI (b:=s) (o:=0) (by simp[slA,u]) (by omega) (by simp only;omega) ?_;simp only[sx,toNat_natCast,h'.ht.ent hi 1 (by omega),Ol,eN];exact⟨hf,by simp[hM],by simp[hM]⟩
 ·simp only[Bool.not_false,cond_true];exact⟨hf,by simp[hM],by simp[hM]⟩
theorem Xk (n:Int) (w:θ):zZ n w λp e w'=>
  (∀S,gW w w' S)/\((0<=n/\n<=65536/\e=0/\∃b,p=some ⟨b,0,none⟩/\w.heap.size<=b/\TB w' b b [] n λ_=>none)\/((n<0\/65536<n)/\e=1/\p=none)):=by
 apply Zo;by_cases c1:n<0
 ·simp only[c1,decide_true,cond_true];exact⟨λS=>gW.refl _ _,.inr ⟨.inl (by first|trivial|omega),by trivial,by trivial⟩⟩
 ·by_cases c2:n>65536
  ·simp only[c1,c2,decide_true,decide_false,cond_true,cond_false];exact⟨λS=>gW.refl _ _,.inr ⟨.inr (by first|trivial|omega),by trivial,by trivial⟩⟩
  ·simp only[c1,c2,decide_false,cond_false];refine uo λa w3 r3 e3 _ f3=>⟨f3,.inl ⟨by omega,by omega,by trivial,a,rfl,by omega,?_⟩⟩;exact⟨⟨r3,λh=>absurd rfl h,λh=>absurd rfl h,by simp⟩,⟨λi j k n n' h=>by simp at h,λi k n h=>by simp at h⟩,by simp[cnt],λk n=>⟨λh=>by simp at h,λ⟨i,hi⟩=>by simp at hi⟩,by omega,by omega,by simp,λ_=>rfl,λk n ⟨i,hi⟩=>by simp at hi⟩
def tr (e:vk):ByteArray×Int×Bool:=(Oi e,eN e,eU e)
def f3 (x:ByteArray×Int×Bool):List Value:=[.string x.1,Β x.2.1,.bool x.2.2]
theorem aa_ (L:List vk):L.flatMap Ol=(L.map tr).flatMap f3:=by rw[List.flatMap_map];rfl
theorem aal (L:List vk) (i:Nat) (e:vk):(L.map tr).set i (tr e)=(L.set i e).map tr:=by rw[List.map_set]
theorem HT.aeU {w w':θ} {b s:Nat} {L L':List vk} {many most:Int} (h:HT w b s L many most) (hn:L≠[]) (hl:L'.length=L.length) (hf:gW w w' (·=s)) (hr:Row w' s (L'.flatMap Ol)):HT w' b s L' many most:=by
 have hn':L'≠[]:=by rintro rfl;simp at hl;exact hn (List.length_eq_zero_iff.1 hl.symm)
 refine⟨?_,λ_=>hr,λ_=>h.ne hn,by rw[hl];exact h.sz⟩;have:=h.hd.fr hf (h.ne hn);rw[show slA s L=slA s L' by simp[slA,hn,hn'],<- hl] at this;exact this
theorem adz {w:θ} {b s i:Nat} {L:List vk} {many most:Int} (h:HT w b s L many most) (hi:i<L.length) (e:vk) {K:b_} (hK:∀w',HT w' b s (L.set i e) many most->gW w w' (·=s)->K w'):
  St w ⟨s,i * 3,none⟩ (.string (Oi e)) λw1=>St w1 ⟨s,i * 3+1,none⟩ (Β (eN e)) λw2=>St w2 ⟨s,i * 3+2,none⟩ (.bool (eU e)) K:=by
 have hn:L≠[]:=by rintro rfl;simp at hi
 have hr:=h.row hn;have hlen:(L.flatMap Ol).length=L.length * 3:=jo _ 3 Gv L;refine g_ hr rfl (by omega) λw1 r1 f1 _=> ?_;refine g_ r1 rfl (by simp only[length_set];omega) λw2 r2 f2 _=> ?_;refine g_ r2 rfl (by simp only[length_set];omega) λw3 r3 f3' _=> ?_;have hf:gW w w3 (·=s):=((f1 (·=s) rfl).trans (f2 (·=s) rfl) λ_ _ e=>e).trans (f3' (·=s) rfl) λ_ _ e=>e;refine hK w3 (h.aeU hn (by simp) hf ?_) hf;rw[aa_] at r3;have g0:(L.map tr)[i]? =some (tr L[i]):=by simp[hi]
 have hl:i<(L.map tr).length:=by simpa using hi
 have e0:=Gz f3 3 (λ_=>rfl) (L.map tr) i 0 (tr L[i]) (Oi e,(tr L[i]).2) (.string (Oi e)) (by omega) g0 rfl;have e1:=Gz f3 3 (λ_=>rfl) ((L.map tr).set i (Oi e,(tr L[i]).2)) i 1 (Oi e,(tr L[i]).2) (Oi e,eN e,(tr L[i]).2.2) (Β (eN e)) (by omega) (by simp[hi]) rfl;have e2:=Gz f3 3 (λ_=>rfl) (((L.map tr).set i (Oi e,(tr L[i]).2)).set i (Oi e,eN e,(tr L[i]).2.2)) i 2 (Oi e,eN e,(tr L[i]).2.2) (tr e) (.bool (eU e)) (by omega) (by simp[hi]) rfl;rw[Nat.add_zero] at e0;rw[e0,e1,e2] at r3;rw[set_set,set_set,aal,<- aa_] at r3;exact r3
theorem aho {w:θ} {b s i:Nat} {L:List vk} {many most n n':Int} {k:ByteArray} (h:HT w b s L many most) (hi:L[i]? =some (some (k,n))) {K:b_} (hK:∀w',HT w' b s (L.set i (some (k,n'))) many most->gW w w' (·=s)->K w'):
  St w ⟨s,i * 3+1,none⟩ (Β n') K:=by
 have hn:L≠[]:=by rintro rfl;simp at hi
 have hlt:i<L.length:=(List.getElem?_eq_some_iff.1 hi).1;have hlen:(L.flatMap Ol).length=L.length * 3:=jo _ 3 Gv L;refine g_ (h.row hn) rfl (by omega) λw1 r1 f1 _=>hK w1 (h.aeU hn (by simp) (f1 (·=s) rfl) ?_) (f1 (·=s) rfl);rw[Gz Ol 3 Gv L i 1 (some (k,n)) (some (k,n')) (Β n') (by omega) hi rfl] at r1;exact r1
theorem afv {w:θ} {b s:Nat} {L:List vk} {many many' most:Int} (h:HT w b s L many most) {K:b_} (hK:∀w',HT w' b s L many' most->gW w w' (·=b)->K w'):St w ⟨b,1,none⟩ (Β many') K:=by
 refine g_ h.hd rfl (by simp) λw1 r1 f1 _=>hK w1 ⟨r1,λhn=>(h.row hn).fr (f1 (·=b) rfl) (λe=>h.ne hn e.symm),h.ne,h.sz⟩ (f1 (·=b) rfl)
theorem Q_ (a b:List vk):cnt (a++b)=cnt a+cnt b:=by
 induction a with
 |nil=>simp[cnt]
 |cons x a ih=>cases x<;>simp only[List.cons_append,cnt,ih]<;>omega
theorem RP (a:List vk) (e:vk) (k:ByteArray) (n:Int):Has (a++[e]) k n↔Has a k n\/e=some (k,n):=by
 constructor
 ·rintro⟨i,hi⟩;by_cases h:i<a.length
  ·rw[List.getElem?_append_left h] at hi;exact .inl ⟨i,hi⟩
  ·rw[List.getElem?_append_right (by omega)] at hi;have:=(List.getElem?_eq_some_iff.1 hi).1;simp at this;simp[show i - a.length=0 by omega] at hi;exact .inr hi
 ·rintro(⟨i,hi⟩|h)
  ·exact⟨i,by rw[List.getElem?_append_left (List.getElem?_eq_some_iff.1 hi).1];exact hi⟩
  ·exact⟨a.length,by simp[h]⟩
theorem afb (n:Nat):gZ [Value.string (bs []),Β 0,Value.bool false] n=(List.replicate n (none:vk)).flatMap Ol:=by
 induction n with
 |zero=>rfl
 |succ n ih=>rw[List.replicate_succ,List.flatMap_cons,<- ih];rfl
theorem aey {L:List vk} {i:Nat} {k:ByteArray} {n:Int} (h:Has (L.take i) k n):∃j:Nat,j<i/\L[j]? =some (some (k,n)):=by
 obtain⟨j,hj⟩:=h;have u:=(List.getElem?_eq_some_iff.1 hj).1;simp only[List.length_take] at u;refine⟨j,by omega,?_⟩;rw[List.getElem?_take] at hj;split at hj
 ·exact hj
 ·cases hj
theorem aeA {w:θ} {b s:Nat} {L:List vk} {most:Int} {M:ByteArray->Option Int} (h:TB w b s L most M) (hc:(cnt L:Int)<most):
  vJ (some ⟨b,0,none⟩) w λw'=>∃s' L',TB w' b s' L' most M/\cnt L'=cnt L/\2 * (cnt L+1)<=L'.length/\gW w w' (·=b)/\(s'=s\/w.heap.size<=s'):=by
 apply KU;have hd:TB w.drew b s L most M:=h.VF λS=>gW.drew _ S;have hm1:=h.most1;have e1:ο.wrap ((cnt L:Int)+1)=((cnt L+1:Nat):Int):=by rw[Α];omega
 have e2:ο.wrap (2 * ((cnt L+1:Nat):Int))=((2 * (cnt L+1):Nat):Int):=by rw[Α];omega
 simp only[sx,hd.ht.hd.cell];rw[e1,e2];by_cases an:2 * (cnt L+1)<=L.length
 ·have N:(((2 * (cnt L+1):Nat):Int)<=(L.length:Int)):=by omega
  simp only[N,decide_true,cond_true];exact⟨s,L,hd,rfl,an,gW.drew _ _,.inl rfl⟩
 ·have N:¬(((2 * (cnt L+1):Nat):Int)<=(L.length:Int)):=by omega
  simp only[N,decide_false,cond_false];have hlen:L.length<131072:=by omega
  have e3:ο.wrap (2 * (L.length:Int))=((2 * L.length:Nat):Int):=by rw[Α];omega
  rw[e3];obtain⟨m,hm,ao⟩:∃m:Nat,(if ((2 * L.length:Nat):Int)>8 then ((2 * L.length:Nat):Int) else 8)=(m:Int)/\(8<=m/\2 * L.length<=m/\m<=262144):=by
   split
   ·exact⟨2 * L.length,rfl,by omega,by omega,by omega⟩
   ·exact⟨8,rfl,by omega,by omega,by omega⟩
  obtain⟨m8,m2,mm⟩:=ao;rw[hm];refine Dc (by omega) (by omega) (by omega) (by omega) λs' w8 r8 hs' z8 f8=> ?_;rw[toNat_natCast,afb] at r8;simp only[toNat_natCast];have h8:=hd.VF f8;have l8:=r8.lt;have hbl:=h.ht.hd.lt;have hdw:w.drew.heap.size=w.heap.size:=rfl;refine g_ h8.ht.hd rfl (by simp) λaq aj f10 z10=> ?_;simp only[List.set_cons_zero] at aj;have hb10:gW w aq (·=b):=((gW.drew w _).trans (f8 (·=b)) λ_ _ e=>e).trans (f10 (·=b) rfl) λ_ _ e=>e;have nl:∀A:List vk,A.length=m->slA s' A=some ⟨s',0,none⟩:=λA hA=>by
   have:A≠[]:=by rintro rfl;simp at hA;omega
   simp[slA,this]
  have old:L≠[]->s≠b/\s<w.heap.size:=λhn=>⟨λe=>h.ht.ne hn e.symm,(h.ht.row hn).lt⟩;refine gX (λst W=>(∃i:Nat,i<=L.length/\st.1=i/\∃L2:List vk,L2.length=m/\HT W b s' L2 (cnt L:Int) most/\T (λk=>rY k m) L2 (λ_ _=>False)/\cnt L2=cnt (L.take i)/\∀k n,Has L2 k n↔Has (L.take i) k n)/\gW w W (·=b)) (λst _=>L.length - st.1.toNat)
   ⟨⟨0,by omega,rfl,List.replicate m none,by simp,⟨?_,λ_=>r8.fr (f10 (·=b) rfl) (by omega),λ_=>by omega,by simp;omega⟩,⟨λi j k n n' hi=> ?_,λi k n hi=> ?_⟩,by simp[afG,cnt],λk n=>⟨λ⟨i,hi⟩=> ?_,λ⟨i,hi⟩=>by simp at hi⟩⟩,hb10⟩ ?_
  ·rw[nl _ (by simp)];simpa using aj
  ·rw[List.getElem?_replicate] at hi;split at hi<;>cases hi
  ·rw[List.getElem?_replicate] at hi;split at hi<;>cases hi
  ·rw[List.getElem?_replicate] at hi;split at hi<;>cases hi
  rintro⟨x,⟨⟩⟩ W ⟨⟨i,hi,rfl,L2,hl2,hT,tt,I,u⟩,hF⟩ next J
  have hFz:=hF.size;by_cases ac:i<L.length
  ·have O:((i:Int)<(L.length:Int)):=by omega
   simp only[O,decide_true,cond_true];have hn:L≠[]:=by rintro rfl;simp at ac
   obtain⟨ar,hsl⟩:=old hn;have Y:L[i]? =some L[i]:=List.getElem?_eq_getElem ac;generalize hE:L[i]=e at Y;have af:=(h.ht.row hn).fr hF ar;have cell:∀j,j<3->W.cell? ⟨s,i * 3+j,none⟩=(Ol e)[j]? :=λj hj=>by rw[af.cell,flat_get _ 3 Gv _ _ j hj,Y];rfl
   refine zI (b:=s) (o:=0) (by simp[slA,hn]) (by omega) (by simp only;omega) ?_;have c0:=cell 0 (by omega);rw[Nat.add_zero] at c0;simp only[sx,toNat_natCast,c0,cell 1 (by omega),cell 2 (by omega),Ol];refine Yu rfl rfl rfl λau av ak l24 f24=> ?_;have e4:ο.wrap ((i:Int)+1)=((i+1:Nat):Int):=by rw[Α];omega
   have Z:L.take (i+1)=L.take i++[e]:=by rw[List.take_succ_eq_append_getElem ac,hE]
   have hF24:gW w av (·=b):=hF.trans (f24 _) λ_ _ e=>e;have hT24:=hT.VF f24;simp only[sx,ak.cell,e4]
   cases e with
   |none=>
    simp only[eU,cond_false];refine J _ _ ⟨⟨i+1,by omega,rfl,L2,hl2,hT24,tt,?_,λk n=> ?_⟩,hF24⟩ (by simp only;omega)
    ·rw[Z,Q_,I];simp[cnt]
    ·rw[u,Z,RP];simp
   |some x=>
    obtain⟨k,n⟩:=x;simp only[eU,Oi,cond_true,cond_true];have ag:Has L k n:=⟨i,Y⟩;have aa:∀n,¬Has L2 k n:=λn' hx=>by
     obtain⟨j,hj,aw⟩:=aey ((u k n').1 hx);have:=h.t.dist _ _ _ _ _ aw Y;omega
    have R:0<L2.length:=by omega
    have hh:=GN k R;have ah:cnt L2<L2.length:=by
     have h1:=cnt_le (L.take i);have h2:(L.take i).length<=L.length:=by simp;omega
     omega
    obtain⟨j0,hj0⟩:=Xd ah;have ai:L2≠[]:=by rintro rfl;simp at R
    refine cmS4 (Za hT24 ai (h.keys k n ag) (ND hh hj0)) ?_;rintro at_ t am ⟨⟨d,hd,rfl,⟨rfl,n',hn'⟩|⟨rfl,hn'⟩⟩,f29⟩
    ·exact absurd ⟨_,hn'⟩ (aa n')
    ·have hT29:HT am.drew b s' L2 (cnt L:Int) most:=(hT24.VF f29).VF λS=>gW.drew _ S;have ax:Row am.drew au _:=(ak.fr (f29 λ_=>False) (by simp)).drew;simp only[d_,f_,gQ,gJ,iY,aa6,hT29.hd.cell,ax.cell];have hq:cy L2.length (rY k L2.length+d)<L2.length:=(List.getElem?_eq_some_iff.1 hn').1;refine zI (b:=s') (o:=0) (nl L2 hl2) (by omega) (by simp only;omega) ?_;simp only[toNat_natCast,Nat.zero_add];refine adz hT29 hq (some (k,n)) λw38 ay f38=> ?_;have U:=insert (n:=n) (H:=λk=>rY k m) tt aa (by rw[<- hl2];exact hh) (by rw[<- hl2];exact hd);rw[hl2] at U;refine J _ _ ⟨⟨i+1,by omega,rfl,_,by simp[hl2],ay,by rw[hl2];exact U,?_,λk' n''=> ?_⟩,?_⟩ (by simp only;omega)
     ·rw[LW hn',Z,Q_,I];simp[cnt]
     ·rw[KG hn' aa,Z,RP,u];constructor
      ·rintro(⟨rfl,rfl⟩|⟨_,hx⟩)
       ·exact .inr rfl
       ·exact .inl hx
      ·rintro(hx|hx)
       ·refine .inr ⟨?_,hx⟩;rintro rfl;exact aa _ ((u _ _).2 hx)
       ·cases hx;exact .inl ⟨rfl,rfl⟩
     ·exact((hF24.trans (f29 _) λ_ _ e=>e).trans (gW.drew _ _) λ_ _ e=>e).trans f38 λx hx e=>by
       have e':x=s':=e;omega
  ·have O:¬((i:Int)<(L.length:Int)):=by omega
   simp only[O,decide_false,cond_false];have:i=L.length:=by omega
   subst this;rw[List.take_length] at I u;refine⟨s',L2,⟨by rw[I];exact hT,by rw[hl2];exact tt,by have:=h.free;omega,λk n=>by rw[u];exact h.m k n,h.most0,h.most1,by omega,λhx=> ?_,λk n hx=>h.keys k n ((u k n).1 hx)⟩,I,by have:=h.free;omega,hF,.inr (by omega)⟩;rw[hx] at hl2;simp at hl2;omega
def upd (M:ByteArray->Option Int) (k:ByteArray) (v:Option Int):ByteArray->Option Int:=λx=>if x=k then v else M x
theorem Xl {w:θ} {b s:Nat} {L:List vk} {most:Int} {M:ByteArray->Option Int} (h:TB w b s L most M) (k:ByteArray) (n:Int) (hk:k.size<=2^63 - 1):
  oC (some ⟨b,0,none⟩) k n w λe w'=>
   (e=0/\(M k=none->(cnt L:Int)<most)/\∃s' L',TB w' b s' L' most (upd M k (some n))/\cnt L'=(if (M k).isSome then cnt L else cnt L+1)/\gW w w' (λx=>x=b\/x=s)/\(s'=s\/w.heap.size<=s'))\/
   (e=7/\M k=none/\most<=(cnt L:Int)/\∀S,gW w w' S):=by
 apply Na;refine cmS0 (VK h.ht) ?_;rintro r w2 ⟨rfl,rfl⟩;simp only[Bool.not_true,cond_false];refine cmS4 (RU h k hk) ?_;have hsz:=h.ht.sz;rintro at_ t w5 ⟨hf,⟨rfl,i,n0,rfl,hi,hM⟩|⟨rfl,hM,_⟩⟩
 ·have h':=h.VF hf;have N:L≠[]:=by rintro rfl;simp at hi
  have hlt:i<L.length:=(List.getElem?_eq_some_iff.1 hi).1;simp only[sx,h'.ht.hd.cell];refine zI (b:=s) (o:=0) (by simp[slA,N]) (by omega) (by simp only;omega) ?_;simp only[sx,toNat_natCast];refine aho h'.ht hi λw9 h9 f9=> .inl ⟨by trivial,λhx=>(by rw[hM] at hx;cases hx),s,_,⟨by rw[LX hi];exact h9,by simp only[length_set];exact update h.t hi,by rw[LX hi,length_set];exact h.free,λk' n'=> ?_,h.most0,h.most1,by simpa using h.sz,λhx=> ?_,λk' n' hx=>by
   rcases(RS h.t hi k' n').1 hx with ⟨rfl,_⟩|⟨_,hx⟩
   ·exact hk
   ·exact h.keys _ _ hx⟩,by rw[LX hi,hM];rfl,?_,.inl rfl⟩
  ·rw[RS h.t hi,upd];by_cases O:k'=k
   ·subst O;simp[eq_comm]
   ·simp[O,h.m]
  ·have:(L.set i (some (k,n))).length=0:=by rw[hx];rfl
   simp at this;exact absurd this N
  ·exact(hf _).trans f9 λx hx e=> .inr e
 ·have h':=h.VF hf;have hd:TB w5.drew b s L most M:=h'.VF λS=>gW.drew _ S;simp only[sx,hd.ht.hd.cell];by_cases I:(cnt L:Int)>=most
  ·simp only[I,decide_true,cond_true];exact .inr ⟨by trivial,hM,by first|trivial|omega,λS=>(hf S).trans (gW.drew _ S) λ_ _ e=>e⟩
  ·simp only[I,decide_false,cond_false];refine cmS10 (aeA hd (by omega)) ?_;rintro w14 ⟨s',L',J,hc14,R,f14,hs'⟩;refine cmS4 (RU J k hk) ?_;have N:L'≠[]:=by rintro rfl;simp at R
   have Y:=J.pos N;rintro at_ t w17 ⟨f17,⟨_,i,n0,_,_,hM'⟩|⟨_,_,Z⟩⟩
   ·rw[hM] at hM';cases hM'
   ·obtain⟨d,aa,rfl⟩:=Z N;have ac:=J.VF f17;have U:=(J.Sv k).1 hM;have hh:=GN k Y;obtain⟨u,_⟩:=RF U hh aa;have hq:cy L'.length (rY k L'.length+d)<L'.length:=(List.getElem?_eq_some_iff.1 u).1;simp only[getElem?_cons_zero,f_,gQ,ac.ht.hd.cell];refine zI (b:=s') (o:=0) (by simp[slA,N]) (by omega) (by simp only;omega) ?_;simp only[toNat_natCast,Nat.zero_add];refine adz ac.ht hq (some (k,n)) λw23 af f23=> ?_;simp only[af.hd.cell,aaW,d_,f_,gJ,Nat.zero_add];have hm1:=h.most1;have e1:ο.wrap ((cnt L':Int)+1)=((cnt L'+1:Nat):Int):=by rw[Α];omega
    rw[e1];refine afv af λw27 ag f27=> ?_;refine .inl ⟨by trivial,λ_=>by omega,s',_,⟨by rw[LW u];exact ag,by simp only[length_set];exact insert J.t U hh aa,by rw[LW u,length_set];omega,λk' n'=> ?_,h.most0,h.most1,by simpa using J.sz,λhx=> ?_,λk' n' hx=>by
     rcases(KG u U k' n').1 hx with ⟨rfl,_⟩|⟨_,hx⟩
     ·exact hk
     ·exact J.keys _ _ hx⟩,by rw[LW u,hM,hc14];rfl,?_,?_⟩
    ·rw[KG u U,upd];by_cases O:k'=k
     ·subst O;simp[eq_comm]
     ·simp[O,J.m]
    ·have:(L'.set (cy L'.length (rY k L'.length+d)) (some (k,n))).length=0:=by rw[hx];rfl
     simp at this;exact absurd this N
    ·have hz:=(hf λ_=>False).size;have ah:w5.drew.heap.size=w5.heap.size:=rfl;refine(((((hf _).trans (gW.drew _ _) λ_ _ e=>e).trans f14 λx hx e=> .inl e).trans (f17 _) λ_ _ e=>e).trans f23 λx hx e=> ?_).trans f27 λx hx e=> .inl e;have e':x=s':=e;rcases hs' with hs'|hs'
     ·exact .inr (by omega)
     ·omega
    ·have hz:=(hf λ_=>False).size;have ah:w5.drew.heap.size=w5.heap.size:=rfl;rcases hs' with hs'|hs'
     ·exact .inl hs'
     ·exact .inr (by omega)
end Go.Proofs
end
section
namespace Gp.V4
def jD:Nat->Nat->List UInt8
 |0,_=>[]
 |k+1,n=>UInt8.ofNat (n / 256^k)::jD k n
def nN (l:List UInt8):Nat:=l.foldl (λn b=>n * 256+b.toNat) 0
theorem iG (k n:Nat):(jD k n).length=k:=by
 induction k with
 |zero=>rfl
 |succ k ih=>simp[jD,ih]
theorem ahF (l:List UInt8):∀n:Nat,l.foldl (λn b=>n * 256+b.toNat) n=n * 256^l.length+nN l:=by
 induction l with
 |nil=>intro n;simp[nN]
 |cons b l ih=>
  intro n;simp only[List.foldl_cons,nN,length_cons];rw[ih,ih (0 * 256+b.toNat)];rw[Nat.pow_succ,Nat.add_mul,Nat.add_mul,<- Nat.mul_assoc,Nat.mul_right_comm];omega
theorem SA (b:UInt8) (l:List UInt8):nN (b::l)=b.toNat * 256^l.length+nN l:=by
 show (b::l).foldl _ 0=_;rw[List.foldl_cons,ahF];simp
theorem DF (k n:Nat):nN (jD k n)=n % 256^k:=by
 induction k with
 |zero=>simp[jD,nN,Nat.mod_one]
 |succ k ih=>
  rw[jD,SA,iG,ih];have e:(UInt8.ofNat (n / 256^k)).toNat=n / 256^k % 256:=by simp
  rw[e,Nat.pow_succ,Nat.mod_mul,Nat.mul_comm (256^k),Nat.add_comm]
def tot:List UInt8->Nat
 |[]=>0
 |[a]=>a.toNat * 256
 |a::b::r=>a.toNat * 256+b.toNat+tot r
def fold (n:Nat):Nat:=if n=0 then 0 else (n - 1) % 65535+1
structure jG where
 tos:Int
 id:Int
 off:Int
 ttl:Int
 proto:Int
 src:Int
 dst:Int
 df:Bool
 mf:Bool
 opts:List UInt8
 data:List UInt8
deriving DecidableEq
def jG.zero:jG:=⟨0,0,0,0,0,0,0,false,false,[],[]⟩
def mg (k:Int):Prop:=1<=k/\k<=4
instance (k:Int):Decidable (mg k):=inferInstanceAs (Decidable (_/\_))
def iK (n k:Int):Prop:=mg k/\0<=n/\n<256^k.toNat
instance (n k:Int):Decidable (iK n k):=inferInstanceAs (Decidable (_/\_))
def kD (n:Int):Prop:=0<=n/\n<4294967296
instance (n:Int):Decidable (kD n):=inferInstanceAs (Decidable (_/\_))
def jG.fine (p:jG):Prop:=(iK p.tos 1/\iK p.ttl 1/\iK p.proto 1/\iK p.id 2)/\(kD p.src/\kD p.dst)/\
 (0<=p.off/\p.off<=65528/\Int.tmod p.off 8=0/\(p.mf=true->p.data.length % 8=0))/\p.opts.length<=40/\p.opts.length % 4=0
instance (p:jG):Decidable p.fine:=inferInstanceAs (Decidable (_/\_))
def jG.short (p:jG):Prop:=20+p.opts.length+p.data.length<=65535/\p.off<=65535 - (p.data.length:Int)
instance (p:jG):Decidable p.short:=inferInstanceAs (Decidable (_/\_))
def jG.bits (p:jG):Nat:=p.off.toNat / 8+(if p.df then 16384 else 0)+(if p.mf then 8192 else 0)
def jG.head (p:jG) (s:Nat):List UInt8:=
 jD 1 (64+(20+p.opts.length) / 4)++jD 1 p.tos.toNat++jD 2 (20+p.opts.length+p.data.length)++jD 2 p.id.toNat++jD 2 p.bits++jD 1 p.ttl.toNat++jD 1 p.proto.toNat++jD 2 s++jD 4 p.src.toNat++jD 4 p.dst.toNat++p.opts
def jG.sum (p:jG):Nat:=65535 - fold (tot (p.head 0))
def jG.bytes (p:jG):List UInt8:=p.head p.sum++p.data
def num (b:List UInt8) (at_ k:Nat):Nat:=nN ((b.drop at_).take k)
def hlen (b:List UInt8):Nat:=((b[0]?).getD 0).toNat % 16 * 4
def field (b:List UInt8):jG:=
 let f:=num b 6 2
 ⟨num b 1 1,num b 4 2,(f % 8192 * 8:Nat),num b 8 1,num b 9 1,num b 12 4,num b 16 4,f / 16384 % 2==1,f / 8192 % 2==1,(b.take (hlen b)).drop 20,(b.take (num b 2 2)).drop (hlen b)⟩
end Gp.V4
end
section
namespace Go.Proofs
open Gp Gp.V4
theorem ab4 {e:TypeId} {w:θ} {x:fU} {m:List UInt8} (hx:iq w x m) (hl:m.length<=2^46) {K:fU->b_}
  (hK:∀r w',Buf w' r (bytesV m)->(r.a=none↔x.a=none)->Ext w w'->(∀b,fU.at r b->w.heap.size<=b)->K r w'):
  (bif (Option.isNone x.a) then K ⟨none,0,0⟩ w else Al w (.cells ⟨[]⟩ e) λa3 w2=>lK e 1 1 [(Value.int .u8 0)] ⟨(some a3),0,0⟩ x w2 K):=by
 cases u:x.a with
 |none=>
  simp only[Option.isNone_none,cond_true];have:=hx.empty u;subst this;exact hK _ _ Buf.nil (by simp[u]) (Ext.refl _) λb ⟨o,h⟩=>by cases h
 |some a=>
  simp only[Option.isNone_some,cond_false];refine gq λb w2 r2 e2 _ f2=> ?_;have hx2:=hx.ext f2;refine jd (l:=[]) ⟨rfl,.inr ⟨b,[],rfl,rfl,by simpa [bytesV] using r2⟩⟩ hx2 (by simpa using hl) λs' w' h1 h2 h3 h4=> ?_;refine hK _ _ (by simpa using h1) (by rw[u];exact⟨λh=>by have:=(h4 h).2;simp at this,λh=>by simp at h⟩) (gW.new (Ext.fr f2 h2) ?_) (λc hc=> ?_)
  ·rintro y hy ⟨o,e⟩
   cases e;omega
  ·rcases h3 c hc with ⟨o,e⟩|h
   ·cases e;omega
   ·have:=(f2 λ_=>False).size;omega
theorem kC {w:θ} {x:fU} {m:List UInt8} (hx:iq w x m) (hl:m.length<=2^46):
  gK x w λr w'=>Buf w' r (bytesV m)/\(r.a=none↔x.a=none)/\Ext w w'/\∀b,fU.at r b->w.heap.size<=b:=by
 apply AX;exact ab4 (K:=λr w'=>Buf w' r (bytesV m)/\(r.a=none↔x.a=none)/\Ext w w'/\∀b,fU.at r b->w.heap.size<=b) hx hl λr w' h1 h2 h3 h4=>⟨h1,h2,h3,h4⟩
theorem DT (k:Int) (w:θ):Eb k w λr w'=>r=decide (mg k)/\w'=w:=by
 apply Zj;by_cases h1:k>=1
 ·by_cases h2:k<=4
  ·have:mg k:=⟨h1,h2⟩;simp[h1,h2,this]
  ·have:¬mg k:=λh=>h2 h.2;simp[h1,h2,this]
 ·have:¬mg k:=λh=>h1 h.1;simp[h1,this]
theorem aiX {n:Int} {i:Nat} (hi:i<=7) (hn:0<=n):jH .i64 n (ο.wrap (8 * (i:Int)))=((n.toNat / 256^i:Nat):Int):=by
 rw[Α];unfold jH;have e:(2:Int)^(min ((8:Int) * (i:Int)).toNat (IntKind.bits .i64))=((256^i:Nat):Int):=by
  have:i=0\/i=1\/i=2\/i=3\/i=4\/i=5\/i=6\/i=7:=by omega
  rcases this with rfl|rfl|rfl|rfl|rfl|rfl|rfl|rfl<;>decide
 rw[e,Int.fdiv_eq_ediv_of_nonneg _ (Int.natCast_nonneg _),Int.natCast_ediv,Int.toNat_of_nonneg hn]
theorem afg {n k:Int} (hk:mg k) (hn:0<=n):(jH .i64 n (ο.wrap (8 * k))==0)=decide (n<256^k.toNat):=by
 obtain⟨h1,h2⟩:=hk;obtain⟨m,rfl⟩:∃m:Nat,k=(m:Int):=⟨k.toNat,by omega⟩;rw[aiX (by omega) hn];have hp:0<256^m:=Nat.pow_pos (by omega);obtain⟨x,rfl⟩:∃x:Nat,n=(x:Int):=⟨n.toNat,by omega⟩;have e:((256:Int)^(m:Int).toNat)=((256^m:Nat):Int):=by simp
 rw[e];simp only[toNat_natCast];by_cases h:x<256^m
 ·have:x / 256^m=0:=Nat.div_eq_of_lt h;have h':((x:Int)<((256^m:Nat):Int)):=by omega
  rw[this];simp only[h',decide_true];rfl
 ·have:1<=x / 256^m:=(Nat.le_div_iff_mul_le hp).2 (by omega);have h':¬((x:Int)<((256^m:Nat):Int)):=by omega
  simp only[h',decide_false,beq_eq_false_iff_ne,ne_eq];omega
theorem mO (n k:Int) (w:θ):jI n k w λr w'=>r=decide (iK n k)/\w'=w:=by
 apply aau;refine cmS0 (DT k w) ?_;rintro r w1 ⟨rfl,rfl⟩;by_cases hk:mg k
 ·by_cases hn:n>=0
  ·simp only[hk,hn,decide_true,cond_true];refine⟨by have:=hk.1;have:=hk.2;rw[Α];omega,?_,by trivial⟩;rw[afg hk hn];simp[iK,hk,hn]
  ·simp only[hk,hn,decide_true,decide_false,cond_true,cond_false];have:¬iK n k:=λh=>hn h.2.1;exact⟨by simp[this],by trivial⟩
 ·simp only[hk,decide_false,cond_false];exact⟨by simp[iK,hk],by trivial⟩
def yB (l:List UInt8):List (yu [.one (.int .u8)]):=l.map λb=>((b.toNat:Int),())
theorem aaS (l:List UInt8) (i:Nat):(yB l)[i]? =(l[i]?).map λb=>((b.toNat:Int),()):=by simp[yB]
theorem WG:∀(k n i:Nat),i<k->(jD k n)[i]? =some (UInt8.ofNat (n / 256^(k - 1 - i)))
 |0,_,_,h=>by omega
 |k+1,n,0,_=>by simp[jD]
 |k+1,n,i+1,h=>by
  simp only[jD,List.getElem?_cons_succ];rw[WG k n i (by omega),show k+1 - 1 - (i+1)=k - 1 - i by omega]
theorem YV {n:Int} {k f0 f1:Nat} (hk:k<=4) (hn:0<=n):
  oP υ [.one (.int .u8)] (Value.func (.func UD) #[] #[(Value.pointer (some ⟨f0,0,none⟩)),(Value.pointer (some ⟨f1,0,none⟩))])
   (λW=>Row W f0 [Β (k:Int)]/\Row W f1 [Β n]) (yB (jD k n.toNat)):=by
 refine⟨by kernel_rfl,λl Q D hC hQ hD hy w h0=> ?_⟩;refine Calls.mono (SE (a0:= .func (.yield l) #[] #[]) (f0:=⟨f0,0,none⟩) (f1:=⟨f1,0,none⟩) (K:=λw'=>Q (yB (jD k n.toNat)).length w'\/D w') ?_) (λe w' h=>h);have hlen:(yB (jD k n.toNat)).length=k:=by simp[yB,iG]
 obtain⟨r0,_⟩:=hC _ _ h0;simp only[sx,r0.cell];rw[hlen];refine gX (λst W=>∃i:Nat,i<=k/\st.1=(k:Int) - 1 - i/\Q i W) (λst _=>(st.1+1).toNat) ⟨0,by omega,by rw[Α];simp,h0⟩ ?_;rintro⟨x,⟨⟩⟩ W ⟨i,hi,hx,hq⟩ next u
 simp only at hx;by_cases I:i<k
 ·have hx0:x>=0:=by omega
  obtain⟨_,r1⟩:=hC _ _ hq;simp only[sx,hx0,decide_true,r1.cell];refine⟨by rw[Α];omega,?_⟩;obtain⟨j,rfl⟩:∃j:Nat,x=(j:Int):=⟨x.toNat,by omega⟩;rw[aiX (by omega) hn];have hj:j=k - 1 - i:=by omega
  have e:IntKind.u8.wrap ((n.toNat / 256^j:Nat):Int)=(((UInt8.ofNat (n.toNat / 256^j)).toNat:Nat):Int):=by
   rw[IntKind.wrap_u8];simp
  rw[e];refine kR (hy i ((((UInt8.ofNat (n.toNat / 256^j)).toNat:Nat):Int),()) W _ ?_ hq ?_ ?_)
  ·rw[aaS,WG _ _ _ I,<- hj];rfl
  ·intro W' hq';refine⟨true,rfl,?_⟩;simp only[Bool.not_true,cond_false];rw[Α];exact u _ _ ⟨i+1,by omega,by simp only;omega,hq'⟩ (by simp only;omega)
  ·intro W' hd;refine⟨false,rfl,?_⟩;simp only[Bool.not_false,cond_true];exact .inr hd
 ·have hx0:¬x>=0:=by omega
  simp only[hx0,decide_false,cond_false];have:i=k:=by omega
  subst this;exact .inl hq
def Qs (w0 w:θ) (v:Value) (l:List UInt8):Prop:=
 ∃C,oP υ [.one (.int .u8)] v C (yB l)/\∀W S,gW w W S->(∀b,w0.heap.size<=b->b<w.heap.size->¬S b)->C W
theorem Vx {n k:Int} (hk:mg k) (hn:0<=n) (w:θ):A_ n k w λv w'=>Ext w w'/\Qs w w' v (jD k.toNat n.toNat):=by
 apply XC;refine⟨rfl,gq λa w1 r1 e1 z1 f1=>⟨rfl,gq λb w2 r2 e2 z2 f2=> ?_⟩⟩;have r1':=r1.ext f2;obtain⟨m,rfl⟩:∃m:Nat,k=(m:Int):=⟨k.toNat,by have:=hk.1;omega⟩;refine⟨f1.trans f2,_,YV (by have:=hk.2;omega) hn,λW S hf hs=>⟨r2.fr hf (hs _ ?_ ?_),r1'.fr hf (hs _ ?_ ?_)⟩⟩<;>omega
theorem D8 {w0 w:θ} {s:fU} {v:Value} {l m:List UInt8} (hs:Buf w s (bytesV l)) (hv:Qs w0 w v m) (hd:∀b,fU.at s b->¬(w0.heap.size<=b/\b<w.heap.size)) (hl:l.length+m.length<=2^46):
  jA s v w λr w'=>Buf w' r (bytesV (l++m))/\gW w w' (fU.at s)/\(∀b,fU.at r b->fU.at s b\/w.heap.size<=b)/\(r.a=none->l++m=[]/\s.a=none):=by
 obtain⟨C,hi,hC⟩:=hv;apply oO;refine⟨rfl,gq λa w1 r1 e1 z1 f1=> ?_⟩;have hlen:(yB m).length=m.length:=by simp[yB]
 have u:∀b,fU.at s b->b<w.heap.size:=λb hb=>hs.lt hb;refine wz hi (λi W=>∃t:fU,Row W a [Δ t]/\Buf W t (bytesV (l++m.take i))/\gW w W (fU.at s)/\(∀b,fU.at t b->fU.at s b\/(w.heap.size<=b/\b≠a/\b≠lC none w1/\b≠w1.heap.size))/\(t.a=none->l++m.take i=[]/\s.a=none)/\lC none w1<W.heap.size)
  (λ_ _=>False) (by simp) ?_ ?_ ?_ (by intro e W W' h;exact h.elim) (by intro e W h;exact h.elim) ?_ ?_ (by intro W h;exact h.elim) (by intro id W h;exact h.elim)
 ·intro w2 f2 z2;refine⟨s,r1.ext f2,by simpa using (hs.ext f1).ext f2,(f1.trans f2) _,λb hb=> .inl hb,?_,by omega⟩;simp only[List.take_zero,List.append_nil];intro ha;obtain⟨_,⟨_,h2,_⟩|⟨c,pad,h2,_⟩⟩:=hs
  ·exact⟨by simpa [bytesV] using h2,ha⟩
  ·rw[ha] at h2;cases h2
 ·rintro i W ⟨t,_,_,hf,_⟩;exact hC W _ hf λb h1 h2 h3=>hd b h3 ⟨h1,h2⟩
 ·rintro i W W' ⟨t,h1,h2,h3,h4,h5,h6⟩ hf;have J:lC none w1=w1.heap.size+1:=rfl;refine⟨t,h1.fr hf (by omega),h2.fr hf λb hb e=> ?_,h3.trans hf (λb hb e=>by omega),h4,h5,by have:=hf.size;omega⟩;rcases h4 b hb with h|h
  ·have:=u b h;omega
  ·omega
 ·intro i x W Kb hx ⟨t,h1,h2,h3,h4,h5,h6⟩ hlt I _;refine⟨rfl,?_⟩;have J:lC none w1=w1.heap.size+1:=rfl;rw[aaS] at hx
  cases hb:m[i]? with
  |none=>rw[hb] at hx;simp at hx
  |some y=>
  rw[hb] at hx;simp only[Option.map_some,Option.some.injEq] at hx;subst hx;have fb:=gW.gG W (lC none w1);have h1':=h1.fr fb (by omega);have h2':Buf (gG W (lC none w1)) t (bytesV (l++m.take i)):=h2.fr fb λb hb e=>by
   rcases h4 b hb with h|h
   ·have:=u b h;omega
   ·omega
  simp only[sx,h1'.cell];have N:i<m.length:=(List.getElem?_eq_some_iff.1 hb).1;refine gq λc w3 r3 e3 z3 f3=> ?_;have hz3:w3.heap.size=W.heap.size+1:=by rw[z3,e3];simp[gG]
  have hx3:iq w3 ⟨some ⟨c,0,none⟩,1,1⟩ [y]:= .iD (iq.row (l:=[y]) (by simpa [bytesV] using r3));have h2'':=h2'.ext f3;refine jd h2'' hx3 (by simp;omega) λs' w4 b4 f4 p4 n4=> ?_;have O:¬fU.at t a:=λh=>by
   rcases h4 a h with h|h
   ·have:=u a h;omega
   ·exact h.2.1 rfl
  have h1'':=(h1'.ext f3).fr f4 O;refine g_ h1'' rfl (by simp) λw5 r5 f5 z5=> ?_;simp only[List.set_cons_zero] at r5;have hbz:(gG W (lC none w1)).heap.size=W.heap.size:=by simp[gG]
  have R:∀b,fU.at s' b->b≠a:=λb hb e=>by
   rcases p4 b hb with h|h
   ·exact O (e ▸ h)
   ·have:=h1.lt;omega
  refine I w5 (λb=>fU.at t b\/b=a) ?_ ?_ ⟨s',r5,?_,?_,?_,?_,?_⟩
  ·exact((f3 _).trans (f4.mono λb h=> .inl h) λ_ _ e=>e).trans (f5 (λb=>fU.at t b\/b=a) (.inr rfl)) λ_ _ e=>e
  ·rintro b hb1 hb2 (h|h)
   ·rcases h4 b h with h|h
    ·have:=u b h;omega
    ·rcases Nat.lt_or_ge b (lC none w1) with hx|hx<;>omega
   ·omega
  ·have e:l++m.take (i+1)=l++m.take i++[y]:=by
    rw[List.take_succ_eq_append_getElem N];have:m[i]=y:=by rw[List.getElem?_eq_getElem N] at hb;simpa using hb
    simp[this]
   rw[e];exact b4.fr (f5 (·=a) rfl) λb hb e=>R b hb e
  ·refine((h3.trans fb λb hb e=>by omega).ext f3).trans (S':=λb=>fU.at t b\/b=a) ((f4.mono λb h=> .inl h).trans (f5 (λb=>fU.at t b\/b=a) (.inr rfl)) λ_ _ e=>e) ?_;rintro b hb (h|h)
   ·rcases h4 b h with h|h
    ·exact h
    ·omega
   ·omega
  ·intro b hb;rcases p4 b hb with h|h
   ·exact h4 b h
   ·refine .inr ⟨by have:=h3.size;omega,R b hb,?_,?_⟩<;>omega
  ·intro ha;obtain⟨h1,h2⟩:=n4 ha;simp at h1
  ·have:=f4.size;omega
 ·rintro W ⟨t,h1,h2,h3,h4,h5,h6⟩ hm;have J:lC none w1=w1.heap.size+1:=rfl;simp only[sx,h1.cell];rw[hlen,List.take_length] at h2 h5;refine⟨hm rfl,?_,?_,?_,h5⟩
  ·exact h2.fr (gW.qV _ _ _) λb hb e=>by
    rcases h4 b hb with h|h
    ·have:=u b h;omega
    ·omega
  ·exact h3.trans (gW.qV _ _ _) λb hb e=>by omega
  ·intro b hb;rcases h4 b hb with h|h
   ·exact .inl h
   ·exact .inr h.1
def jv (l:List UInt8) (n k:Int):List UInt8:=if iK n k then l++jD k.toNat n.toNat else l
theorem uO {w:θ} {s:fU} {l:List UInt8} (hs:iq w s l) (hl:l.length+4<=2^46) (n k:Int):
  lG s n k w λr w'=>Buf w' r (bytesV (jv l n k))/\Ext w w'/\(∀b,fU.at r b->w.heap.size<=b):=by
 apply acH;refine cmS2 (kC hs (by omega)) ?_;rintro r w1 ⟨b1,_,f1,n1⟩;refine cmS0 (mO n k w1) ?_;rintro _ _ ⟨rfl,rfl⟩;by_cases hf:iK n k
 ·simp only[hf,decide_true,Bool.not_true,cond_false];refine cmS5 (Vx hf.1 hf.2.1 _) ?_;rintro v w2 ⟨f2,hv⟩;have hk:=hf.1;refine cmS2 (D8 (b1.ext f2) hv (λb hb h=>by have:=b1.lt hb;omega) (by rw[iG];have:=hk.2;omega)) ?_;rintro r' w3 ⟨b3,f3,n3,_⟩;refine⟨by simpa [jv,hf] using b3,(f1.trans f2).new f3 λb hb h=>by have:=n1 b h;omega,λb hb=> ?_⟩;have:=f1.size;have:=f2.size;rcases n3 b hb with h|h
  ·exact n1 b h
  ·omega
 ·simp only[hf,decide_false,Bool.not_false,cond_true];exact⟨by simpa [jv,hf] using b1,f1,n1⟩
end Go.Proofs
end
section
namespace Gp.Bind
open Gp.V4
def keyB (l:List Int):List UInt8:=l.flatMap λn=>jD 8 (n % 18446744073709551616).toNat
def keyS (l:List Int):ByteArray:=⟨⟨keyB l⟩⟩
def In64 (n:Int):Prop:= -9223372036854775808<=n/\n<=9223372036854775807
theorem MJ (l:List Int):(keyB l).length=l.length * 8:=by
 induction l with
 |nil=>rfl
 |cons n l ih=>
  have:keyB (n::l)=jD 8 (n % 18446744073709551616).toNat++keyB l:=rfl;rw[this,List.length_append,iG,ih,length_cons];omega
theorem Zc:∀{l m:List Int},l.length=m.length->(∀n∈l,In64 n)->(∀n∈m,In64 n)->keyB l=keyB m->l=m
 |[],[],_,_,_,_=>rfl
 |[],_::_,h,_,_,_=>by simp at h
 |_::_,[],h,_,_,_=>by simp at h
 |a::l,b::m,h,hl,hm,he=>by
  have he:jD 8 (a % 18446744073709551616).toNat++keyB l=jD 8 (b % 18446744073709551616).toNat++keyB m:=he;obtain⟨h1,h2⟩:=List.append_inj he (by simp[iG]);have h3:=congrArg nN h1;rw[DF,DF] at h3;have e:(256:Nat)^8=18446744073709551616:=by decide
  rw[e] at h3;have ha:=hl a (List.mem_cons_self ..);have hb:=hm b (List.mem_cons_self ..);obtain⟨ha1,ha2⟩:=ha;obtain⟨hb1,hb2⟩:=hb;have u:a=b:=by omega
  rw[u,Zc (by simpa using h) (λn hn=>hl n (List.mem_cons_of_mem _ hn)) (λn hn=>hm n (List.mem_cons_of_mem _ hn)) h2]
theorem keyS_inj {l m:List Int} (h:l.length=m.length) (hl:∀n∈l,In64 n) (hm:∀n∈m,In64 n) (he:keyS l=keyS m):l=m:=by
 refine Zc h hl hm ?_;unfold keyS at he;injection he with he;injection he
structure Bnd where
 sw:Int
 pr:Int
 ad:Int
 po:Int
 opr:Int
 oad:Int
 opo:Int
 st:Bool
deriving DecidableEq
def Bnd.i (b:Bnd):List Int:=[b.sw,b.pr,b.ad,b.po]
def Bnd.o (b:Bnd):List Int:=[b.opr,b.oad,b.opo]
def Bnd.ok (b:Bnd):Prop:=(∀n∈b.i,In64 n)/\∀n∈b.o,In64 n
abbrev Slots:=List (Option Bnd)
def live:Nat->Slots->List (Int×Bnd)
 |_,[]=>[]
 |i,none::r=>live (i+1) r
 |i,some b::r=>((i:Int),b)::live (i+1) r
theorem oJ:∀{S:Slots} {k:Nat} {v:Int} {b:Bnd},(v,b)∈live k S↔∃i:Nat,S[i]? =some (some b)/\v=((k+i:Nat):Int)
 |[],k,v,b=>by simp[live]
 |none::r,k,v,b=>by
  rw[live,oJ];constructor
  ·rintro⟨i,h1,h2⟩;exact⟨i+1,by simpa using h1,by omega⟩
  ·rintro⟨i,h1,h2⟩
   cases i with
   |zero=>simp at h1
   |succ i=>exact⟨i,by simpa using h1,by omega⟩
 |some c::r,k,v,b=>by
  rw[live,List.mem_cons,oJ];constructor
  ·rintro(h|⟨i,h1,h2⟩)
   ·simp only[Prod.mk.injEq] at h;exact⟨0,by simp[h.2],by omega⟩
   ·exact⟨i+1,by simpa using h1,by omega⟩
  ·rintro⟨i,h1,h2⟩
   cases i with
   |zero=>
    simp only[getElem?_cons_zero,Option.some.injEq] at h1;left;rw[h1,h2];rfl
   |succ i=>right;exact⟨i,by simpa using h1,by omega⟩
theorem jU:∀(S:Slots) (k:Nat),(live k S).length<=S.length
 |[],_=>by simp[live]
 |none::r,k=>by have:=jU r (k+1);simp[live];omega
 |some b::r,k=>by have:=jU r (k+1);simp[live];omega
def freeN:Slots->Option Nat
 |[]=>none
 |none::_=>some 0
 |some _::r=>(freeN r).map (·+1)
theorem jr:∀{S:Slots} {i:Nat} (k:Nat),freeN S=some i->i<S.length/\S[i]? =some none/\(live k S).length<S.length/\i<=(live k S).length/\(∀j,j<i->∃b,(live k S)[j]? =some (((k+j:Nat):Int),b)/\S[j]? =some (some b))/\
  (∀v b,(live k S)[i]? =some (v,b)->v≠((k+i:Nat):Int))/\∀b,live k (S.set i (some b))=(live k S).take i++(((k+i:Nat):Int),b)::(live k S).drop i
 |[],i,_,h=>by simp[freeN] at h
 |none::r,i,k,h=>by
  simp[freeN] at h;subst h;have hl:=jU r (k+1);refine⟨by simp,rfl,by simp[live];omega,by omega,by omega,λv b hv=> ?_,λb=>by simp[live]⟩;have:=List.mem_of_getElem? hv;rw[live,oJ] at this;obtain⟨j,_,hj⟩:=this;omega
 |some c::r,i,k,h=>by
  simp only[freeN,Option.map_eq_some_iff] at h;obtain⟨i',h',rfl⟩:=h;obtain⟨h1,h2,h3,h4,h5,h6,h7⟩:=jr (k+1) h';refine⟨by simp;omega,by simpa using h2,by simp[live];omega,by simp[live];omega,λj hj=> ?_,λv b hv=> ?_,λb=> ?_⟩
  ·cases j with
   |zero=>exact⟨c,by simp[live],by simp⟩
   |succ j=>
    obtain⟨b,g1,g2⟩:=h5 j (by omega);refine⟨b,?_,by simpa using g2⟩;rw[live,List.getElem?_cons_succ,g1,show k+1+j=k+(j+1) by omega]
  ·rw[live,List.getElem?_cons_succ] at hv;have:=h6 v b hv
   rwa [show k+1+i'=k+(i'+1) by omega] at this
  ·rw[List.set_cons_succ,live,h7 b,live,List.take_succ_cons,List.drop_succ_cons,show k+1+i'=k+(i'+1) by omega];rfl
structure GoodB (S:Slots) (Mi Mo:ByteArray->Option Int):Prop where
 i:∀k v,Mi k=some v↔∃(j:Nat) (b:Bnd),S[j]? =some (some b)/\keyS b.i=k/\v=(j:Int)
 o:∀k v,Mo k=some v↔∃(j:Nat) (b:Bnd),S[j]? =some (some b)/\keyS b.o=k/\v=(j:Int)
 ok:∀(j:Nat) (b:Bnd),S[j]? =some (some b)->b.ok
def upd (M:ByteArray->Option Int) (k:ByteArray) (v:Option Int):ByteArray->Option Int:=λx=>if x=k then v else M x
theorem iO {S:Slots} {i j:Nat} {v:Option Bnd} (hi:i<S.length):(S.set i v)[j]? =if i=j then some v else S[j]? :=by
 rw[List.getElem?_set];split
 ·rename_i h;subst h;simp
 ·rfl
theorem GoodB.add {S:Slots} {Mi Mo:ByteArray->Option Int} (h:GoodB S Mi Mo) {i:Nat} {b:Bnd} (hi:S[i]? =some none) (hb:b.ok) (h1:Mi (keyS b.i)=none) (h2:Mo (keyS b.o)=none):
  GoodB (S.set i (some b)) (upd Mi (keyS b.i) (some i)) (upd Mo (keyS b.o) (some i)):=by
 have hl:i<S.length:=(List.getElem?_eq_some_iff.1 hi).1;refine⟨λk v=> ?_,λk v=> ?_,λj c hc=> ?_⟩
 ·unfold upd;by_cases hk:k=keyS b.i
  ·rw[if_pos hk];constructor
   ·intro e;exact⟨i,b,by rw[iO hl,if_pos rfl],hk.symm,by simpa using e.symm⟩
   ·rintro⟨j,c,hc,hk2,rfl⟩;rw[iO hl] at hc;split at hc
    ·rename_i e;subst e;rfl
    ·have:=(h.i k j).2 ⟨j,c,hc,hk2,rfl⟩;rw[hk,h1] at this;cases this
  ·rw[if_neg hk,h.i];constructor
   ·rintro⟨j,c,hc,hk2,rfl⟩;refine⟨j,c,?_,hk2,rfl⟩;rw[iO hl,if_neg]
    ·exact hc
    ·rintro rfl;rw[hi] at hc;cases hc
   ·rintro⟨j,c,hc,hk2,rfl⟩;rw[iO hl] at hc;split at hc
    ·rename_i e;subst e;simp only[Option.some.injEq] at hc;subst hc;exact absurd hk2.symm hk
    ·exact⟨j,c,hc,hk2,rfl⟩
 ·unfold upd;by_cases hk:k=keyS b.o
  ·rw[if_pos hk];constructor
   ·intro e;exact⟨i,b,by rw[iO hl,if_pos rfl],hk.symm,by simpa using e.symm⟩
   ·rintro⟨j,c,hc,hk2,rfl⟩;rw[iO hl] at hc;split at hc
    ·rename_i e;subst e;rfl
    ·have:=(h.o k j).2 ⟨j,c,hc,hk2,rfl⟩;rw[hk,h2] at this;cases this
  ·rw[if_neg hk,h.o];constructor
   ·rintro⟨j,c,hc,hk2,rfl⟩;refine⟨j,c,?_,hk2,rfl⟩;rw[iO hl,if_neg]
    ·exact hc
    ·rintro rfl;rw[hi] at hc;cases hc
   ·rintro⟨j,c,hc,hk2,rfl⟩;rw[iO hl] at hc;split at hc
    ·rename_i e;subst e;simp only[Option.some.injEq] at hc;subst hc;exact absurd hk2.symm hk
    ·exact⟨j,c,hc,hk2,rfl⟩
 ·rw[iO hl] at hc;split at hc
  ·simp only[Option.some.injEq] at hc;subst hc;exact hb
  ·exact h.ok j c hc
theorem GoodB.one {S:Slots} {Mi Mo:ByteArray->Option Int} (h:GoodB S Mi Mo) {i j:Nat} {b c:Bnd} (hi:S[i]? =some (some b)) (hj:S[j]? =some (some c)) (e:keyS b.i=keyS c.i\/keyS b.o=keyS c.o):i=j:=by
 rcases e with e|e
 ·have h1:=(h.i _ i).2 ⟨i,b,hi,rfl,rfl⟩;have h2:=(h.i _ j).2 ⟨j,c,hj,rfl,rfl⟩;rw[e,h2] at h1;simp at h1;omega
 ·have h1:=(h.o _ i).2 ⟨i,b,hi,rfl,rfl⟩;have h2:=(h.o _ j).2 ⟨j,c,hj,rfl,rfl⟩;rw[e,h2] at h1;simp at h1;omega
def getS (S:Slots) (id:Int):Option Bnd:=if 0<=id then (S[id.toNat]?).join else none
theorem rH {S:Slots} {id:Int} {b:Bnd}:getS S id=some b↔0<=id/\S[id.toNat]? =some (some b):=by
 unfold getS;split
 ·rename_i h;rw[Option.join_eq_some_iff];simp[h]
 ·rename_i h;simp[h]
end Gp.Bind
end
