import Derived.Test.YtlpncoeijhpddaaGreatDoorG27x
import Derived.Test.YtlpncoeijhpddaaGreatDoorW3
import Derived.Test.YtlpncoeijhpddaaGreatDoorW2
open List (set_set)
set_option maxRecDepth 100000
set_option maxHeartbeats 4000000
section
namespace Go.Proofs
open Gp
@[reducible] def akF (a b c d e f g h i j k l m n o p q r:Int):List Value:= Β a:: Β b:: Β c:: Β d:: Β e:: Β f:: Β g:: Β h:: Β i:: Β j:: Β k:: Β l:: Β m:: Β n:: Β o:: Β p:: Β q:: Β r::[]
def F6 (c d:Int) (e:Bool) (b:gG) (f g:Int) (w:θ) (K:gG->Int->b_):=gI υ 349 [(.agg ⟨[Β c,Β d,.bool e,Δ b]⟩),Β f,Β g] [.one .slice,.one ν] w K
def F7 (c d:Int) (e:Bool) (b:gG) (w:θ) (K:Int->Int->Int->b_):=gI υ 350 [(.agg ⟨[Β c,Β d,.bool e,Δ b]⟩)] [.agg [ν,ν,ν]] w K
def Ht (c d:Int) (e:Bool) (b:gG) (f g:Int) (w:θ) (K:Value->b_):=gI υ 351 [(.agg ⟨[Β c,Β d,.bool e,Δ b]⟩),Β f,Β g] [.one .any] w K
def II (c d e f:Int) (g:Bool) (b:gG) (w:θ) (K:gG->Int->b_):=gI υ 352 [Β c,Β d,(.agg ⟨[Β e,Β f,.bool g,Δ b]⟩)] [.one .slice,.one ν] w K
def qL (a b:Int) (w:θ) (K:Int->b_):=gI υ 353 [Β a,Β b] [.one ν] w K
def IJ (c d:Int) (e:Bool) (b:gG) (w:θ) (K:Int->b_):=gI υ 354 [(.agg ⟨[Β c,Β d,.bool e,Δ b]⟩)] [.one ν] w K
def Gs (c d:Int) (b:gG) (w:θ) (K:Int->b_):=gI υ 355 [Β c,Β d,Δ b] [.one ν] w K
def Hu (a b c d e f g h:Int) (i j:gG) (k l:Int) (w:θ) (K:gG->Int->b_):=gI υ 356 [.agg ⟨mQ a b c d e f g h i j⟩,Β k,Β l] [.one .slice,.one ν] w K
def Hw (a b c d e f g h:Int) (i j:gG) (w:θ) (K:Int->Int->Int->b_):=gI υ 357 [.agg ⟨mQ a b c d e f g h i j⟩] [.agg [ν,ν,ν]] w K
def Iu (a b c d e f g h:Int) (i j:gG) (k l:Int) (w:θ) (K:Value->b_):=gI υ 358 [.agg ⟨mQ a b c d e f g h i j⟩,Β k,Β l] [.one .any] w K
def IC (a b c d e f g h i j:Int) (k l:gG) (w:θ) (K:gG->Int->b_):=gI υ 359 [Β a,Β b,.agg ⟨mQ c d e f g h i j k l⟩] [.one .slice,.one ν] w K
def IE (a b c d e f g h:Int) (i j:gG) (w:θ) (K:Int->b_):=gI υ 360 [.agg ⟨mQ a b c d e f g h i j⟩] [.one ν] w K
def AO (a b c d e f g h:Int) (i j:gG) (w:θ) (K:gG->b_):=gI υ 361 [.agg ⟨mQ a b c d e f g h i j⟩] [.one .slice] w K
def oM (b:gG) (w:θ) (K:gG->b_):=gI υ 362 [Δ b] [.one .slice] w K
def qc (b:gG) (c:Int) (w:θ) (K:gG->b_):=gI υ 363 [Δ b,Β c] [.one .slice] w K
def KR (c d e:Int) (b:gG) (f g:Int) (w:θ) (K:gG->Int->b_):=gI υ 364 [(.agg ⟨[Β c,Β d,Β e,Δ b]⟩),Β f,Β g] [.one .slice,.one ν] w K
def KT (c d e:Int) (b:gG) (w:θ) (K:Int->Int->Int->b_):=gI υ 365 [(.agg ⟨[Β c,Β d,Β e,Δ b]⟩)] [.agg [ν,ν,ν]] w K
def MW (c d e:Int) (b:gG) (f g:Int) (w:θ) (K:Value->b_):=gI υ 366 [(.agg ⟨[Β c,Β d,Β e,Δ b]⟩),Β f,Β g] [.one .any] w K
def XZ (c d e:Int) (b:gG) (w:θ) (K:Int->b_):=gI υ 367 [(.agg ⟨[Β c,Β d,Β e,Δ b]⟩)] [.one ν] w K
def D_ (c d e:Int) (b:gG) (f:Int) (w:θ) (K:Int->Int->Int->gG->b_):=gI υ 368 [(.agg ⟨[Β c,Β d,Β e,Δ b]⟩),Β f] [.agg [ν,ν,ν,.slice]] w K
theorem E8 {e f g c h i w K}:gV (F6 e f g c h i w K)
 (Ε w [Β e,Β f,.bool g,Δ c] 303 λd b=>f_ b (d.add 0) λj=>f_ b (d.add 1) λk=>Ld .bool b (d.add 2) λl=>Ld .slice b (d.add 3) λm=>II h i j k l m b λn o p=>K n o p):=χ Tryz.func349
theorem E_ {f g h b w K}:gV (F7 f g h b w K)
 (Ε w [Β f,Β g,.bool h,Δ b] 303 λi j=>Ε j anm 102 λc e=>f_ e i λk=>f_ e (i.add 1) λl=>iE [Β 17,Β k,Β l] e c 0 λd=>f_ d (c.add 0) λm=>f_ d (c.add 1) λn=>f_ d (c.add 2) λo=>K m n o d):=χ Tryz.func350
theorem GN {g h i d j k w K}:gV (Ht g h i d j k w K)
 (Ε w [Β g,Β h,.bool i,Δ d] 303 λb e=>f_ e.drew b λn=>f_ e.drew (b.add 1) λl=>qL j n e.drew λo m=>m.cell? (b.add 1)=some (Β l)/\
 qL k l m λp q=>St q b (Β o) λr=>St r (b.add 1) (Β p) λc=>f_ c (b.add 0) λs=>f_ c (b.add 1) λt=>Ld .bool c (b.add 2) λu=>Ld .slice c (b.add 3) λf=>K (Value.iface 303 (Value.agg ⟨[Β s,Β t,.bool u,Δ f]⟩)) c):=χ Tryz.func351
theorem ZX {j k l m n f w K}:gV (II j k l m n f w K)
 (Ε w [Β l,Β m,.bool n,Δ f] 126 λb c=>f_ c (b.add 0) λp=>f_ c (b.add 1) λq=>Ld .bool c (b.add 2) λr=>Ld .slice c (b.add 3) λs=>IJ p q r s c λo d=>(cond (o !=0) (K ⟨none,0,0⟩ o d) (f_ d b λt=>f_ d (b.add 1) λu=>Ld .slice d (b.add 3) λv=>Ε d [Β t,Β u,Β (ο.wrap (8+(v.len:Int))),Β 0] 3 λx y=>iQ (S:=gG×Int×Unit) (λe g z=>(cond (decide (e.2.1<(4:Int))) (iK ⟨(some x),4,4⟩ 1 e.2.1 λA=>f_ g A λB=>oP e.1 B 2 g λC D=>z (C,(ο.wrap (e.2.1+1)),()) D) (Ld .slice g (b.add 3) λE=>nH 5 1 1 [(Value.int .u8 0)] e.1 E g λh i=>Ld .bool i (b.add 2) λF=>(cond F (K h 0 i) (Gs j k h i λG H=>zM h 6 G 2 H λI J L=>K I J L))))) (⟨none,0,0⟩,0,()) y))):=χ Tryz.func352 (gB (gB (gB (.seq (gB (.blk (.loop [(9,.slice),(27,ν)] .leaf))) .leaf))))
theorem Xp {a b w K}:gV (qL a b w K)
 ((cond (a==(-1)) (K b w) (K a w))):=χ Tryz.func353
theorem ZY {f g h b w K}:gV (IJ f g h b w K)
 (Ε w [Β f,Β g,.bool h,Δ b] 126 λd i=>let j:Bool->b_:=λk c=>((cond k (K 1 c) (Ld .slice c (d.add 3) λl=>(cond (decide ((l.len:Int)>65527)) (K 6 c) (K 0 c)))))
 f_ i d λm=>lU m 2 i λn e=>(cond (!n) (j true e) (f_ e (d.add 1) λo=>lU o 2 e λp q=>j (!p) q))):=χ Tryz.func354
theorem XJ {d e b w K}:gV (Gs d e b w K)
 (uz d e 17 (b.len:Int) w λc h=>Ε h [Δ c,Δ b] 31 λi j=>IB ⟨(some i),2,2⟩ j λf g=>(cond (f==0) (K 65535 g) (K f g))):=χ Tryz.func355
theorem GR {a b c d e f g h i j k l w K}:gV (Hu a b c d e f g h i j k l w K)
 (Ε w (mQ a b c d e f g h i j) 309 λn m=>Bj m n λo p q r s t u v x y=>IC k l o p q r s t u v x y m λz A B=>K z A B):=χ Tryz.func356
theorem GU {d e f g h i j k l m w K}:gV (Hw d e f g h i j k l m w K)
 (Ε w (mQ d e f g h i j k l m) 309 λn o=>Ε o anm 102 λa c=>f_ c n λp=>f_ c (n.add 1) λq=>iE [Β 6,Β p,Β q] c a 0 λb=>f_ b (a.add 0) λr=>f_ b (a.add 1) λs=>f_ b (a.add 2) λt=>K r s t b):=χ Tryz.func357
theorem H8 {c d e f g h i j k l m n w K}:gV (Iu c d e f g h i j k l m n w K)
 (Ε w (mQ c d e f g h i j k l) 309 λa b=>f_ b.drew a λr=>f_ b.drew (a.add 1) λo=>qL m r b.drew λs p=>p.cell? (a.add 1)=some (Β o)/\
 qL n o p λt u=>St u a (Β s) λv=>St v (a.add 1) (Β t) λq=>Bj q a λx y z A B C D E F G=>K (Value.iface 309 (Value.agg ⟨mQ x y z A B C D E F G⟩)) q):=χ Tryz.func358
theorem ZU {l m n o p q r s t u v x w K}:gV (IC l m n o p q r s t u v x w K)
 (Ε w (mQ n o p q r s t u v x) 305 λe y=>Bj y e λC D E F G H I J L M=>IE C D E F G H I J L M y λz f=>(cond (z !=0) (K ⟨none,0,0⟩ z f) (Bj f e λN O P Q R T U V W X=>AO N O P Q R T U V W X f λA Y=>iQ (S:=gG×Int×Unit) (λb c Z=>(cond (decide (b.2.1<(A.len:Int))) (iK A 2 b.2.1 λB=>f_ c (B.add 0) λaa=>f_ c (B.add 1) λab=>Ε c anl 458 λg ac=>iE [Β aa,Β ab] ac g 0 λh=>f_ h g λad=>f_ h (g.add 1) λae=>oP b.1 ad ae h λaf ag=>Z (af,(ο.wrap (b.2.1+1)),()) ag) (Ld .slice c (e.add 8) λi=>Ld .slice c (e.add 9) λj=>Ε c [.slice b.1.a b.1.len b.1.cap,Δ i,Δ j] 31 λah ai=>oM ⟨(some ah),3,3⟩ ai λd aj=>uz l m 6 (d.len:Int) aj λk ak=>Ε ak [Δ k,Δ d] 31 λal am=>IB ⟨(some al),2,2⟩ am λan ao=>zM d 16 an 2 ao λap aq ar=>K ap aq ar))) (⟨none,0,0⟩,0,()) Y))):=χ Tryz.func359 (gB (gB (gB (.seq (gB (.blk (.loop [(9,.slice),(20,ν)] .leaf))) .leaf))))
theorem ZV {h i j k l m n o p q w K}:gV (IE h i j k l m n o p q w K)
 (Ε w (mQ h i j k l m n o p q) 305 λa b=>let d:Bool->Prop:=λu=>((cond u (K 1 b) (Bj b a λv x y z A B C D E F=>AO v x y z A B C D E F b λr G=>iQ (S:=Int×Unit) (λe c H=>(cond (decide (e.1<(r.len:Int))) (iK r 2 e.1 λs=>f_ c (s.add 0) λI=>f_ c (s.add 1) λJ=>Ε c anl 458 λf L=>iE [Β I,Β J] L f 0 λg=>f_ g f λM=>f_ g (f.add 1) λN=>lU M N g λO t=>(cond (!O) (K 1 t) (H ((ο.wrap (e.1+1)),()) t))) (Ld .slice c (a.add 8) λP=>Ld .slice c (a.add 9) λQ=>(cond (decide ((ο.wrap ((ο.wrap (20+(P.len:Int)))+(Q.len:Int)))>65535)) (K 6 c) (K 0 c))))) (0,()) G)))
 Ld .slice b (a.add 8) λR=>(cond (decide ((R.len:Int)>40)) (d true) (Ld .slice b (a.add 8) λT=>(4:Int)≠0/\
 (cond ((Int.tmod (T.len:Int) 4) !=0) (d true) (f_ b (a.add 4) λU=>(cond (decide (U<0)) (d true) (f_ b (a.add 4) λV=>d (decide (V>15))))))))):=χ Tryz.func360 (gB (gB (.seq (gB (.blk (.loop [(29,ν)] .leaf))) .leaf)))
theorem XH {c d e f g h i j k l w K}:gV (AO c d e f g h i j k l w K)
 (Ε w (mQ c d e f g h i j k l) 305 λb a=>Ld .slice a (b.add 8) λm=>(4:Int)≠0/\
 f_ a b λn=>f_ a (b.add 1) λo=>f_ a (b.add 2) λp=>f_ a (b.add 3) λq=>0<=(4:Int)/\
 f_ a (b.add 4) λr=>f_ a (b.add 5) λs=>f_ a (b.add 6) λt=>f_ a (b.add 7) λu=>Ε a (akF n 2 o 2 p 4 q 4 (orI .i64 (LX .i64 (ο.wrap (Int.tdiv (ο.wrap (20+(m.len:Int))) 4)) 4) r) 1 s 1 t 2 0 2 u 2) 458 λv x=>K ⟨(some v),9,9⟩ x):=χ Tryz.func361
theorem CJ {b w K}:gV (oM b w K)
 (iQ (S:=Int×Int×Unit) (λa d g=>(cond (decide (a.2.1<(b.len:Int))) (iK b 1 a.2.1 λh=>Ld .slice d h λf=>(cond (decide ((ο.wrap (a.1+(f.len:Int)))<0)) False (g ((ο.wrap (a.1+(f.len:Int))),(ο.wrap (a.2.1+1)),()) d))) (qc ⟨none,0,0⟩ a.1 d λi j=>iQ (S:=gG×Int×Unit) (λc e k=>(cond (decide (c.2.1<(b.len:Int))) (iK b 1 c.2.1 λl=>Ld .slice e l λm=>nH 5 1 1 [(Value.int .u8 0)] c.1 m e λn o=>k (n,(ο.wrap (c.2.1+1)),()) o) (K c.1 e))) (i,0,()) j))) (0,0,()) w):=χ Tryz.func362 (gB (gB (.seq (gB (.blk (.loop [(3,ν),(11,ν)] .leaf))) (gB (.seq (gB (.blk (.loop [(6,.slice),(27,ν)] .leaf))) .leaf)))))
theorem EC {a b w K}:gV (qc a b w K)
 ((cond (decide (b<0)) False (let c:gG->b_:=λd e=>(K d e)
 (cond (decide ((ο.wrap (b - (ο.wrap ((a.cap:Int) - (a.len:Int)))))>0)) (lG a 1 0 (a.cap:Int) λf=>XM 5 1 1 [(Value.int .u8 0)] f (ο.wrap (b - (ο.wrap ((a.cap:Int) - (a.len:Int))))) w λg h=>lG g 1 0 (a.len:Int) λi=>c i h) (c a w))))):=χ Tryz.func363
theorem Jt {e f g c h i w K}:gV (KR e f g c h i w K)
 (Ε w [Β e,Β f,Β g,Δ c] 311 λd b=>f_ b (d.add 0) λj=>f_ b (d.add 1) λk=>f_ b (d.add 2) λl=>Ld .slice b (d.add 3) λm=>Ap j k l m b λn o p=>K n o p):=χ Tryz.func364
theorem Ju {g h i c w K}:gV (KT g h i c w K)
 (Ε w [Β g,Β h,Β i,Δ c] 311 λd k=>Ε k anm 102 λe b=>f_ b (d.add 0) λl=>f_ b (d.add 1) λm=>f_ b (d.add 2) λn=>Ld .slice b (d.add 3) λo=>XZ l m n o b λj p=>iE [Β 1,Β j,Β j] p e 0 λf=>f_ f (e.add 0) λq=>f_ f (e.add 1) λr=>f_ f (e.add 2) λs=>K q r s f):=χ Tryz.func365
theorem LD {j k l e m n w K}:gV (MW j k l e m n w K)
 (Ε w [Β j,Β k,Β l,Δ e] 311 λb c=>f_ c.drew (b.add 0) λo=>f_ c.drew (b.add 1) λp=>f_ c.drew (b.add 2) λq=>Ld .slice c.drew (b.add 3) λf=>qL m n c.drew λr g=>Cj g b o p<|Ci g b 2 q<|Cs g b 3 (Δ f)<|D_ o p q f r g λs t u h v=>iE [Β s,Β t,Β u,Δ h] v b 0 λd=>f_ d (b.add 0) λx=>f_ d (b.add 1) λy=>f_ d (b.add 2) λz=>Ld .slice d (b.add 3) λi=>K (Value.iface 311 (Value.agg ⟨[Β x,Β y,Β z,Δ i]⟩)) d):=χ Tryz.func366
theorem acz {c d e b w K}:gV (XZ c d e b w K)
 (Ε w [Β c,Β d,Β e,Δ b] 97 λg f=>f_ f (g.add 2) λh=>0<=(16:Int)/\
 K (lZ .i64 (jR .i64 h 16) 65535) f):=χ Tryz.func367
theorem U6 {i j k f l w K}:gV (D_ i j k f l w K)
 (Ε w [Β i,Β j,Β k,Δ f] 97 λb o=>Ε o ano 97 λc m=>0<=(16:Int)/\
 f_ m (b.add 2) λp=>St m (b.add 2) (Β (orI .i64 (LX .i64 (lZ .i64 l 65535) 16) (lZ .i64 p 65535))) λn=>Ld .slice n (b.add 3) λq=>iD q n λg r=>St r (b.add 3) (Δ g) λd=>f_ d (b.add 0) λs=>f_ d (b.add 1) λt=>f_ d (b.add 2) λu=>Ld .slice d (b.add 3) λh=>iE [Β s,Β t,Β u,Δ h] d c 0 λe=>f_ e (c.add 0) λv=>f_ e (c.add 1) λx=>f_ e (c.add 2) λy=>Ld .slice e (c.add 3) λz=>K v x y z e):=χ Tryz.func368
@[reducible] def akG (a b c d e f g h i j k l m n o p q r s t u v w x y z A B C D E F:Int):List Value:= .int .u8 a:: .int .u8 b:: .int .u8 c:: .int .u8 d:: .int .u8 e:: .int .u8 f:: .int .u8 g:: .int .u8 h:: .int .u8 i:: .int .u8 j:: .int .u8 k:: .int .u8 l:: .int .u8 m:: .int .u8 n:: .int .u8 o:: .int .u8 p:: .int .u8 q:: .int .u8 r:: .int .u8 s:: .int .u8 t:: .int .u8 u:: .int .u8 v:: .int .u8 w:: .int .u8 x:: .int .u8 y:: .int .u8 z:: .int .u8 A:: .int .u8 B:: .int .u8 C:: .int .u8 D:: .int .u8 E:: .int .u8 F::[]
def Gi (w:θ) (K:gy (gy (gG->gG->Int->Int->Int->Int->Int->Int->Int->Int->Int->Int->Int->Int->Int->Int->Int->Int->Int->gG->b_))):=gI υ 23 [] [.agg afj] w K
def BK (b:gG) (w:θ) (K:gy (gy (b_))):=gI υ 73 [Δ b] [.agg TF] w K
theorem U7 {w K}:gV (lF w K)
 (Gi w λj k l m n o p q r s t u v x y z A B C D E F G H I J L M N O P Q R S T U V=>FW j k l m n o p q r s t u v x y z A B C D E F G H I J L M N O P Q R S T U V λa W d=>let e:Bool->Prop:=λX=>((cond X (K false d) (jC 167772161 3221225985 5000 53 9 ⟨none,0,0⟩ d λY Z=>jB Y Z λaa ab ac ad ae af ag ah ai aj ak al=>jH a 1 aa ab ac ad ae af ag ah ai aj ak al λam an ao ap aq ar au av aw ax ay az aA=>Ε aA ξ 41 λf aB=>iE (gX am an ao ap aq ar au av aw ax ay) aB f 0 λc=>let g:Bool->Prop:=λaC=>((cond aC (K false c) (jC 3221225985 3325256705 53 5000 9 ⟨none,0,0⟩ c λaD aE=>jB aD aE λaF aG aH aI aJ aK aL aM aN aO aP aQ=>kD a aF aG aH aI aJ aK aL aM aN aO aP aQ λaR aS aT aU aV aW aX aY aZ a0 a1 a2 a3 a4=>Ε a4 ξ 41 λh a5=>iE (gX aS aT aU aV aW aX aY aZ a0 a1 a2) a5 h 0 λa6=>jC 3221225986 3325256705 53 5000 9 ⟨none,0,0⟩ a6 λa7 a8=>jB a7 a8 λa9 ba bb bc bd be bf bg bh bi bj bk=>kD a a9 ba bb bc bd be bf bg bh bi bj bk λ _ bl bm bn bo bp bq br bs bt bu bv bw bx=>Ε bx ξ 41 λbz bA=>iE (gX bl bm bn bo bp bq br bs bt bu bv) bA bz 0 λi=>let b:Bool->Prop:=λbB=>(K bB i)
 (cond (a3==0) (cond (aR==1) (f_ i (h.add 6) λbC=>(cond (bC==167772161) (b (bw==10)) (b false))) (b false)) (b false)))))
 (cond (az !=0) (g true) (f_ c (f.add 5) λbD=>g (bD !=3325256705))))))
 (cond (Option.isNone a) (e true) (e (W !=0)))):=χ Tryz.func6
theorem XD {w K}:gV (Gi w K)
 (Ε w (jO 0 0 0 0 0 0 0 0 0 0 0 0 0 0 0 0 ⟨none,0,0⟩ ⟨none,0,0⟩ 0 0 0 0 0 0 0 0 0 0 0 0 0 0 0 0 0 ⟨none,0,0⟩) 28 λa c=>Ε c [Β 8193,Β 3512,Β 0,Β 0,Β 0,Β 0,Β 0,Β 1] 3 λd e=>BK ⟨(some d),8,8⟩ e λf g h i j k l m n o p q r s t u v=>Ε v [Β 8193,Β 3512,Β 1,Β 0,Β 0,Β 0,Β 0,Β 1] 3 λx y=>BK ⟨(some x),8,8⟩ y λz A B C D E F G H I J L M N O P Q=>Ε Q [Β 8193,Β 3512,Β 2,Β 0,Β 0,Β 0,Β 0,Β 1] 3 λR S=>BK ⟨(some R),8,8⟩ S λT U V W X Y Z aa ab ac ad ae af ag ah ai aj=>Ε aj (akG z A B C D E F G H I J L M N O P T U V W X Y Z aa ab ac ad ae af ag ah ai) 23 λak al=>Ε al [Β 3325256705] 3 λam an=>iE (jO f g h i j k l m n o p q r s t u ⟨(some ak),2,2⟩ ⟨(some am),1,1⟩ 1024 65535 16 64 128 8 1048576 1500 1500 64 0 2 300 7440 240 60 60 ⟨none,0,0⟩) an a 0 λb=>tC b a λao ap aq ar au av aw ax ay az aA aB aC aD aE aF aG aH aI aJ aK aL aM aN aO aP aQ aR aS aT aU aV aW aX aY aZ=>K ao ap aq ar au av aw ax ay az aA aB aC aD aE aF aG aH aI aJ aK aL aM aN aO aP aQ aR aS aT aU aV aW aX aY aZ b):=χ Tryz.func23
theorem aaG {c w K}:gV (BK c w K)
 (Ε w (og 0 0 0 0 0 0 0 0 0 0 0 0 0 0 0 0) 23 λe i=>Ε i (og 0 0 0 0 0 0 0 0 0 0 0 0 0 0 0 0) 23 λd j=>iQ (S:=Int×Unit) (λa b k=>let f:Bool->Prop:=λl=>((cond l (iK c 1 a.1 λm=>f_ b m λg=>(65536:Int)≠0/\
 (65536:Int)≠0/\
 (256:Int)≠0/\
 (256:Int)≠0/\
 (0:Int)<=(ο.wrap (2 * a.1))/\(ο.wrap (2 * a.1))<(16:Int)/\
 St b (d.add (Int.toNat (ο.wrap (2 * a.1)) * 1)) (Value.int .u8 (IntKind.u8.wrap (ο.wrap (Int.tdiv (Int.tmod (ο.wrap ((Int.tmod g 65536)+65536)) 65536) 256)))) λn=>(0:Int)<=(ο.wrap ((ο.wrap (2 * a.1))+1))/\(ο.wrap ((ο.wrap (2 * a.1))+1))<(16:Int)/\
 St n (d.add (Int.toNat (ο.wrap ((ο.wrap (2 * a.1))+1)) * 1)) (Value.int .u8 (IntKind.u8.wrap (Int.tmod (Int.tmod (ο.wrap ((Int.tmod g 65536)+65536)) 65536) 256))) λo=>k ((ο.wrap (a.1+1)),()) o) (vI b d λp q r s t u v x y z A B C D E F=>iE (og p q r s t u v x y z A B C D E F) b e 0 λh=>vI h e λG H I J L M N O P Q R T U V W X=>K G H I J L M N O P Q R T U V W X h)))
 (cond (decide (a.1<(c.len:Int))) (f (decide (a.1<8))) (f false))) (0,()) j):=χ Tryz.func73 (gB (gB (.seq (gB (.blk (.loop [(4,ν)] .leaf))) .leaf)))
end Go.Proofs
end
section
namespace Gp.Hash
abbrev uS:=Option (ByteArray×Int)
def cy (m a:Nat):Nat:=if a<m then a else a - m
def used (L:List uS) (i:Nat):Prop:=∃e:ByteArray×Int,L[i]? =some (some e)
def Has (L:List uS) (k:ByteArray) (n:Int):Prop:=∃i:Nat,L[i]? =some (some (k,n))
structure T (H:ByteArray->Nat) (L:List uS) (X:Nat->Nat->Prop):Prop where
 dist:∀(i j:Nat) (k:ByteArray) (n n':Int),L[i]? =some (some (k,n))->L[j]? =some (some (k,n'))->i=j
 reach:∀(i:Nat) (k:ByteArray) (n:Int),L[i]? =some (some (k,n))->∃D,D<L.length/\cy L.length (H k+D)=i/\∀d,d<D->used L (cy L.length (H k+d))\/X i (cy L.length (H k+d))
def Stop (L:List uS) (h:Nat) (k:ByteArray) (d:Nat):Prop:=L[cy L.length (h+d)]? =some none\/∃n,L[cy L.length (h+d)]? =some (some (k,n))
structure First (L:List uS) (h:Nat) (k:ByteArray) (d:Nat):Prop where
 lt:d<L.length
 stop:Stop L h k d
 first:∀d',d'<d->¬Stop L h k d'
section
variable {H:ByteArray->Nat} {L:List uS} {X:Nat->Nat->Prop} {k:ByteArray} {n:Int}
theorem cyc (m a:Nat):(a<m/\cy m a=a)\/(m<=a/\cy m a=a - m):=by
 unfold cy;split<;>omega
theorem Ot {m a:Nat} (h:a<2 * m):cy m a<m:=by unfold cy;split<;>omega
theorem abT {m h d d':Nat} (_:h<m) (hd:d<m) (hd':d'<m) (e:cy m (h+d)=cy m (h+d')):d=d':=by
 unfold cy at e;split at e<;>split at e<;>omega
theorem Yg (L:List uS) {i:Nat} (h:i<L.length):L[i]? =some none\/∃k n,L[i]? =some (some (k,n)):=by
 rw[adP h]
 cases hx:L[i] with
 |none=>simp
 |some e=>grind
theorem ϸ (t:T H L X) (hX:∀i p,¬X i p) (_:H k<L.length) {i:Nat} (hi:L[i]? =some (some (k,n))) {d:Nat} (f:First L (H k) k d):cy L.length (H k+d)=i:=by
 obtain⟨D,hD,hc,hu⟩:=t.reach i k n hi;have hs:Stop L (H k) k D:= .inr ⟨n,by simp_all⟩;have h1:=λh=>f.first D h hs
 by_cases h2:d<D
 ·rcases hu d h2 with ⟨e,he⟩|hx
  ·rcases f.stop with h0|⟨n',h0⟩
   ·simp_all
   ·exact t.dist _ _ _ _ _ h0 hi
  simp_all
 grind
theorem Nb (u:∀n,¬Has L k n) {h:Nat} (hh:h<L.length) {d:Nat} (f:First L h k d):L[cy L.length (h+d)]? =some none/\∀d',d'<d->used L (cy L.length (h+d')):=by
 refine⟨?_,λd' hd=> ?_⟩
 ·rcases f.stop with h0|⟨n',h0⟩
  ·exact h0
  ·exact absurd ⟨_,h0⟩ (u n')
 ·have hlt:=f.lt;rcases Yg L (Ot (a:=h+d') (by omega)) with h0|⟨k',n',h0⟩
  ·exact absurd (.inl h0) (f.first d' hd)
  ·exact⟨_,h0⟩
theorem jl (L:List uS) (q i:Nat) (e:uS):(L.set q e)[i]? =if q=i/\q<L.length then some e else L[i]? :=by
 grind
theorem abh {q i:Nat} {e:uS} (hu:used L i) (hn:L[q]? =some none):used (L.set q e) i:=by
 obtain⟨x,hx⟩:=hu;refine⟨x,?_⟩;rw[jl,acZ]
 ·exact hx
 grind
theorem insert (t:T H L X) (u:∀n,¬Has L k n) (hh:H k<L.length) {d:Nat} (f:First L (H k) k d):T H (L.set (cy L.length (H k+d)) (some (k,n))) X:=by
 obtain⟨hn,hu⟩:=Nb u hh f;have hq:=(afg.1 hn).1;refine⟨λi j k' n1 n2 hi hj=> ?_,λi k' n1 hi=> ?_⟩
 ·rw[jl] at hi hj;split at hi<;>split at hj
  ·omega
  ·cases hi;exact absurd ⟨_,hj⟩ (u n2)
  ·cases hj;exact absurd ⟨_,hi⟩ (u n1)
  ·exact t.dist _ _ _ _ _ hi hj
 ·rw[jl] at hi;simp only[alP];split at hi
  ·rename_i h1
   cases hi
   exact⟨d,f.lt,h1.1,λd' hd=> .inl (abh (hu d' hd) hn)⟩
  ·obtain⟨D,hD,hc,hx⟩:=t.reach i k' n1 hi;exact⟨D,hD,hc,λd' hd=>(hx d' hd).imp (λh=>abh h hn) id⟩
theorem Gx {q:Nat} (hn:L[q]? =some none) (h:∀n,¬Has L k n) (k':ByteArray) (n':Int):Has (L.set q (some (k,n))) k' n'↔(k'=k/\n'=n)\/(k'≠k/\Has L k' n'):=by
 have hq:=(afg.1 hn).1;constructor
 ·rintro⟨i,hi⟩;rw[jl] at hi;split at hi
  ·simp_all
  ·refine .inr ⟨?_,i,hi⟩;rintro rfl;exact h _ ⟨i,hi⟩
 ·rintro(⟨rfl,rfl⟩|⟨hk,i,hi⟩)
  ·exact⟨q,by simp_all⟩
  ·refine⟨i,?_⟩;rw[jl,acZ]
   ·exact hi
   grind
theorem update (t:T H L X) {q:Nat} {n0:Int} (hq:L[q]? =some (some (k,n0))):T H (L.set q (some (k,n))) X:=by
 have u:=(afg.1 hq).1;have old:∀(i:Nat) (k':ByteArray) (n1:Int),(L.set q (some (k,n)))[i]? =some (some (k',n1))->∃n2:Int,L[i]? =some (some (k',n2)):=by
  grind
 have us:∀i,used L i->used (L.set q (some (k,n))) i:=by
  rintro i ⟨e,he⟩;by_cases h:q=i
  ·exact⟨_,by rw[jl,adZ ⟨h,u⟩]⟩
  ·exact⟨e,by simp_all⟩
 refine⟨λi j k' n1 n2 hi hj=> ?_,λi k' n1 hi=> ?_⟩
 ·obtain⟨_,h1⟩:=old _ _ _ hi;obtain⟨_,h2⟩:=old _ _ _ hj;exact t.dist _ _ _ _ _ h1 h2
 ·obtain⟨_,h1⟩:=old _ _ _ hi;simp only[alP];obtain⟨D,hD,hc,hx⟩:=t.reach i k' _ h1
  grind
theorem Uz (t:T H L X) {q:Nat} {n0:Int} (hq:L[q]? =some (some (k,n0))) (k':ByteArray) (n':Int):Has (L.set q (some (k,n))) k' n'↔(k'=k/\n'=n)\/(k'≠k/\Has L k' n'):=by
 have h:=(afg.1 hq).1;constructor
 ·rintro⟨i,hi⟩;rw[jl] at hi;split at hi
  ·simp_all
  ·rename_i h1;refine .inr ⟨?_,i,hi⟩;rintro rfl;exact h1 ⟨t.dist _ _ _ _ _ hq hi,h⟩
 ·rintro(⟨rfl,rfl⟩|⟨hk,i,hi⟩)
  ·exact⟨q,by simp_all⟩
  ·refine⟨i,?_⟩;rw[jl,acZ]
   ·exact hi
   grind
def off (m at_ i:Nat):Nat:=if at_<=i then i - at_ else i+m - at_
theorem aip (m at_ i:Nat):(at_<=i/\off m at_ i=i - at_)\/(i<at_/\off m at_ i=i+m - at_):=by
 unfold off;split<;>omega
def Xj (m at_ e j i p:Nat):Prop:=j<=off m at_ i/\off m at_ i<e/\off m at_ p<j
structure Zone (L:List uS) (at_ e j:Nat):Prop where
 at_lt:at_<L.length
 e1:e<L.length
 je:j<=e
 full:∀d,j<=d->d<e->used L (cy L.length (at_+d))
 free:L[cy L.length (at_+e)]? =some none
theorem ak5 (m at_ e i p:Nat):¬Xj m at_ e e i p:=λh=>by have:=h.1;have:=h.2.1;omega
theorem way {m at_ e j h d D:Nat} (hat:at_<m) (he:e<m) (hje:j<e) (hh:h<m) (hD:D<m) (hd:d<D) (hp:cy m (at_+j)=cy m (h+d))
  (hz:¬(j<=off m at_ (cy m (h+D))/\off m at_ (cy m (h+D))<e)):(cy m (at_+e)=cy m (h+(d+(e - j)))/\d+(e - j)<D)\/cy m (at_+e)=cy m (h+D):=by
 have c1:=cyc m (at_+j);have c2:=cyc m (h+d);have c3:=cyc m (h+D);have c4:=cyc m (at_+e);have c5:=cyc m (h+(d+(e - j)));have o1:=aip m at_ (cy m (h+D));omega
theorem clear {at_ e j:Nat} (z:Zone L at_ e j) (hj:j<e) (hH:∀k,H k<L.length) (t:T H L (Xj L.length at_ e j)):T H (L.set (cy L.length (at_+j)) none) (Xj L.length at_ e (j+1)):=by
 have I:=z.at_lt;have he:=z.e1;have hp:cy L.length (at_+j)<L.length:=Ot (by omega);have old:∀(i:Nat) (k':ByteArray) (n1:Int),(L.set (cy L.length (at_+j)) none)[i]? =some (some (k',n1))->L[i]? =some (some (k',n1))/\cy L.length (at_+j)≠i:=by
  grind
 refine⟨λi j' k' n1 n2 hi hj'=>t.dist _ _ _ _ _ (old _ _ _ hi).1 (old _ _ _ hj').1,λi k' n1 hi=> ?_⟩;obtain⟨hi,J⟩:=old _ _ _ hi;simp only[alP];obtain⟨D,hD,hc,hx⟩:=t.reach i k' n1 hi;have hh:=hH k';have hlt:=(afg.1 hi).1;have hoff:off L.length at_ i≠j:=by
  intro h;apply J;unfold off at h;unfold cy;split at h<;>split<;>omega
 refine⟨D,hD,hc,λd hd=> ?_⟩;by_cases u:cy L.length (at_+j)=cy L.length (H k'+d)
 ·
  right;have o1:off L.length at_ (cy L.length (H k'+d))=j:=by rw[<- u];unfold off cy;split<;>split<;>omega
  refine⟨?_,?_,by omega⟩
  all_goals
   by_cases hz:j<=off L.length at_ i/\off L.length at_ i<e
   ·omega
   ·exfalso;have hfree:=z.free;have key:=way I he hj hh hD hd u (by simp_all);rcases key with ⟨k1,k2⟩|k1
    ·rcases hx _ k2 with ⟨x,hu⟩|hX
     ·simp_all
     ·exact hz ⟨hX.1,hX.2.1⟩
    simp_all
 ·rcases hx d hd with ⟨x,hu⟩|hX
  ·exact .inl ⟨x,by simp_all⟩
  ·exact .inr ⟨by have:=hX.1;omega,hX.2.1,by have:=hX.2.2;omega⟩
theorem least {p:Nat->Prop} (h:∃n,p n):∃n,p n/\∀m,m<n->¬p m:=by
 obtain⟨n,hn⟩:=h
 induction n using Nat.strongRecOn with
 |_ n ih=>
  grind
theorem af8 {h:Nat} (hs:∃d,d<L.length/\Stop L h k d):∃d,First L h k d:=by
 obtain⟨d,⟨h1,h2⟩,h3⟩:=least hs;exact⟨d,h1,h2,λd' hd hx=>h3 d' hd ⟨by omega,hx⟩⟩
theorem afN {m h i:Nat} (hh:h<m) (hi:i<m):off m h i<m/\cy m (h+off m h i)=i:=by
 have c1:=cyc m (h+off m h i);have o1:=aip m h i;omega
theorem G8 {h i:Nat} (hh:h<L.length) (hi:L[i]? =some none):∃d,d<L.length/\Stop L h k d:=by
 have u:=(afg.1 hi).1;obtain⟨h1,h2⟩:=afN hh u;exact⟨_,h1,.inl (by simp_all)⟩
def cnt:List uS->Nat
 |[]=>0
 |none::r=>cnt r
 |some _::r=>cnt r+1
theorem cnt_le:∀L:List uS,cnt L<=L.length
 |[]=>ajq _
 |none::r=>by have:=cnt_le r;simp only[cnt,ajg];omega
 |some _::r=>by have:=cnt_le r;simp only[cnt,ajg];omega
theorem SI:∀{L:List uS},cnt L<L.length->∃i:Nat,L[i]? =some none
 |[],h=>by trivial
 |none::_,_=>⟨0,rfl⟩
 |some _::r,h=>by
  obtain⟨i,hi⟩:=SI (L:=r) (by simp only[cnt,ajg] at h;omega);exact⟨i+1,by trivial⟩
theorem Kq:∀{L:List uS} {i:Nat} {e:ByteArray×Int},L[i]? =some none->cnt (L.set i (some e))=cnt L+1
 |[],_,_,h=>by simp at h
 |x::r,0,e,h=>by simp at h;subst h;rfl
 |x::r,i+1,e,h=>by
  have:=Kq (e:=e) (by simpa using h)
  cases x<;>simp only[ahm,cnt,this]
theorem Oq:∀{L:List uS} {i:Nat} {e:ByteArray×Int},L[i]? =some (some e)->cnt (L.set i none)+1=cnt L
 |[],_,_,h=>by simp at h
 |x::r,0,e,h=>by simp at h;subst h;rfl
 |x::r,i+1,e,h=>by
  have:=Oq (by simpa using h)
  cases x<;>simp only[ahm,cnt]<;>omega
theorem Oo:∀{L:List uS} {i:Nat} {e e':ByteArray×Int},L[i]? =some (some e)->cnt (L.set i (some e'))=cnt L
 |[],_,_,_,h=>by simp at h
 |x::r,0,_,_,h=>by simp at h;subst h;rfl
 |x::r,i+1,e,e',h=>by
  have:=Oo (e':=e') (by simpa using h)
  cases x<;>simp only[ahm,cnt,this]
theorem ahD (n:Nat):cnt (List.replicate n none)=0:=by
 induction n with
 |zero=>rfl
 |succ n ih=>trivial
theorem Qa (t:T H L X) {q:Nat} {n0:Int} (hq:L[q]? =some (some (k,n0))) (k':ByteArray) (n':Int):Has (L.set q none) k' n'↔k'≠k/\Has L k' n':=by
 have h:=(afg.1 hq).1;constructor
 ·rintro⟨i,hi⟩;rw[jl] at hi;split at hi
  ·cases hi
  ·rename_i h1;refine⟨?_,i,hi⟩;rintro rfl;exact h1 ⟨t.dist _ _ _ _ _ hq hi,h⟩
 ·rintro⟨hk,i,hi⟩;refine⟨i,?_⟩;rw[jl,acZ]
  ·exact hi
  grind
theorem ai5 {at_:Nat} (ha:used L at_) (hc:cnt L<L.length):∃e,0<e/\Zone L at_ e 0:=by
 obtain⟨x,hx⟩:=ha;have u:=(afg.1 hx).1;obtain⟨i,hi⟩:=SI hc;have I:=(afg.1 hi).1;obtain⟨h1,h2⟩:=afN u I;obtain⟨e,⟨h3,h4⟩,h5⟩:=least (p:=λe=>e<L.length/\L[cy L.length (at_+e)]? =some none) ⟨_,h1,by simp_all⟩;have h0:0<e:=by
  rcases Nat.eq_zero_or_pos e with h|h
  ·subst h;have:cy L.length (at_+0)=at_:=by unfold cy;simp[u]
   simp_all
  ·exact h
 refine⟨e,h0,u,h3,Nat.zero_le _,λd _ hd=> ?_,h4⟩;rcases Yg L (Ot (a:=at_+d) (by omega)) with h|⟨k',n',h⟩
 ·exact absurd ⟨by omega,h⟩ (h5 d hd)
 ·exact⟨_,h⟩
theorem Wx {at_ e j:Nat} (z:Zone L at_ e j) (hj:j<e):Zone (L.set (cy L.length (at_+j)) none) at_ e (j+1):=by
 have u:=z.at_lt;have he:=z.e1;refine⟨by simp_all,by simp_all,hj,λd h1 h2=> ?_,?_⟩
 ·obtain⟨x,hx⟩:=z.full d (by omega) h2;refine⟨x,?_⟩;rw[alP,jl,acZ]
  ·exact hx
  ·rintro⟨h,_⟩;have:=abT u (by omega) (by omega) h;omega
 ·rw[alP,jl,acZ]
  ·exact z.free
  ·rintro⟨h,_⟩;have:=abT u (by omega) (by omega) h;omega
theorem afd {at_ e j:Nat} (z:Zone L at_ e j) (hj:j<e) (hH:∀k,H k<L.length) (t:T H L (Xj L.length at_ e j)) {n0:Int} (h0:L[cy L.length (at_+j)]? =some (some (k,n0))):
  (∃d,First (L.set (cy L.length (at_+j)) none) (H k) k d)/\∀d,First (L.set (cy L.length (at_+j)) none) (H k) k d->
   Zone ((L.set (cy L.length (at_+j)) none).set (cy L.length (H k+d)) (some (k,n0))) at_ e (j+1)/\
   T H ((L.set (cy L.length (at_+j)) none).set (cy L.length (H k+d)) (some (k,n0))) (Xj L.length at_ e (j+1))/\
   (∀k' n',Has ((L.set (cy L.length (at_+j)) none).set (cy L.length (H k+d)) (some (k,n0))) k' n'↔Has L k' n')/\
   cnt ((L.set (cy L.length (at_+j)) none).set (cy L.length (H k+d)) (some (k,n0)))=cnt L:=by
 have hat:=z.at_lt;have he:=z.e1;have hp0:cy L.length (at_+j)<L.length:=Ot (by omega);have O:(L.set (cy L.length (at_+j)) none).length=L.length:=alP;have u:(L.set (cy L.length (at_+j)) none)[cy L.length (at_+j)]? =some none:=by simp_all
 refine⟨af8 (G8 (by simp_all) u),λd f=> ?_⟩;have t1:=clear z hj hH t;have z1:=Wx z hj;have J:=λn h=>((Qa t h0 k n).1 h).1 rfl;have I:=Nb J (by simp_all) f;have ins:=insert (n:=n0) t1 J (by simp_all) f;rw[O] at I ins;have hd:d<L.length:=by have:=f.lt;omega
 have hq:=Ot (m:=L.length) (a:=H k+d) (by grind);have N:off L.length at_ (cy L.length (H k+d))<=j:=by
  obtain⟨D,hD,hc,hx⟩:=t.reach _ _ _ h0;have hle:¬D<d:=λR=>by
   obtain⟨x,hx⟩:=I.2 D R
   simp_all
  by_cases U:d=D
  ·rw[U,hc];have c1:=cyc L.length (at_+j);have o1:=aip L.length at_ (cy L.length (at_+j));omega
  ·rcases hx d (by omega) with ⟨x,hu⟩|hX
   ·have:=I.1;rw[jl,acZ] at this
    ·simp_all
    ·rintro⟨h,_⟩;rw[<- hc] at h;have:=abT (hH k) hD hd h;omega
   ·have:=hX.2.2;omega
 have keep:∀c,j<c->c<=e->¬(cy L.length (H k+d)=cy L.length (at_+c)/\cy L.length (H k+d)<(L.set (cy L.length (at_+j)) none).length):=by
  rintro c h1 h2 ⟨h,_⟩;rw[h] at N;have c1:=cyc L.length (at_+c);have o1:=aip L.length at_ (cy L.length (at_+c));omega
 refine⟨⟨by simp_all,by simp_all,hj,λc h1 h2=> ?_,?_⟩,ins,λk' n'=> ?_,?_⟩
 ·obtain⟨x,hx⟩:=z1.full c h1 h2;rw[O] at hx;refine⟨x,?_⟩
  grind
 ·have:=z1.free
  simp_all
 ·rw[Gx I.1 J,Qa t h0];constructor
  ·rintro(⟨rfl,rfl⟩|⟨_,_,h⟩)
   ·exact⟨_,h0⟩
   ·exact h
  ·rintro⟨i,hi⟩;by_cases hk:k'=k
   ·subst hk;have:=t.dist _ _ _ _ _ h0 hi
    simp_all
   ·exact .inr ⟨hk,hk,i,hi⟩
 ·rw[Kq I.1];exact Oq h0
end
end Gp.Hash
end
section
namespace Go.Proofs
open Gp Gp.Hash
theorem adG {m from_ i:Nat} (hm:m<=2^48) (hf:from_<m) (hi:i<m):Int.tmod (ο.wrap ((from_:Int)+(i:Int))) (m:Int)=((cy m (from_+i):Nat):Int):=by
 rw[Α,al0 (by omega)];have c:=cyc m (from_+i);rcases c with ⟨h1,h2⟩|⟨h1,h2⟩
 ·rw[h2,Int.emod_eq_of_lt (by omega) (by omega)];omega
 ·rw[h2];have:((from_:Int)+(i:Int))=((from_+i - m:Nat):Int)+(m:Int):=by omega
  rw[this,Int.add_emod_right,Int.emod_eq_of_lt (by omega) (by omega)]
theorem abl {w:θ} {f0 f1 b from_ m:Nat} {body:Nat->zZ [.one ν]->θ->(Exit->b_)->Prop} {Kn Kr:b_} {Kx:List (Nat×(b_))}
  (I:Nat->b_) (J:Exit->b_) (hm:m<=2^48) (hf:from_<m)
  (h0:∀w1,(∀S,ig w w1 S)->w1.heap[w.heap.size]? =some (.deferred (some []))->w1.heap.size=w.heap.size+2->I 0 w1)
  (hI:∀i W,I i W->Row W f0 [.pointer (some ⟨b,0,none⟩)]/\Row W f1 [Β from_]/\∃s,W.cell? ⟨b,0,none⟩=some (.slice s m m))
  (stI:∀i W W',I i W->ig W W' (·=w.heap.size+1)->I i W')
  (stJ:∀e W W',J e W->ig W W' (·=w.heap.size+1)->J e W')
  (jmp:∀e W,J e W->e= .ret\/∃id,e= .exit id)
  (step:∀i W Kb,i<m->I i W->(∀W',W'.heap[w.heap.size+1]? =(gQ W (w.heap.size+1)).heap[w.heap.size+1]? ->I (i+1) W'->Kb .normal W')->
   (∀e W',W'.heap[w.heap.size+1]? =(gQ W (w.heap.size+1)).heap[w.heap.size+1]? ->J e W'->Kb e W')->body (w.heap.size+1) (((cy m (from_+i):Nat):Int),()) W Kb)
  (fn:∀W,I m W->Kn W) (fr:∀W,J .ret W->Kr W) (fx:∀id W,J (.exit id) W->Uw id Kx W):
  xO υ none [.one ν] (Value.func (.func Ak) #[] #[(Value.pointer (some ⟨f0,0,none⟩)),(Value.pointer (some ⟨f1,0,none⟩))]) w body Kn Kr Kx:=by
 refine⟨λl₀ h=>(by cases h),by kernel_rfl,λl L w1 ctx=> ?_⟩;have hl:l=w.heap.size+1:=ctx.at_;subst hl;refine Calls.mono (Jk
  ?_) (λe w' h=>h)
 have i0:=h0 w1 (λS=>⟨by have:=ctx.size;omega,λb hb _=>ctx.old b hb,ctx.io⟩) (ctx.marks rfl) ctx.size;obtain⟨r0,r1,s,hs⟩:=hI _ _ i0;simp only[sx,r0.cell,hs];refine g_ (λst W=>(∃i:Nat,i<=m/\st.1=i/\I i W)/\L .ready none W) (λst _=>m - st.1.toNat) ⟨⟨0,by omega,rfl,i0⟩,ctx.ready⟩ ?_;rintro⟨x,⟨⟩⟩ W ⟨⟨i,hi,rfl,R⟩,hL⟩ next N
 by_cases U:i<m
 ·have u:((i:Int)<(m:Int)):=by omega
  simp only[u,acI,abt];have Y:=stI _ _ _ R (ig.drew W _);have O:L .ready none W.drew:=ctx.frame _ _ _ _ hL rfl;obtain⟨r0,r1,s,hs⟩:=hI _ _ Y;simp only[xA,afe,gJ,h_,gK,pR,r0.cell,r1.cell,hs];refine⟨by omega,?_⟩;rw[adG hm hf U];refine ctx.yield (((cy m (from_+i):Nat):Int),()) W.drew none _ O (step i W.drew _ U Y ?_ ?_)
  ·intro W' hh hI';refine⟨ctx.frame _ _ _ _ (ctx.busy _ _ O) hh,none,rfl,true,rfl,?_⟩;simp only[adt,aaf];refine N _ _ ⟨⟨i+1,by omega,?_,stI _ _ _ hI' (ig.iZ _ _ _ _)⟩,ctx.set _ _ _ _ _ (ctx.frame _ _ _ _ (ctx.busy _ _ O) hh)⟩ ?_
   ·simp only;rw[Α];omega
   ·simp only;rw[Α];omega
  ·intro e W' hh hJ;have hb:=ctx.frame _ _ _ _ (ctx.busy _ _ O) hh;rcases jmp _ _ hJ with rfl|⟨id,rfl⟩
   ·refine⟨hb,_,rfl,false,rfl,?_⟩;simp only[afk,abt];refine⟨.done,some .ret,ctx.set _ _ _ _ _ hb,by simp,?_⟩;exact fr _ (stJ _ _ _ (stJ _ _ _ hJ (ig.iZ _ _ _ _)) (ig.iZ _ _ _ _))
   ·refine⟨hb,_,rfl,false,rfl,?_⟩;simp only[afk,abt];refine⟨.done,some (.exit id),ctx.set _ _ _ _ _ hb,by simp,?_⟩;exact fx _ _ (stJ _ _ _ (stJ _ _ _ hJ (ig.iZ _ _ _ _)) (ig.iZ _ _ _ _))
 ·have u:¬((i:Int)<(m:Int)):=by omega
  simp only[u,acR,aaf];have:i=m:=by omega
  subst this;exact⟨.ready,none,hL,by simp,fn _ (stI _ _ _ R (ig.iZ _ _ _ _))⟩
def Oy:uS->ByteArray
 |none=>bs []
 |some x=>x.1
def eN:uS->Int
 |none=>0
 |some x=>x.2
def eU:uS->Bool
 |none=>false
 |some _=>true
def Ry (e:uS):List Value:=[.string (Oy e),Β (eN e),.bool (eU e)]
theorem IX (e:uS):(Ry e).length=3:=rfl
def slA (s:Nat) (L:List uS):gu:=if L=[] then none else some ⟨s,0,none⟩
structure HT (w:θ) (b s:Nat) (L:List uS) (many most:Int):Prop where
 hd:Row w b [.slice (slA s L) L.length L.length,Β many,Β most,.bool true]
 row:L≠[]->Row w s (L.flatMap Ry)
 ne:L≠[]->b≠s
 sz:L.length<=2^20
theorem HT.fr {w w':θ} {b s:Nat} {L:List uS} {many most:Int} {S:Nat->Prop} (h:HT w b s L many most) (hf:ig w w' S) (h1:¬S b) (h2:L≠[]->¬S s):HT w' b s L many most:=
 ⟨h.hd.fr hf h1,λhn=>(h.row hn).fr hf (h2 hn),h.ne,h.sz⟩
theorem HT.Md {w w':θ} {b s:Nat} {L:List uS} {many most:Int} (h:HT w b s L many most) (hf:∀S,ig w w' S):HT w' b s L many most:=
 h.fr (hf λ_=>False) (by simp) (by simp)
theorem HT.ent {w:θ} {b s:Nat} {L:List uS} {many most:Int} (h:HT w b s L many most) {i:Nat} {e:uS} (hi:L[i]? =some e) (j:Nat) (hj:j<3):w.cell? ⟨s,i * 3+j,none⟩=(Ry e)[j]? :=by
 have hn:L≠[]:=by grind
 rw[(h.row hn).cell,flat_get _ 3 IX _ _ j hj,hi];rfl
def hTo (k:ByteArray):Nat->Int
 |0=>2166136261
 |i+1=>match k[i]? with
  |some c=>IntKind.u32.wrap (Wu .u32 (hTo k i) (IntKind.u32.wrap (c.toNat:Int)) * 16777619)
  |none=>0
def wL (k:ByteArray) (m:Nat):Nat:=(Int.tmod (hTo k k.size) (m:Int)).toNat
theorem abp (n:Int):0<=IntKind.u32.wrap n/\IntKind.u32.wrap n<4294967296:=by
 rw[IntKind.wrap_u32];omega
theorem agl (k:ByteArray) (i:Nat):0<=hTo k i/\hTo k i<4294967296:=by
 cases i with
 |zero=>simp[hTo]
 |succ i=>
  simp only[hTo];split
  ·exact abp _
  ·omega
theorem ET (k:ByteArray) {m:Nat} (hm:0<m):wL k m<m:=by
 unfold wL;have h:=(agl k k.size).1;rw[al0 h];have:=Int.emod_lt_of_pos (hTo k k.size) (b:=(m:Int)) (by omega);omega
theorem ahZ (k:ByteArray) (m:Nat) (hm:0<m) (hm2:m<=2^20) (w:θ) (hk:k.size<=2^63 - 1):Iq k (m:Int) w λr w'=>r=(wL k m:Int)/\w'=w:=by
 apply ZC;refine g_ (λst W=>(∃i:Nat,i<=k.size/\st.2.1=i/\st.1=hTo k i)/\W=w) (λst _=>k.size - st.2.1.toNat) ⟨⟨0,by omega,rfl,rfl⟩,rfl⟩ ?_;rintro⟨x,y,⟨⟩⟩ W ⟨⟨i,hi,rfl,rfl⟩,rfl⟩ next u
 by_cases I:i<k.size
 ·have h:((i:Int)<(k.size:Int)):=by omega
  simp only[h,acI,abt];have hg:k[i]? =some k[i]:=by simp[I]
  refine⟨k[i],by omega,by simp,?_⟩;have e:ο.wrap ((i:Int)+1)=((i+1:Nat):Int):=by rw[Α];omega
  rw[e];refine u _ _ ⟨⟨i+1,by omega,rfl,?_⟩,rfl⟩ (by grind);simp only[hTo,hg]
 ·have h:¬((i:Int)<(k.size:Int)):=by omega
  simp only[h,acR,aaf];have e1:IntKind.u32.wrap (m:Int)=m:=by rw[IntKind.wrap_u32];omega
  have:i=k.size:=by omega
  subst this;rw[e1];refine⟨by omega,?_,by trivial⟩;have h1:=ET k hm;have h2:Int.tmod (hTo k k.size) (m:Int)=(wL k m:Int):=by
   unfold wL;have:=Int.tmod_nonneg (m:Int) (agl k k.size).1;omega
  rw[h2,Α]
theorem adM (tb:Nat) (x:Int) (w:θ):sH (some ⟨tb,0,none⟩) x w λr w'=>∃f0 f1,r= .func (.func Ak) #[] #[(Value.pointer (some ⟨f0,0,none⟩)),(Value.pointer (some ⟨f1,0,none⟩))]/\
  Row w' f0 [.pointer (some ⟨tb,0,none⟩)]/\Row w' f1 [Β x]/\w.heap.size<=f0/\w.heap.size<=f1/\∀S,ig w w' S:=by
 apply Nz;refine⟨rfl,uQ λa2 w1 r1 e1 _ f1=>⟨rfl,uQ λa4 w3 r3 e3 _ f3=>⟨a2,a4,rfl,r1.fr (f3 λ_=>False) (by simp),r3,by omega,by omega,λS=>(f1 S).trans (f3 S) λ_ _ e=>e⟩⟩⟩
theorem Qb {w:θ} {b s:Nat} {L:List uS} {many most:Int} (h:HT w b s L many most):ou (some ⟨b,0,none⟩) w λr w'=>r=true/\w'=w:=by
 apply Lh;simp only[sx,h.hd.cell,afk];trivial
theorem ig.putObj (w:θ) (b:Nat) (o:Obj):ig w (w.putObj b o) (·=b):=
 ⟨by simp,λc _ hn=>by simp[World.putObj,ama];omega,rfl,rfl,rfl⟩
theorem toList_inj {a b:ByteArray} (h:a.toList=b.toList):a=b:=by
 rw[ByteArray.toList_eq,ByteArray.toList_eq] at h
 cases a;simp_all
theorem YA {a b:ByteArray}:strEq a b=true↔a=b:=by
 unfold strEq;constructor
 ·intro h;exact toList_inj (by simpa using h)
 simp_all
theorem Tq {w:θ} {T:TypeId} {x y z x' y' z':Value} {K:Addr->b_} (h1:iP x'=true) (h2:iP y'=true) (h3:iP z'=true)
  (h:∀a w',Row w' a [x',y',z']->w.heap.size<=a->(∀S,ig w w' S)->K ⟨a,0,none⟩ w'):
  Al w (.cells ⟨[x,y,z]⟩ T) λa w1=>St w1 (a.add 0) x' λw2=>St w2 (a.add 1) y' λw3=>St w3 (a.add 2) z' λw4=>K a w4:=by
 refine uQ λa w1 r1 e1 _ f1=> ?_;simp only[sx];refine iC r1 h1 (by simp) λw2 r2 f2 _=> ?_;refine iC r2 h2 (by simp) λw3 r3 f3 _=> ?_;refine iC r3 h3 (by simp) λw4 r4 f4 _=> ?_;refine h a w4 r4 (by omega) λS=> ?_;exact(((f1 S).trans (f2 (·=a) rfl) λx hx e=>by omega).trans (f3 (·=a) rfl) λx hx e=>by omega).trans (f4 (·=a) rfl) λx hx e=>by omega
def afi (L:List uS) (k:ByteArray) (at_:Int) (t:Bool):Prop:=
 ∃d,First L (wL k L.length) k d/\at_=((cy L.length (wL k L.length+d):Nat):Int)/\
  ((t=true/\∃n,L[cy L.length (wL k L.length+d)]? =some (some (k,n)))\/(t=false/\L[cy L.length (wL k L.length+d)]? =some none))
structure FI (w W:θ) (S:Nat->Prop):Prop where
 fr:ig w W S
 mark:W.heap[w.heap.size]? =some (.deferred (some []))
 size:w.heap.size+2<=W.heap.size
theorem FI.st {w W W':θ} {S:Nat->Prop} (h:FI w W S) (hf:ig W W' (·=w.heap.size+1)):FI w W' S:=
 ⟨h.fr.trans hf λb hb e=>by omega,by rw[hf.same _ (by have:=h.size;omega) (by omega)];exact h.mark,by have:=h.size;have:=hf.size;omega⟩
theorem UA {w:θ} {b s:Nat} {L:List uS} {many most:Int} {k:ByteArray} (h:HT w b s L many most) (U:L≠[]) (hk:k.size<=2^63 - 1) (hs:∃d,d<L.length/\Stop L (wL k L.length) k d):
  jG (some ⟨b,0,none⟩) k w λat_ t w'=>afi L k at_ t/\∀S,ig w w' S:=by
 apply CB;have I:0<L.length:=by omega
 have ab:=h.sz;have hh:=ET k I;refine⟨rfl,uQ λa2 w1 r2 e2 _ f1=>⟨rfl,uQ λa4 w3 r4 e4 _ f3=>uQ λa6 w5 r6 e6 _ f5=>uQ λa8 w7 r8 e8 _ f7=> ?_⟩⟩;have s1:=(f3 λ_=>False).size;have s5:=(f5 λ_=>False).size;have s7:=r2.lt;have l4:=r6.lt;have Y:=λS=>(((f1 S).trans (f3 S) λ_ _ e=>e).trans (f5 S) λ_ _ e=>e).trans (f7 S) λ_ _ e=>e;have h7:=h.Md Y;have r2:=((r2.fr (f3 λ_=>False) (by simp)).fr (f5 λ_=>False) (by simp)).fr (f7 λ_=>False) (by simp);have r4:=(r4.fr (f5 λ_=>False) (by simp)).fr (f7 λ_=>False) (by simp);have r6:=r6.fr (f7 λ_=>False) (by simp);have hl0:((L.length:Int)==0)=false:=by simp;omega
 have h7d:=h7.Md λS=>ig.drew _ S;have r2d:=r2.drew;have r4d:=r4.drew;simp only[sx,r2.cell,r2d.cell,r4d.cell,h7.hd.cell,h7d.hd.cell,hl0];refine cmS1 (ahZ k L.length I ab w7.drew hk) ?_;rintro r w22 ⟨rfl,rfl⟩;refine⟨by simp[r2d.cell],?_⟩;refine cmS4 (adM b _ _) ?_;rintro r u ⟨g0,g1,rfl,q0,q1,lg0,lg1,f24⟩;have r2:=r2d.fr (f24 λ_=>False) (by simp);have r4:=r4d.fr (f24 λ_=>False) (by simp);have r6:=r6.drew.fr (f24 λ_=>False) (by simp);have r8:=r8.drew.fr (f24 λ_=>False) (by simp);have Z:=h7d.Md f24;have f024:=λS=>((Y S).trans (ig.drew _ S) λ_ _ e=>e).trans (f24 S) λ_ _ e=>e;have l8:=r8.lt;have hb:=h.hd.lt;have hs7:w7.heap.size<=u.heap.size:=by omega
 have hsl:=(h.row U).lt;have lg0':=q1.lt;have hg0:=lg0;have hg1:=lg1;refine abl (b:=b)
  (λi W=>(∀d,d<i->¬Stop L (wL k L.length) k d)/\FI u W λ_=>False)
  (λe W=>e= .ret/\(FI u W λx=>x=a6\/x=a8)/\∃at_ t,Row W a6 [Β at_]/\Row W a8 [.bool t]/\afi L k at_ t)
  (by omega) hh ?_ ?_ ?_ ?_ ?_ ?_ ?_ ?_ ?_
 ·exact λw1 hf hm hz=>⟨λd hd=>by omega,hf _,hm,by omega⟩
 ·exact λi W hI=>⟨q0.fr hI.2.fr (by simp),q1.fr hI.2.fr (by simp),_,by rw[(Z.hd.fr hI.2.fr (by simp)).cell];rfl⟩
 ·exact λi W W' hI hf=>⟨hI.1,hI.2.st hf⟩
 ·rintro e W W' ⟨rfl,hF,at_,t,ra,rt,hr⟩ hf;exact⟨by trivial,hF.st hf,at_,t,ra.fr hf (by omega),rt.fr hf (by omega),hr⟩
 ·simp_all
 ·rintro i W Kb hi ⟨J,hF⟩ hn hj;have hFz:=hF.size;have zb:=(ig.gQ W (u.heap.size+1)).size;have fb:ig u (gQ W (u.heap.size+1)) λ_=>False:=hF.fr.trans (ig.gQ W _) λx hx e=>by omega
  have hW:=Z.fr fb (by simp) (by simp);have q2:=r2.fr fb (by simp);have q4:=r4.fr fb (by simp);have q6:=r6.fr fb (by simp);have q8:=r8.fr fb (by simp);refine⟨by trivial,?_⟩;simp only[xA,afe,gJ,h_,pR,q2.cell,hW.hd.cell];have hx:cy L.length (wL k L.length+i)<L.length:=Ot (by omega);have he:∃e,L[cy L.length (wL k L.length+i)]? =some e:=⟨_,adP hx⟩;obtain⟨e,he⟩:=he;have c0:=hW.ent he 0 (by omega);have c1:=hW.ent he 1 (by omega);have c2:=hW.ent he 2 (by omega);refine tq (b:=s) (o:=0) (by simp[slA,U]) (by omega) (by simp_all) ?_;simp only[abu,ahn];simp only[akC] at c0;simp only[sx,c0,c1,c2,Ry];refine Tq rfl rfl rfl λa37 N ac e37 f40=> ?_;have fb40:=fb.trans (f40 _) λ_ _ e=>e;have l40:=(f40 λ_=>False).size;have q6:=q6.fr (f40 λ_=>False) (by simp);have q8:=q8.fr (f40 λ_=>False) (by simp);have q4:=q4.fr (f40 λ_=>False) (by simp);have hm40:N.heap[u.heap.size]? =some (.deferred (some [])):=by rw[(f40 λ_=>False).same _ (by omega) (by simp),(ig.gQ W _).same _ (by omega) (by omega)];exact hF.mark
  have hk40:N.heap[u.heap.size+1]? =(gQ W (u.heap.size+1)).heap[u.heap.size+1]? :=(f40 λ_=>False).same _ (by omega) (by simp);have out:∀(v:Int) (t:Bool),afi L k v t->St N ⟨a6,0,none⟩ (Β v) λaa=>St aa ⟨a8,0,none⟩ (Value.bool t) λO=>Kb .ret O:=by
   intro v t hr;refine iC q6 rfl (by simp) λaa ae f42 z42=> ?_;refine iC (q8.fr (f42 (·=a6) rfl) (by omega)) rfl (by simp) λO af f43 z43=> ?_;have f0:ig N O λx=>x=a6\/x=a8:=(f42 _ (.inl rfl)).trans (f43 _ (.inr rfl)) λ_ _ e=>e;refine hj _ _ ?_ ⟨rfl,⟨(fb40.mono λ_ e=>e.elim).trans f0 λ_ _ e=>e,?_,by omega⟩,v,t,(ae.fr (f43 (·=a8) rfl) (by omega)),af,hr⟩
   ·rw[f0.same _ (by omega) (by omega)];exact hk40
   ·rw[f0.same _ (by omega) (by omega)];exact hm40
  simp only[sx,ac.cell,q4.cell]
  cases e with
  |none=>
   simp only[eU,afk,abt];exact out _ _ ⟨i,⟨hi,.inl he,J⟩,rfl,.inr ⟨rfl,he⟩⟩
  |some x=>
   obtain⟨k',n'⟩:=x;simp only[eU,adt,aaf,aaf,Oy]
   cases R:strEq k' k with
   |true=>
    have:=YA.1 R;subst this;simp only[abt];exact out _ _ ⟨i,⟨hi,.inr ⟨_,he⟩,J⟩,rfl,.inl ⟨rfl,_,he⟩⟩
   |false=>
    simp only[aaf];refine hn _ hk40 ⟨λd hd=> ?_,fb40,hm40,by omega⟩;by_cases ag:d=i
    ·subst ag;rintro(h1|⟨n,h1⟩)
     ·simp_all
     ·rw[he] at h1;cases h1;rw[YA.2 rfl] at R;cases R
    grind
 ·rintro W ⟨J,_⟩;obtain⟨d,hd,ah⟩:=hs;exact absurd ah (J d hd)
 ·rintro W ⟨_,hF,at_,t,ra,rt,hr⟩;refine⟨hF.mark,?_⟩;have pf:=ig.putObj W u.heap.size (.deferred none);simp only[afe,gJ,gK,jr,(ra.fr pf (by omega)).cell,(rt.fr pf (by omega)).cell];refine⟨hr,λS=> ?_⟩;exact((f024 S).trans hF.fr λx hx e=>by omega).trans pf λx hx e=>by omega
 ·rintro id W ⟨h,_⟩
  cases h
theorem aes {w:θ} {b s:Nat} {many most:Int} {k:ByteArray} (h:HT w b s [] many most):
  jG (some ⟨b,0,none⟩) k w λ _ t w'=>t=false/\∀S,ig w w' S:=by
 apply CB;refine⟨rfl,uQ λa2 w1 r2 e2 _ f1=>⟨rfl,uQ λa4 w3 r4 e4 _ f3=>uQ λa6 w5 r6 e6 _ f5=>uQ λa8 w7 r8 e8 _ f7=> ?_⟩⟩;have s1:=(f3 λ_=>False).size;have s5:=(f7 λ_=>False).size;have l6:=r6.lt;have u:=λS=>(((f1 S).trans (f3 S) λ_ _ e=>e).trans (f5 S) λ_ _ e=>e).trans (f7 S) λ_ _ e=>e;have h7:=h.Md u;have r2:=((r2.fr (f3 λ_=>False) (by simp)).fr (f5 λ_=>False) (by simp)).fr (f7 λ_=>False) (by simp);have r6:=r6.fr (f7 λ_=>False) (by simp);simp only[sx,r2.cell,h7.hd.cell,amn,Int.natCast_zero,am7];refine iC r6 rfl (by simp) λw12 I f12 _=> ?_;refine iC (r8.fr (f12 (·=a6) rfl) (by omega)) rfl (by simp) λw13 J f13 _=> ?_;simp only[(I.fr (f13 (·=a8) rfl) (by omega)).cell,J.cell];exact⟨by trivial,λS=>((u S).trans (f12 (·=a6) rfl) λx hx e=>by omega).trans (f13 (·=a8) rfl) λx hx e=>by omega⟩
structure TB (w:θ) (b s:Nat) (L:List uS) (most:Int) (M:ByteArray->Option Int):Prop where
 ht:HT w b s L (cnt L:Int) most
 t:T (λk=>wL k L.length) L λ_ _=>False
 free:2 * cnt L<=L.length
 m:∀k n,M k=some n↔Has L k n
 most0:0<=most
 most1:most<=65536
 sz:L.length<=262144
 nils:L=[]->s=b
 keys:∀k n,Has L k n->k.size<=2^63 - 1
theorem TB.fr {w w':θ} {b s:Nat} {L:List uS} {most:Int} {M:ByteArray->Option Int} {S:Nat->Prop} (h:TB w b s L most M) (hf:ig w w' S) (h1:¬S b) (h2:¬S s):TB w' b s L most M:=
 ⟨h.ht.fr hf h1 λ_=>h2,h.t,h.free,h.m,h.most0,h.most1,h.sz,h.nils,h.keys⟩
theorem TB.Md {w w':θ} {b s:Nat} {L:List uS} {most:Int} {M:ByteArray->Option Int} (h:TB w b s L most M) (hf:∀S,ig w w' S):TB w' b s L most M:=
 h.fr (hf λ_=>False) (by simp) (by simp)
theorem TB.UM {w:θ} {b s:Nat} {L:List uS} {most:Int} {M:ByteArray->Option Int} (h:TB w b s L most M) (k:ByteArray):M k=none↔∀n,¬Has L k n:=by
 constructor
 ·intro hn n hx;rw[(h.m k n).2 hx] at hn;cases hn
 ·intro hn
  cases hx:M k with
  |none=>rfl
  |some n=>exact absurd ((h.m k n).1 hx) (hn n)
theorem TB.pos {w:θ} {b s:Nat} {L:List uS} {most:Int} {M:ByteArray->Option Int} (_:TB w b s L most M) (hne:L≠[]):0<L.length:=by
 grind
theorem OD {w:θ} {b s:Nat} {L:List uS} {most:Int} {M:ByteArray->Option Int} (h:TB w b s L most M) (k:ByteArray) (hk:k.size<=2^63 - 1):
  jG (some ⟨b,0,none⟩) k w λat_ t w'=>(∀S,ig w w' S)/\
   ((t=true/\∃(i:Nat) (n:Int),at_=(i:Int)/\L[i]? =some (some (k,n))/\M k=some n)\/
    (t=false/\M k=none/\(L≠[]->∃d,First L (wL k L.length) k d/\at_=((cy L.length (wL k L.length+d):Nat):Int)))):=by
 by_cases u:L=[]
 ·subst u;refine cmS3 (aes h.ht) ?_;rintro at_ t w' ⟨rfl,hf⟩;refine⟨hf,.inr ⟨rfl,(h.UM k).2 ?_,λhx=>absurd rfl hx⟩⟩;rintro n ⟨i,hi⟩;simp at hi
 ·have I:=h.pos u;have hh:=ET k I;have hfr:=h.free;obtain⟨i,hi⟩:=SI (L:=L) (by omega);refine cmS3 (UA h.ht u hk (G8 hh hi)) ?_;rintro at_ t w' ⟨⟨d,hd,rfl,⟨rfl,n,hn⟩|⟨rfl,hn⟩⟩,hf⟩
  ·exact⟨hf,.inl ⟨rfl,_,n,rfl,hn,(h.m k n).2 ⟨_,hn⟩⟩⟩
  ·refine⟨hf,.inr ⟨rfl,(h.UM k).2 ?_,λ_=>⟨d,hd,rfl⟩⟩⟩;rintro n ⟨i,hi⟩;have:=ϸ h.t (λ_ _ x=>x) hh hi hd
   simp_all
theorem Zb {w:θ} {b s:Nat} {L:List uS} {most:Int} {M:ByteArray->Option Int} (h:TB w b s L most M) (k:ByteArray) (hk:k.size<=2^63 - 1):
  pW (some ⟨b,0,none⟩) k w λn t w'=>(∀S,ig w w' S)/\t=(M k).isSome/\n=(M k).getD 0:=by
 apply OX;refine cmS0 (Qb h.ht) ?_;rintro r w2 ⟨rfl,rfl⟩;simp only[adt,aaf];refine cmS3 (OD h k hk) ?_;rintro at_ t w' ⟨hf,⟨rfl,i,n,rfl,hi,hM⟩|⟨rfl,hM,_⟩⟩
 ·have h':=h.Md hf;have u:L≠[]:=by grind
  have hlt:=(afg.1 hi).1;simp only[sx,adt,h'.ht.hd.cell];refine tq (b:=s) (o:=0) (by simp[slA,u]) (by omega) (by simp_all) ?_;simp only[sx,abu,h'.ht.ent hi 1 (by omega),Ry,eN]
  simp_all
 ·simp only[afk,abt]
  simp_all
theorem Zc (n:Int) (w:θ):BH n w λp e w'=>
  (∀S,ig w w' S)/\((0<=n/\n<=65536/\e=0/\∃b,p=some ⟨b,0,none⟩/\w.heap.size<=b/\TB w' b b [] n λ_=>none)\/((n<0\/65536<n)/\e=1/\p=none)):=by
 apply aax;by_cases c1:n<0
 ·simp only[c1,acI,abt];exact⟨λS=>ig.refl _ _,.inr ⟨.inl (by trivial),by trivial,by trivial⟩⟩
 ·by_cases c2:n>65536
  ·simp only[c1,c2,acI,acR,abt,aaf];exact⟨λS=>ig.refl _ _,.inr ⟨.inr (by trivial),by trivial,by trivial⟩⟩
  ·simp only[c1,c2,acR,aaf];refine uQ λa w3 r3 e3 _ f3=>⟨f3,.inl ⟨by omega,by omega,by trivial,a,rfl,by omega,?_⟩⟩;exact⟨⟨r3,λh=>absurd rfl h,λh=>absurd rfl h,by simp⟩,⟨λi j k n n' h=>by simp at h,λi k n h=>by simp at h⟩,by simp[cnt],λk n=>⟨λh=>by simp at h,λ⟨i,hi⟩=>by simp at hi⟩,by omega,by omega,by simp,λ_=>rfl,λk n ⟨i,hi⟩=>by simp at hi⟩
def tr (e:uS):ByteArray×Int×Bool:=(Oy e,eN e,eU e)
def f3 (x:ByteArray×Int×Bool):List Value:=[.string x.1,Β x.2.1,.bool x.2.2]
theorem adn (L:List uS):L.flatMap Ry=(L.map tr).flatMap f3:=by rw[List.flatMap_map];rfl
theorem aco (L:List uS) (i:Nat) (e:uS):(L.map tr).set i (tr e)=(L.set i e).map tr:=by simp
theorem HT.agO {w w':θ} {b s:Nat} {L L':List uS} {many most:Int} (h:HT w b s L many most) (hn:L≠[]) (hl:L'.length=L.length) (hf:ig w w' (·=s)) (hr:Row w' s (L'.flatMap Ry)):HT w' b s L' many most:=by
 have hn':L'≠[]:=by grind
 refine⟨?_,λ_=>hr,λ_=>h.ne hn,by rw[hl];exact h.sz⟩;have:=h.hd.fr hf (h.ne hn);rw[show slA s L=slA s L' by simp[slA,hn,hn'],<- hl] at this;exact this
theorem TL {w:θ} {b s i:Nat} {L:List uS} {many most:Int} (h:HT w b s L many most) (hi:i<L.length) (e:uS) {K:b_} (hK:∀w',HT w' b s (L.set i e) many most->ig w w' (·=s)->K w'):
  St w ⟨s,i * 3,none⟩ (.string (Oy e)) λw1=>St w1 ⟨s,i * 3+1,none⟩ (Β (eN e)) λw2=>St w2 ⟨s,i * 3+2,none⟩ (.bool (eU e)) K:=by
 have hn:L≠[]:=by grind
 have hr:=h.row hn;have hlen:=jh _ 3 IX L;refine iC hr rfl (by omega) λw1 r1 f1 _=> ?_;refine iC r1 rfl (by grind) λw2 r2 f2 _=> ?_;refine iC r2 rfl (by grind) λw3 r3 f3' _=> ?_;have hf:=((f1 (·=s) rfl).trans (f2 (·=s) rfl) λ_ _ e=>e).trans (f3' (·=s) rfl) λ_ _ e=>e;refine hK w3 (h.agO hn (by simp) hf ?_) hf;rw[adn] at r3;have g0:(L.map tr)[i]? =some (tr L[i]):=by simp[hi]
 have hl:i<(L.map tr).length:=by simp_all
 have e0:=I5 f3 3 (λ_=>rfl) (L.map tr) i 0 (tr L[i]) (Oy e,(tr L[i]).2) (.string (Oy e)) (by omega) g0 rfl;have e1:=I5 f3 3 (λ_=>rfl) ((L.map tr).set i (Oy e,(tr L[i]).2)) i 1 (Oy e,(tr L[i]).2) (Oy e,eN e,(tr L[i]).2.2) (Β (eN e)) (by omega) (by simp[hi]) rfl;have e2:=I5 f3 3 (λ_=>rfl) (((L.map tr).set i (Oy e,(tr L[i]).2)).set i (Oy e,eN e,(tr L[i]).2.2)) i 2 (Oy e,eN e,(tr L[i]).2.2) (tr e) (.bool (eU e)) (by omega) (by simp[hi]) rfl;rw[akC] at e0;rw[e0,e1,e2] at r3;rw[set_set,set_set,aco,<- adn] at r3;exact r3
theorem aju {w:θ} {b s i:Nat} {L:List uS} {many most n n':Int} {k:ByteArray} (h:HT w b s L many most) (hi:L[i]? =some (some (k,n))) {K:b_} (hK:∀w',HT w' b s (L.set i (some (k,n'))) many most->ig w w' (·=s)->K w'):
  St w ⟨s,i * 3+1,none⟩ (Β n') K:=by
 have hn:L≠[]:=by grind
 have hlt:=(afg.1 hi).1;have hlen:=jh _ 3 IX L;refine iC (h.row hn) rfl (by omega) λw1 r1 f1 _=>hK w1 (h.agO hn (by simp) (f1 (·=s) rfl) ?_) (f1 (·=s) rfl);rw[I5 Ry 3 IX L i 1 (some (k,n)) (some (k,n')) (Β n') (by omega) hi rfl] at r1;exact r1
theorem ac1 {w:θ} {b s:Nat} {L:List uS} {many many' most:Int} (h:HT w b s L many most) {K:b_} (hK:∀w',HT w' b s L many' most->ig w w' (·=b)->K w'):St w ⟨b,1,none⟩ (Β many') K:=by
 refine iC h.hd rfl (by simp) λw1 r1 f1 _=>hK w1 ⟨r1,λhn=>(h.row hn).fr (f1 (·=b) rfl) (λe=>h.ne hn e.symm),h.ne,h.sz⟩ (f1 (·=b) rfl)
theorem Ub (a b:List uS):cnt (a++b)=cnt a+cnt b:=by
 induction a with
 |nil=>simp[cnt]
 |cons x a ih=>cases x<;>simp only[alY,cnt,ih]<;>omega
theorem Uy (a:List uS) (e:uS) (k:ByteArray) (n:Int):Has (a++[e]) k n↔Has a k n\/e=some (k,n):=by
 constructor
 ·rintro⟨i,hi⟩;by_cases h:i<a.length
  ·rw[alT h] at hi;exact .inl ⟨i,hi⟩
  grind
 ·rintro(⟨i,hi⟩|h)
  ·exact⟨i,by grind⟩
  ·exact⟨a.length,by simp[h]⟩
theorem ag3 (n:Nat):iw [Value.string (bs []),Β 0,Value.bool false] n=(List.replicate n (none:uS)).flatMap Ry:=by
 induction n with
 |zero=>rfl
 |succ n ih=>rw[al6,alx,<- ih];rfl
theorem agm {L:List uS} {i:Nat} {k:ByteArray} {n:Int} (h:Has (L.take i) k n):∃j:Nat,j<i/\L[j]? =some (some (k,n)):=by
 obtain⟨j,hj⟩:=h
 grind
theorem agn {w:θ} {b s:Nat} {L:List uS} {most:Int} {M:ByteArray->Option Int} (h:TB w b s L most M) (hc:(cnt L:Int)<most):
  wU (some ⟨b,0,none⟩) w λw'=>∃s' L',TB w' b s' L' most M/\cnt L'=cnt L/\2 * (cnt L+1)<=L'.length/\ig w w' (·=b)/\(s'=s\/w.heap.size<=s'):=by
 apply Ny;have hd:=h.Md λS=>ig.drew _ S;have hm1:=h.most1;have e1:ο.wrap ((cnt L:Int)+1)=((cnt L+1:Nat):Int):=by rw[Α];omega
 have e2:ο.wrap (2 * ((cnt L+1:Nat):Int))=((2 * (cnt L+1):Nat):Int):=by rw[Α];omega
 simp only[sx,hd.ht.hd.cell];rw[e1,e2];by_cases aj:2 * (cnt L+1)<=L.length
 ·have N:(((2 * (cnt L+1):Nat):Int)<=(L.length:Int)):=by omega
  simp only[N,acI,abt];exact⟨s,L,hd,rfl,aj,ig.drew _ _,.inl rfl⟩
 ·have N:¬(((2 * (cnt L+1):Nat):Int)<=(L.length:Int)):=by omega
  simp only[N,acR,aaf];have hlen:L.length<131072:=by omega
  have e3:ο.wrap (2 * (L.length:Int))=((2 * L.length:Nat):Int):=by rw[Α];omega
  rw[e3];obtain⟨m,hm,ak⟩:∃m:Nat,(if ((2 * L.length:Nat):Int)>8 then ((2 * L.length:Nat):Int) else 8)=(m:Int)/\(8<=m/\2 * L.length<=m/\m<=262144):=by
   split
   ·grind
   ·exact⟨8,rfl,by omega,by omega,by omega⟩
  obtain⟨m8,m2,mm⟩:=ak;rw[hm];refine Ik (by omega) (by omega) (by omega) (by omega) λs' w8 r8 hs' z8 f8=> ?_;rw[abu,ag3] at r8;simp only[abu];have h8:=hd.Md f8;have l8:=h.ht.hd.lt;have hdw:w.drew.heap.size=w.heap.size:=rfl;refine iC h8.ht.hd rfl (by simp) λw10 ag f10 z10=> ?_;simp only[af5] at ag;have hb10:=((ig.drew w _).trans (f8 (·=b)) λ_ _ e=>e).trans (f10 (·=b) rfl) λ_ _ e=>e;have nl:∀A:List uS,A.length=m->slA s' A=some ⟨s',0,none⟩:=λA hA=>by
   have:A≠[]:=by grind
   simp[slA,this]
  have old:L≠[]->s≠b/\s<w.heap.size:=λhn=>⟨λe=>h.ht.ne hn e.symm,(h.ht.row hn).lt⟩;refine g_ (λst W=>(∃i:Nat,i<=L.length/\st.1=i/\∃L2:List uS,L2.length=m/\HT W b s' L2 (cnt L:Int) most/\T (λk=>wL k m) L2 (λ_ _=>False)/\cnt L2=cnt (L.take i)/\∀k n,Has L2 k n↔Has (L.take i) k n)/\ig w W (·=b)) (λst _=>L.length - st.1.toNat)
   ⟨⟨0,by omega,rfl,List.replicate m none,by simp,⟨?_,λ_=>r8.fr (f10 (·=b) rfl) (by omega),λ_=>by omega,by simp;omega⟩,⟨λi j k n n' hi=> ?_,λi k n hi=> ?_⟩,by simp[ahD,cnt],λk n=>⟨λ⟨i,hi⟩=> ?_,λ⟨i,hi⟩=>by simp at hi⟩⟩,hb10⟩ ?_
  ·rw[nl _ (by simp)];simpa using ag
  ·grind
  ·grind
  ·rw[amA] at hi;split at hi<;>cases hi
  rintro⟨x,⟨⟩⟩ W ⟨⟨i,hi,rfl,L2,hl2,hT,tt,I,u⟩,hF⟩ next J
  have hFz:=hF.size;by_cases ah:i<L.length
  ·have O:((i:Int)<(L.length:Int)):=by omega
   simp only[O,acI,abt];have hn:L≠[]:=by grind
   obtain⟨am,hsl⟩:=old hn;have U:=adP ah;generalize hE:L[i]=e at U;have Z:=(h.ht.row hn).fr hF am;have cell:∀j,j<3->W.cell? ⟨s,i * 3+j,none⟩=(Ry e)[j]? :=λj hj=>by rw[Z.cell,flat_get _ 3 IX _ _ j hj,U];rfl
   refine tq (b:=s) (o:=0) (by simp[slA,hn]) (by omega) (by trivial) ?_;have c0:=cell 0 (by omega);rw[akC] at c0;simp only[sx,abu,c0,cell 1 (by omega),cell 2 (by omega),Ry];refine Tq rfl rfl rfl λa21 w24 ai l24 f24=> ?_;have e4:ο.wrap ((i:Int)+1)=((i+1:Nat):Int):=by rw[Α];omega
   have Y:L.take (i+1)=L.take i++[e]:=by rw[akx ah,hE]
   have hF24:=hF.trans (f24 _) λ_ _ e=>e;have hT24:=hT.Md f24;simp only[sx,ai.cell,e4]
   cases e with
   |none=>
    simp only[eU,aaf];refine J _ _ ⟨⟨i+1,by omega,rfl,L2,hl2,hT24,tt,?_,λk n=> ?_⟩,hF24⟩ (by omega)
    ·rw[Y,Ub,I];simp[cnt]
    ·rw[u,Y,Uy];simp
   |some x=>
    obtain⟨k,n⟩:=x;simp only[eU,Oy,abt,abt];have aa:Has L k n:=⟨i,U⟩;have ab:∀n,¬Has L2 k n:=λn' hx=>by
     obtain⟨j,hj,an⟩:=agm ((u k n').1 hx);have:=h.t.dist _ _ _ _ _ an U;omega
    have ac:0<L2.length:=by omega
    have hh:=ET k ac;have ae:cnt L2<L2.length:=by
     have h1:=cnt_le (L.take i)
     grind
    obtain⟨j0,hj0⟩:=SI ae;have af:L2≠[]:=by grind
    refine cmS3 (UA hT24 af (h.keys k n aa) (G8 hh hj0)) ?_;rintro at_ t w29 ⟨⟨d,hd,rfl,⟨rfl,n',hn'⟩|⟨rfl,hn'⟩⟩,f29⟩
    ·exact absurd ⟨_,hn'⟩ (ab n')
    ·have hT29:=(hT24.Md f29).Md λS=>ig.drew _ S;have ao:=(ai.fr (f29 λ_=>False) (by simp)).drew;simp only[d_,gJ,h_,gK,jr,SG,hT29.hd.cell,ao.cell];have hq:=(afg.1 hn').1;refine tq (nl L2 hl2) (by omega) (by simp_all) ?_;simp only[abu,ahn];refine TL hT29 hq (some (k,n)) λw38 aq f38=> ?_;have R:=insert (n:=n) tt ab (by simp_all) (by rw[<- hl2];exact hd);rw[hl2] at R;refine J _ _ ⟨⟨i+1,by omega,rfl,_,by simp[hl2],aq,by rw[hl2];exact R,?_,λk' n''=> ?_⟩,?_⟩ (by omega)
     ·rw[Kq hn',Y,Ub,I];simp[cnt]
     ·rw[Gx hn' ab,Y,Uy,u]
      grind
     ·exact((hF24.trans (f29 _) λ_ _ e=>e).trans (ig.drew _ _) λ_ _ e=>e).trans f38 λx hx e=>by
       omega
  ·have O:¬((i:Int)<(L.length:Int)):=by omega
   simp only[O,acR,aaf];have:i=L.length:=by omega
   subst this;rw[alo] at I u;refine⟨s',L2,⟨by rw[I];exact hT,by rw[hl2];exact tt,by have:=h.free;omega,λk n=>by rw[u];exact h.m k n,h.most0,h.most1,by omega,λhx=> ?_,λk n hx=>h.keys k n ((u k n).1 hx)⟩,I,by have:=h.free;omega,hF,.inr (by omega)⟩
   grind
def upd (M:ByteArray->Option Int) (k:ByteArray) (v:Option Int):ByteArray->Option Int:=λx=>if x=k then v else M x
theorem Zd {w:θ} {b s:Nat} {L:List uS} {most:Int} {M:ByteArray->Option Int} (h:TB w b s L most M) (k:ByteArray) (n:Int) (hk:k.size<=2^63 - 1):
  pX (some ⟨b,0,none⟩) k n w λe w'=>
   (e=0/\(M k=none->(cnt L:Int)<most)/\∃s' L',TB w' b s' L' most (upd M k (some n))/\cnt L'=(if (M k).isSome then cnt L else cnt L+1)/\ig w w' (λx=>x=b\/x=s)/\(s'=s\/w.heap.size<=s'))\/
   (e=7/\M k=none/\most<=(cnt L:Int)/\∀S,ig w w' S):=by
 apply OY;refine cmS0 (Qb h.ht) ?_;rintro r w2 ⟨rfl,rfl⟩;simp only[adt,aaf];refine cmS3 (OD h k hk) ?_;have hsz:=h.ht.sz;rintro at_ t w5 ⟨hf,⟨rfl,i,n0,rfl,hi,hM⟩|⟨rfl,hM,_⟩⟩
 ·have h':=h.Md hf;have N:L≠[]:=by grind
  have hlt:=(afg.1 hi).1;simp only[sx,h'.ht.hd.cell];refine tq (b:=s) (o:=0) (by simp[slA,N]) (by omega) (by simp_all) ?_;simp only[sx,abu];refine aju h'.ht hi λw9 h9 f9=> .inl ⟨by trivial,λhx=>(by simp_all),s,_,⟨by rw[Oo hi];exact h9,by simp only[alP];exact update h.t hi,by rw[Oo hi,alP];exact h.free,λk' n'=> ?_,h.most0,h.most1,by simpa using h.sz,λhx=> ?_,λk' n' hx=>by
   rcases(Uz h.t hi k' n').1 hx with ⟨rfl,_⟩|⟨_,hx⟩
   ·exact hk
   ·exact h.keys _ _ hx⟩,by rw[Oo hi,hM];rfl,?_,.inl rfl⟩
  ·rw[Uz h.t hi,upd];by_cases R:k'=k
   ·grind
   ·simp[R,h.m]
  ·simp_all
  ·exact(hf _).trans f9 λx hx e=> .inr e
 ·have h':=h.Md hf;have hd:=h'.Md λS=>ig.drew _ S;simp only[sx,hd.ht.hd.cell];by_cases I:(cnt L:Int)>=most
  ·simp only[I,acI,abt];exact .inr ⟨by trivial,hM,by trivial,λS=>(hf S).trans (ig.drew _ S) λ_ _ e=>e⟩
  ·simp only[I,acR,aaf];refine cmS7 (agn hd (by omega)) ?_;rintro w14 ⟨s',L',J,hc14,hroom,f14,hs'⟩;refine cmS3 (OD J k hk) ?_;have N:L'≠[]:=by grind
   have U:=J.pos N;rintro at_ t w17 ⟨f17,⟨_,i,n0,_,_,hM'⟩|⟨_,_,W⟩⟩
   ·rw[hM] at hM';cases hM'
   ·obtain⟨d,Y,rfl⟩:=W N;have Z:=J.Md f17;have O:=(J.UM k).1 hM;have hh:=ET k U;obtain⟨u,_⟩:=Nb O hh Y;have hq:=(afg.1 u).1;simp only[afe,gJ,h_,Z.ht.hd.cell];refine tq (b:=s') (o:=0) (by simp[slA,N]) (by omega) (by simp_all) ?_;simp only[abu,ahn];refine TL Z.ht hq (some (k,n)) λw23 aa f23=> ?_;simp only[aa.hd.cell,YI,d_,gJ,gK,ahn];have hm1:=h.most1;have e1:ο.wrap ((cnt L':Int)+1)=((cnt L'+1:Nat):Int):=by rw[Α];omega
    rw[e1];refine ac1 aa λw27 ab f27=> ?_;refine .inl ⟨by trivial,λ_=>by omega,s',_,⟨by rw[Kq u];exact ab,by simp only[alP];exact insert J.t O hh Y,by rw[Kq u,alP];omega,λk' n'=> ?_,h.most0,h.most1,by simpa using J.sz,λhx=> ?_,λk' n' hx=>by
     rcases(Gx u O k' n').1 hx with ⟨rfl,_⟩|⟨_,hx⟩
     ·exact hk
     ·exact J.keys _ _ hx⟩,by rw[Kq u,hM,hc14];rfl,?_,?_⟩
    ·rw[Gx u O,upd];by_cases R:k'=k
     ·grind
     ·simp[R,J.m]
    ·simp_all
    ·have hz:=(hf λ_=>False).size;have hdz:w5.drew.heap.size=w5.heap.size:=rfl;refine(((((hf _).trans (ig.drew _ _) λ_ _ e=>e).trans f14 λx hx e=> .inl e).trans (f17 _) λ_ _ e=>e).trans f23 λx hx e=> ?_).trans f27 λx hx e=> .inl e;omega
    ·have hz:=(hf λ_=>False).size
     simp_all;omega
theorem akM {m a i:Nat} (ha:a<m) (hi:i<m):cy m (cy m (a+1)+i)=cy m (a+(i+1)):=by
 have c1:=cyc m (a+1);have c2:=cyc m (cy m (a+1)+i);have c3:=cyc m (a+(i+1));omega
structure Mid (w:θ) (b s:Nat) (L Lc:List uS) (k:ByteArray) (most:Int) (X:Nat->Nat->Prop):Prop where
 ht:HT w b s Lc ((cnt L - 1:Nat):Int) most
 len:Lc.length=L.length
 t:T (λk=>wL k L.length) Lc X
 has:∀k' n',Has Lc k' n'↔k'≠k/\Has L k' n'
 cnt:cnt Lc=Hash.cnt L - 1
theorem Mid.fr {w w':θ} {b s:Nat} {L Lc:List uS} {k:ByteArray} {most:Int} {X:Nat->Nat->Prop} {S:Nat->Prop} (h:Mid w b s L Lc k most X) (hf:ig w w' S) (h1:¬S b) (h2:¬S s):Mid w' b s L Lc k most X:=
 ⟨h.ht.fr hf h1 λ_=>h2,h.len,h.t,h.has,h.cnt⟩
theorem ai9 {H:ByteArray->Nat} {L:List uS} {X Y:Nat->Nat->Prop} (t:T H L X) (h:∀i p,X i p->Y i p):T H L Y:=
 ⟨t.dist,λi k n hi=>by obtain⟨D,h1,h2,h3⟩:=t.reach i k n hi;grind⟩
theorem Nj {w:θ} {b s:Nat} {L:List uS} {most:Int} {M:ByteArray->Option Int} (h:TB w b s L most M) (k:ByteArray) (hk:k.size<=2^63 - 1):
  nI (some ⟨b,0,none⟩) k w λr w'=>r=(M k).isSome/\(∃L',TB w' b s L' most (upd M k none)/\cnt L'+(if (M k).isSome then 1 else 0)=cnt L)/\ig w w' (λx=>x=b\/x=s):=by
 apply Jj;have hsz:=h.ht.sz;refine⟨rfl,uQ λa2 w1 q2 e2 z2 f1=> ?_⟩;have h1:=h.Md f1;simp only[sx,q2.cell];refine cmS0 (Qb h1.ht) ?_;rintro r w5 ⟨rfl,rfl⟩;simp only[adt,aaf,afe,gJ,pR,q2.cell];refine cmS3 (OD h1 k hk) ?_;rintro at_ t w9 ⟨f9,⟨rfl,i0,n0,rfl,hi0,hM⟩|⟨rfl,hM,_⟩⟩
 case inr=>
  simp only[afk,abt];refine⟨by simp[hM],⟨L,?_,by simp[hM]⟩,(f1 _).trans (f9 _) λ_ _ e=>e⟩;have h9:=h1.Md f9;have:upd M k none=M:=by
   funext x;unfold upd
   simp_all
  rw[this];exact h9
 have h9:=h1.Md f9;have ae:L≠[]:=by grind
 have U:=(afg.1 hi0).1;have q2:=q2.fr (f9 λ_=>False) (by simp);simp only[adt,aaf,xA,afe,gJ,h_,pR,q2.cell,h9.ht.hd.cell];refine tq (b:=s) (o:=0) (by simp[slA,ae]) (by omega) (by simp_all) ?_;simp only[abu,ahn];have hbl:=h.ht.hd.lt;have hsl:=(h.ht.row ae).lt;refine TL h9.ht U none λw16 af f16=> ?_;have q2:=q2.fr f16 (by omega);have hcp:0<cnt L:=by have:=Oq hi0;omega
 have hfree:=h.free;have e1:ο.wrap ((cnt L:Int) - 1)=((cnt L - 1:Nat):Int):=by rw[Α];omega
 simp only[sx,q2.cell,af.hd.cell,e1];refine ac1 af λao Y f21=> ?_;have q2:=q2.fr f21 (by omega);have Y:=Y.Md λS=>ig.drew _ S;have q2:=q2.drew;have hb21:ig w ao.drew λx=>x=b\/x=s:=((((f1 _).trans (f9 _) λ_ _ e=>e).trans f16 λx hx e=> .inr e).trans f21 λx hx e=> .inl e).trans (ig.drew _ _) λ_ _ e=>e;have Z:0<L.length:=by omega
 have aq:(L.set i0 none).length=L.length:=alP;have e3:Int.tmod (ο.wrap ((i0:Int)+1)) ((L.set i0 none).length:Int)=((cy L.length (i0+1):Nat):Int):=by
  have:=adG (i:=1) (by omega) U (by omega)
  simp_all
 simp only[xA,afe,gJ,h_,pR,q2.cell,Y.hd.cell];refine⟨by omega,?_⟩;rw[e3];refine cmS4 (adM b _ _) ?_;rintro r u ⟨g0,g1,rfl,p0,p1,lg0,lg1,f31⟩;have ar:=Y.Md f31;have q2:=q2.fr (f31 λ_=>False) (by simp);have hb31:=hb21.trans (f31 _) λ_ _ e=>e;have hz31:=q2.lt;have lp0:=p1.lt;have hz21:=hb21.size;obtain⟨e,he0,z0⟩:=ai5 ⟨_,hi0⟩ (by omega);have hc0:cy L.length (i0+0)=i0:=by unfold cy;simp[U]
 have hH:=λk=>ET k Z;have t0:T (λk=>wL k L.length) L (Xj L.length i0 e 0):=ai9 h.t λi p hx=>hx.elim;have t1:=clear z0 he0 hH t0;have z1:=Wx z0 he0;rw[hc0] at t1 z1;have he:=z0.e1;have mid0:Mid u b s L (L.set i0 none) k most (Xj L.length i0 e (0+1)):=⟨ar,aq,t1,Qa h.t hi0,by have:=Oq hi0;omega⟩;refine abl (b:=b) (from_:=cy L.length (i0+1))
  (λi W=>i+1<=e/\FI u W (·=s)/\∃Lc,Mid W b s L Lc k most (Xj L.length i0 e (i+1))/\Zone Lc i0 e (i+1))
  (λx W=>x= .exit 0/\FI u W (·=s)/\∃Lc,Mid W b s L Lc k most λ_ _=>False)
  (by omega) (Ot (by omega)) ?_ ?_ ?_ ?_ ?_ ?_ ?_ ?_ ?_
 ·exact λw1' hf hm hz=>⟨by omega,⟨hf _,hm,by omega⟩,_,mid0.fr (hf λ_=>False) (by simp) (by simp),z1⟩
 ·rintro i W ⟨_,hF,Lc,hm,_⟩;refine⟨p0.fr hF.fr (by omega),p1.fr hF.fr (by omega),slA s Lc,?_⟩;rw[hm.ht.hd.cell,<- hm.len];rfl
 ·rintro i W W' ⟨hi,hF,Lc,hm,hz⟩ hf;exact⟨hi,hF.st hf,Lc,hm.fr hf (by omega) (by omega),hz⟩
 ·rintro x W W' ⟨rfl,hF,Lc,hm⟩ hf;exact⟨by trivial,hF.st hf,Lc,hm.fr hf (by omega) (by omega)⟩
 ·simp_all
 ·rintro i W Kb hi ⟨hie,hF,Lc,hm,hz⟩ hn hj;have hFz:=hF.size;have zb:=(ig.gQ W (u.heap.size+1)).size;have fb:ig u (gQ W (u.heap.size+1)) (·=s):=hF.fr.trans (ig.gQ W _) λx hx e=>by
   omega
  have hm:Mid (gQ W (u.heap.size+1)) b s L Lc k most _:=hm.fr (ig.gQ W _) (by omega) (by omega);have q2:=q2.fr fb (by omega);have O:=hm.len;rw[akM U hi];generalize hp:cy L.length (i0+(i+1))=p;have hpl:p<L.length:=by rw[<- hp];exact Ot (by omega)
  have ag:Lc≠[]:=by grind
  refine⟨by trivial,?_⟩;simp only[xA,afe,gJ,h_,pR,q2.cell,hm.ht.hd.cell];obtain⟨x,hx⟩:∃x,Lc[p]? =some x:=⟨_,adP (by omega)⟩;have c0:=hm.ht.ent hx 0 (by omega);simp only[akC] at c0;refine tq (b:=s) (o:=0) (by simp[slA,ag]) (by omega) (by simp_all) ?_;simp only[sx,abu,c0,hm.ht.ent hx 1 (by omega),hm.ht.ent hx 2 (by omega),Ry];refine Tq rfl rfl rfl λa44 ah aa l47 f47=> ?_;have fb47:=fb.trans (f47 _) λ_ _ e=>e;have z47:=(f47 λ_=>False).size;have hm47:=hm.fr (f47 λ_=>False) (by simp) (by simp);have q2:=q2.fr (f47 λ_=>False) (by simp);have hk47:ah.heap[u.heap.size+1]? =(gQ W (u.heap.size+1)).heap[u.heap.size+1]? :=(f47 λ_=>False).same _ (by omega) (by simp);have hmk47:ah.heap[u.heap.size]? =some (.deferred (some [])):=by rw[(f47 λ_=>False).same _ (by omega) (by simp),(ig.gQ W _).same _ (by omega) (by omega)];exact hF.mark
  simp only[sx,aa.cell]
  cases x with
  |none=>
   simp only[eU,afk,abt];have hj1:¬i+1<e:=λab=>by
    obtain⟨y,hy⟩:=hz.full (i+1) (ajq _) ab
    simp_all
   have:i+1=e:=by omega
   subst this;exact hj _ _ hk47 ⟨rfl,⟨fb47,hmk47,by omega⟩,Lc,hm47.ht,hm47.len,ai9 hm47.t λi' p' hX=>ak5 _ _ _ _ _ hX,hm47.has,hm47.cnt⟩
  |some y=>
   obtain⟨k0,n0⟩:=y;have hj1:i+1<e:=by
    rcases Nat.lt_or_ge (i+1) e with h|h
    ·exact h
    ·have:i+1=e:=by omega
     have hf:=hz.free
     simp_all
   simp only[eU,adt,Oy,eN,aaf,xA,afe,gJ,h_,pR,q2.cell,hm47.ht.hd.cell] at aa ⊢;refine tq (b:=s) (o:=0) (by simp[slA,ag]) (by omega) (by simp_all) ?_;simp only[abu,ahn];refine TL hm47.ht (by omega) none λw55 ai f55=> ?_;have q2:=q2.fr f55 (by omega);have aj:=aa.fr f55 (by omega);simp only[YI,afe,gJ,pR,SG,ahn,q2.cell,aj.cell];have hx':Lc[cy Lc.length (i0+(i+1))]? =some (some (k0,n0)):=by simp_all
   have ak:=hm.t;rw[<- O] at ak;obtain⟨hex,R⟩:=afd hz hj1 (by simp_all) ak hx';rw[O,hp] at hex;have N:(Lc.set p none).length=L.length:=by simp_all
   have hn1:Lc.set p none≠[]:=by simp_all
   obtain⟨d0,hd0⟩:=hex;have ac:=h.keys k0 n0 ((hm.has k0 n0).1 ⟨p,hx⟩).2;refine cmS3 (UA ai hn1 ac ⟨d0,hd0.lt,by rw[N];exact hd0.stop⟩) ?_;rintro at1 t1 w60 ⟨⟨d,hd,rfl,_⟩,f60⟩;rw[N] at hd;have am:=(ai.Md f60).Md λS=>ig.drew _ S;have au:=(aj.fr (f60 λ_=>False) (by simp)).drew;have q2:=(q2.fr (f60 λ_=>False) (by simp)).drew;obtain⟨hz2,ht2,I,J⟩:=R d (by rw[O,hp];exact hd);rw[O,hp] at hz2 ht2 I J;have hqlt:cy L.length (wL k0 L.length+d)<L.length:=Ot (by have:=hd.lt;grind);simp only[xA,d_,gJ,h_,gK,jr,pR,SG,q2.cell,au.cell,am.hd.cell];refine tq (b:=s) (o:=0) (by simp[slA,hn1]) (by omega) (by simp_all) ?_;simp only[abu,ahn];rw[N];refine TL am (by omega) (some (k0,n0)) λw70 av f70=> ?_;have f4770:=((f55.trans (f60 _) λ_ _ e=>e).trans (ig.drew _ _) λ_ _ e=>e).trans f70 λ_ _ e=>e;refine hn _ ?_ ⟨by omega,⟨fb47.trans f4770 λ_ _ e=>e,?_,by have:=f4770.size;omega⟩,_,⟨av,?_,ht2,λk' n'=> ?_,?_⟩,hz2⟩
   ·rw[f4770.same _ (by omega) (by omega)];exact hk47
   ·rw[f4770.same _ (by omega) (by omega)];exact hmk47
   ·simp[O]
   ·rw[I];exact hm.has k' n'
   ·rw[J];exact hm.cnt
 ·rintro W ⟨hi,_⟩;omega
 ·simp
 ·rintro id W ⟨hx,hF,Lc,hm⟩
  cases hx
  show wR _ _ _;refine⟨hF.mark,?_⟩;have pf:=ig.putObj W u.heap.size (.deferred none);have hm:=hm.fr pf (by omega) (by omega);refine⟨by simp[hM],⟨Lc,⟨?_,?_,?_,?_,h.most0,h.most1,?_,?_,?_⟩,?_⟩,?_⟩
  ·rw[hm.cnt];exact hm.ht
  ·have:=hm.t;rw[<- hm.len] at this;exact this
  ·have:=hm.cnt;have:=hm.len;omega
  ·intro k' n';rw[hm.has,upd];by_cases an:k'=k
   ·simp[an]
   ·simp[an,h.m]
  ·rw[hm.len];exact h.sz
  ·intro hx;have:=hm.len
   simp_all
  ·exact λk' n' hx=>h.keys k' n' ((hm.has k' n').1 hx).2
  ·have:=hm.cnt;grind
  ·exact(hb31.trans hF.fr λx hx e=> .inr e).trans pf λx hx e=>by
    omega
end Go.Proofs
end
section
namespace Gp.V4
def kC:Nat->Nat->List UInt8
 |0,_=>[]
 |k+1,n=>UInt8.ofNat (n / 256^k)::kC k n
def oK (l:List UInt8):Nat:=l.foldl (λn b=>n * 256+b.toNat) 0
theorem jf (k n:Nat):(kC k n).length=k:=by
 induction k with
 |zero=>rfl
 |succ k ih=>simp[kC,ih]
theorem ajL (l:List UInt8):∀n:Nat,l.foldl (λn b=>n * 256+b.toNat) n=n * 256^l.length+oK l:=by
 induction l with
 |nil=>intro n;simp[oK]
 |cons b l ih=>
  intro n;simp only[amO,oK,ajg]
  grind
theorem UO (b:UInt8) (l:List UInt8):oK (b::l)=b.toNat * 256^l.length+oK l:=by
 show (b::l).foldl _ 0=_;rw[amO,ajL];simp
theorem Yo (k n:Nat):oK (kC k n)=n % 256^k:=by
 induction k with
 |zero=>simp[kC,oK,Nat.mod_one]
 |succ k ih=>
  rw[kC,UO,jf,ih];have e:(UInt8.ofNat (n / 256^k)).toNat=n / 256^k % 256:=by simp
  rw[e,Nat.pow_succ,Nat.mod_mul,Nat.mul_comm (256^k),Nat.add_comm]
def tot:List UInt8->Nat
 |[]=>0
 |[a]=>a.toNat * 256
 |a::b::r=>a.toNat * 256+b.toNat+tot r
def fold (n:Nat):Nat:=if n=0 then 0 else (n - 1) % 65535+1
structure kZ where
 tos:Int
 id:Int
 off:Int
 ttl:Int
 proto:Int
 src:Int
 dst:Int
 df:Bool
 mf:Bool
 opts:List UInt8
 data:List UInt8
deriving DecidableEq
def kZ.zero:kZ:=⟨0,0,0,0,0,0,0,false,false,[],[]⟩
def lN (k:Int):Prop:=1<=k/\k<=4
instance (k:Int):Decidable (lN k):=inferInstanceAs (Decidable (_/\_))
def jm (n k:Int):Prop:=lN k/\0<=n/\n<256^k.toNat
instance (n k:Int):Decidable (jm n k):=inferInstanceAs (Decidable (_/\_))
def kL (n:Int):Prop:=0<=n/\n<4294967296
instance (n:Int):Decidable (kL n):=inferInstanceAs (Decidable (_/\_))
def kZ.fine (p:kZ):Prop:=(jm p.tos 1/\jm p.ttl 1/\jm p.proto 1/\jm p.id 2)/\(kL p.src/\kL p.dst)/\
 (0<=p.off/\p.off<=65528/\Int.tmod p.off 8=0/\(p.mf=true->p.data.length % 8=0))/\p.opts.length<=40/\p.opts.length % 4=0
instance (p:kZ):Decidable p.fine:=inferInstanceAs (Decidable (_/\_))
def kZ.short (p:kZ):Prop:=20+p.opts.length+p.data.length<=65535/\p.off<=65535 - (p.data.length:Int)
instance (p:kZ):Decidable p.short:=inferInstanceAs (Decidable (_/\_))
def kZ.bits (p:kZ):Nat:=p.off.toNat / 8+(if p.df then 16384 else 0)+(if p.mf then 8192 else 0)
def kZ.head (p:kZ) (s:Nat):List UInt8:=
 kC 1 (64+(20+p.opts.length) / 4)++kC 1 p.tos.toNat++kC 2 (20+p.opts.length+p.data.length)++kC 2 p.id.toNat++kC 2 p.bits++kC 1 p.ttl.toNat++kC 1 p.proto.toNat++kC 2 s++kC 4 p.src.toNat++kC 4 p.dst.toNat++p.opts
def kZ.sum (p:kZ):Nat:=65535 - fold (tot (p.head 0))
def kZ.bytes (p:kZ):List UInt8:=p.head p.sum++p.data
def num (b:List UInt8) (at_ k:Nat):Nat:=oK ((b.drop at_).take k)
def hlen (b:List UInt8):Nat:=((b[0]?).getD 0).toNat % 16 * 4
def field (b:List UInt8):kZ:=
 let f:=num b 6 2
 ⟨num b 1 1,num b 4 2,(f % 8192 * 8:Nat),num b 8 1,num b 9 1,num b 12 4,num b 16 4,f / 16384 % 2==1,f / 8192 % 2==1,(b.take (hlen b)).drop 20,(b.take (num b 2 2)).drop (hlen b)⟩
end Gp.V4
end
section
namespace Go.Proofs
open Gp Gp.V4
theorem ad_ {e:TypeId} {w:θ} {x:gG} {m:List UInt8} (hx:iH w x m) (hl:m.length<=2^46) {K:gG->b_}
  (hK:∀r w',Buf w' r (bytesV m)->(r.a=none↔x.a=none)->Ext w w'->(∀b,gG.at r b->w.heap.size<=b)->K r w'):
  (bif (Option.isNone x.a) then K ⟨none,0,0⟩ w else Al w (.cells ⟨[]⟩ e) λa3 w2=>nH e 1 1 [(Value.int .u8 0)] ⟨(some a3),0,0⟩ x w2 K):=by
 cases u:x.a with
 |none=>
  simp only[ana,abt];have:=hx.empty u;subst this;exact hK _ _ Buf.nil (by simp[u]) (Ext.refl _) λb ⟨o,h⟩=>by cases h
 |some a=>
  simp only[amG,aaf];refine gU λb w2 r2 e2 _ f2=> ?_;have hx2:=hx.ext f2;refine jK (l:=[]) ⟨rfl,.inr ⟨b,[],rfl,rfl,by simpa [bytesV] using r2⟩⟩ hx2 (by simpa using hl) λs' w' h1 h2 h3 h4=> ?_;refine hK _ _ (by simpa using h1) (by rw[u];exact⟨λh=>by have:=(h4 h).2;simp at this,λh=>by simp at h⟩) (ig.new (Ext.fr f2 h2) ?_) (λc hc=> ?_)
  ·rintro y hy ⟨o,e⟩
   cases e;omega
  ·rcases h3 c hc with ⟨o,e⟩|h
   ·cases e;omega
   ·have:=(f2 λ_=>False).size;omega
theorem oG {w:θ} {x:gG} {m:List UInt8} (hx:iH w x m) (hl:m.length<=2^46):
  iD x w λr w'=>Buf w' r (bytesV m)/\(r.a=none↔x.a=none)/\Ext w w'/\∀b,gG.at r b->w.heap.size<=b:=by
 apply C_;exact ad_ (K:=λr w'=>Buf w' r (bytesV m)/\(r.a=none↔x.a=none)/\Ext w w'/\∀b,gG.at r b->w.heap.size<=b) hx hl λr w' h1 h2 h3 h4=>⟨h1,h2,h3,h4⟩
theorem zY (k:Int) (w:θ):FN k w λr w'=>r=decide (lN k)/\w'=w:=by
 apply aau;by_cases h1:k>=1
 ·by_cases h2:k<=4
  ·have:lN k:=⟨h1,h2⟩;simp[h1,h2,this]
  ·have:¬lN k:=λh=>h2 h.2;simp[h1,h2,this]
 ·have:¬lN k:=λh=>h1 h.1;simp[h1,this]
theorem ala {n:Int} {i:Nat} (hi:i<=7) (hn:0<=n):jR .i64 n (ο.wrap (8 * (i:Int)))=((n.toNat / 256^i:Nat):Int):=by
 rw[Α];unfold jR;have e:(2:Int)^(min ((8:Int) * (i:Int)).toNat (IntKind.bits .i64))=((256^i:Nat):Int):=by
  have:i=0\/i=1\/i=2\/i=3\/i=4\/i=5\/i=6\/i=7:=by omega
  rcases this with rfl|rfl|rfl|rfl|rfl|rfl|rfl|rfl<;>decide
 rw[e,amX _ (Int.natCast_nonneg _),amY,Int.toNat_of_nonneg hn]
theorem ag_ {n k:Int} (hk:lN k) (hn:0<=n):(jR .i64 n (ο.wrap (8 * k))==0)=decide (n<256^k.toNat):=by
 obtain⟨h1,h2⟩:=hk;obtain⟨m,rfl⟩:∃m:Nat,k=(m:Int):=⟨k.toNat,by omega⟩;rw[ala (by omega) hn];have hp:0<256^m:=Nat.pow_pos (by omega);obtain⟨x,rfl⟩:∃x:Nat,n=(x:Int):=⟨n.toNat,by omega⟩;have e:((256:Int)^(m:Int).toNat)=((256^m:Nat):Int):=by simp
 rw[e];simp only[abu];by_cases h:x<256^m
 ·have:x / 256^m=0:=Nat.div_eq_of_lt h;have h':((x:Int)<((256^m:Nat):Int)):=by omega
  rw[this];simp only[h',acI];rfl
 ·have:1<=x / 256^m:=(Nat.le_div_iff_mul_le hp).2 (by omega);have h':¬((x:Int)<((256^m:Nat):Int)):=by omega
  simp only[h',acR,amH,ne_eq];omega
theorem sQ (n k:Int) (w:θ):lU n k w λr w'=>r=decide (jm n k)/\w'=w:=by
 apply acy;refine cmS0 (zY k w) ?_;rintro r w1 ⟨rfl,rfl⟩;by_cases hk:lN k
 ·by_cases hn:n>=0
  ·simp only[hk,hn,acI,abt];refine⟨by have:=hk.1;have:=hk.2;rw[Α];omega,?_,by trivial⟩;rw[ag_ hk hn];simp[jm,hk,hn]
  ·simp only[hk,hn,acI,acR,abt,aaf];have:¬jm n k:=λh=>hn h.2.1;exact⟨by simp[this],by trivial⟩
 ·simp only[hk,acR,aaf];exact⟨by simp[jm,hk],by trivial⟩
def yB (l:List UInt8):List (zZ [.one (.int .u8)]):=l.map λb=>((b.toNat:Int),())
theorem acY (l:List UInt8) (i:Nat):(yB l)[i]? =(l[i]?).map λb=>((b.toNat:Int),()):=by simp[yB]
theorem YP:∀(k n i:Nat),i<k->(kC k n)[i]? =some (UInt8.ofNat (n / 256^(k - 1 - i)))
 |0,_,_,h=>by omega
 |k+1,n,0,_=>by simp[kC]
 |k+1,n,i+1,h=>by
  simp only[kC,afh];rw[YP k n i (by omega),show k+1 - 1 - (i+1)=k - 1 - i by omega]
theorem Ϭ {n:Int} {k f0 f1:Nat} (hk:k<=4) (hn:0<=n):
  qE υ [.one (.int .u8)] (Value.func (.func WX) #[] #[(Value.pointer (some ⟨f0,0,none⟩)),(Value.pointer (some ⟨f1,0,none⟩))])
   (λW=>Row W f0 [Β (k:Int)]/\Row W f1 [Β n]) (yB (kC k n.toNat)):=by
 refine⟨by kernel_rfl,λl Q D hC hQ hD hy w h0=> ?_⟩;refine Calls.mono (UY (a0:= .func (.yield l) #[] #[]) (f0:=⟨f0,0,none⟩) (f1:=⟨f1,0,none⟩) (K:=λw'=>Q (yB (kC k n.toNat)).length w'\/D w') ?_) (λe w' h=>h);have hlen:(yB (kC k n.toNat)).length=k:=by simp[yB,jf]
 obtain⟨r0,_⟩:=hC _ _ h0;simp only[sx,r0.cell];rw[hlen];refine g_ (λst W=>∃i:Nat,i<=k/\st.1=(k:Int) - 1 - i/\Q i W) (λst _=>(st.1+1).toNat) ⟨0,by omega,by rw[Α];simp,h0⟩ ?_;rintro⟨x,⟨⟩⟩ W ⟨i,hi,hx,hq⟩ next u
 simp only at hx;by_cases I:i<k
 ·have hx0:x>=0:=by omega
  obtain⟨_,r1⟩:=hC _ _ hq;simp only[sx,hx0,acI,r1.cell];refine⟨by rw[Α];omega,?_⟩;obtain⟨j,rfl⟩:∃j:Nat,x=(j:Int):=⟨x.toNat,by omega⟩;rw[ala (by omega) hn];have hj:j=k - 1 - i:=by omega
  have e:IntKind.u8.wrap ((n.toNat / 256^j:Nat):Int)=(((UInt8.ofNat (n.toNat / 256^j)).toNat:Nat):Int):=by
   rw[IntKind.wrap_u8];simp
  rw[e];refine kP (hy i ((((UInt8.ofNat (n.toNat / 256^j)).toNat:Nat):Int),()) W _ ?_ hq ?_ ?_)
  ·rw[acY,YP _ _ _ I,<- hj];rfl
  ·intro W' hq';refine⟨true,rfl,?_⟩;simp only[adt,aaf];rw[Α];exact u _ _ ⟨i+1,by omega,by simp only;omega,hq'⟩ (by simp only;omega)
  ·intro W' hd;refine⟨false,rfl,?_⟩;simp only[afk,abt];exact .inr hd
 ·have hx0:¬x>=0:=by omega
  simp only[hx0,acR,aaf];have:i=k:=by omega
  subst this;exact .inl hq
def SA (w0 w:θ) (v:Value) (l:List UInt8):Prop:=
 ∃C,qE υ [.one (.int .u8)] v C (yB l)/\∀W S,ig w W S->(∀b,w0.heap.size<=b->b<w.heap.size->¬S b)->C W
theorem X5 {n k:Int} (hk:lN k) (hn:0<=n) (w:θ):Di n k w λv w'=>Ext w w'/\SA w w' v (kC k.toNat n.toNat):=by
 apply ZA;refine⟨rfl,gU λa w1 r1 e1 z1 f1=>⟨rfl,gU λb w2 r2 e2 z2 f2=> ?_⟩⟩;have r1':=r1.ext f2;obtain⟨m,rfl⟩:∃m:Nat,k=(m:Int):=⟨k.toNat,by have:=hk.1;omega⟩;refine⟨f1.trans f2,_,Ϭ (by have:=hk.2;omega) hn,λW S hf hs=>⟨r2.fr hf (hs _ ?_ ?_),r1'.fr hf (hs _ ?_ ?_)⟩⟩<;>omega
theorem FK {w0 w:θ} {s:gG} {v:Value} {l m:List UInt8} (hs:Buf w s (bytesV l)) (hv:SA w0 w v m) (hd:∀b,gG.at s b->¬(w0.heap.size<=b/\b<w.heap.size)) (hl:l.length+m.length<=2^46):
  jP s v w λr w'=>Buf w' r (bytesV (l++m))/\ig w w' (gG.at s)/\(∀b,gG.at r b->gG.at s b\/w.heap.size<=b)/\(r.a=none->l++m=[]/\s.a=none):=by
 obtain⟨C,hi,hC⟩:=hv;apply qC;refine⟨rfl,gU λa w1 r1 e1 z1 f1=> ?_⟩;have hlen:(yB m).length=m.length:=by simp[yB]
 have u:∀b,gG.at s b->b<w.heap.size:=λb hb=>hs.lt hb;refine vU hi (λi W=>∃t:gG,Row W a [Δ t]/\Buf W t (bytesV (l++m.take i))/\ig w W (gG.at s)/\(∀b,gG.at t b->gG.at s b\/(w.heap.size<=b/\b≠a/\b≠lM none w1/\b≠w1.heap.size))/\(t.a=none->l++m.take i=[]/\s.a=none)/\lM none w1<W.heap.size)
  (λ_ _=>False) (by simp) ?_ ?_ ?_ (by intro e W W' h;exact h.elim) (by intro e W h;exact h.elim) ?_ ?_ (by intro W h;exact h.elim) (by intro id W h;exact h.elim)
 ·intro w2 f2 z2;refine⟨s,r1.ext f2,by simpa using (hs.ext f1).ext f2,(f1.trans f2) _,λb hb=> .inl hb,?_,by omega⟩;simp only[List.take_zero,List.append_nil];intro ha;obtain⟨_,⟨_,h2,_⟩|⟨c,pad,h2,_⟩⟩:=hs
  ·exact⟨by simpa [bytesV] using h2,ha⟩
  ·rw[ha] at h2;cases h2
 ·rintro i W ⟨t,_,_,hf,_⟩;exact hC W _ hf λb h1 h2 h3=>hd b h3 ⟨h1,h2⟩
 ·rintro i W W' ⟨t,h1,h2,h3,h4,h5,h6⟩ hf;have J:lM none w1=w1.heap.size+1:=rfl;refine⟨t,h1.fr hf (by omega),h2.fr hf λb hb e=> ?_,h3.trans hf (λb hb e=>by omega),h4,h5,by have:=hf.size;omega⟩;rcases h4 b hb with h|h
  ·have:=u b h;omega
  ·omega
 ·intro i x W Kb hx ⟨t,h1,h2,h3,h4,h5,h6⟩ hlt I _;refine⟨rfl,?_⟩;have J:lM none w1=w1.heap.size+1:=rfl;rw[acY] at hx
  cases hb:m[i]? with
  |none=>rw[hb] at hx;simp at hx
  |some y=>
  rw[hb] at hx;simp only[ahF,aho] at hx;subst hx;have fb:=ig.gQ W (lM none w1);have h1':=h1.fr fb (by omega);have h2':Buf (gQ W (lM none w1)) t (bytesV (l++m.take i)):=h2.fr fb λb hb e=>by
   rcases h4 b hb with h|h
   ·have:=u b h;omega
   ·omega
  simp only[sx,h1'.cell];have N:i<m.length:=(afg.1 hb).1;refine gU λc w3 r3 e3 z3 f3=> ?_;have hz3:w3.heap.size=W.heap.size+1:=by rw[z3,e3];simp[gQ]
  have hx3:iH w3 ⟨some ⟨c,0,none⟩,1,1⟩ [y]:= .iM (iH.row (l:=[y]) (by simpa [bytesV] using r3));have h2'':=h2'.ext f3;refine jK h2'' hx3 (by simp;omega) λs' w4 b4 f4 p4 n4=> ?_;have O:¬gG.at t a:=λh=>by
   rcases h4 a h with h|h
   ·have:=u a h;omega
   ·exact h.2.1 rfl
  have h1'':=(h1'.ext f3).fr f4 O;refine iC h1'' rfl (by simp) λw5 r5 f5 z5=> ?_;simp only[af5] at r5;have hbz:(gQ W (lM none w1)).heap.size=W.heap.size:=by simp[gQ]
  have R:∀b,gG.at s' b->b≠a:=λb hb e=>by
   rcases p4 b hb with h|h
   ·exact O (e ▸ h)
   ·have:=h1.lt;omega
  refine I w5 (λb=>gG.at t b\/b=a) ?_ ?_ ⟨s',r5,?_,?_,?_,?_,?_⟩
  ·exact((f3 _).trans (f4.mono λb h=> .inl h) λ_ _ e=>e).trans (f5 (λb=>gG.at t b\/b=a) (.inr rfl)) λ_ _ e=>e
  ·rintro b hb1 hb2 (h|h)
   ·rcases h4 b h with h|h
    ·have:=u b h;omega
    ·rcases Nat.lt_or_ge b (lM none w1) with hx|hx<;>omega
   ·omega
  ·have e:l++m.take (i+1)=l++m.take i++[y]:=by
    rw[akx N];have:m[i]=y:=by rw[adP N] at hb;simpa using hb
    simp[this]
   rw[e];exact b4.fr (f5 (·=a) rfl) λb hb e=>R b hb e
  ·refine((h3.trans fb λb hb e=>by omega).ext f3).trans (S':=λb=>gG.at t b\/b=a) ((f4.mono λb h=> .inl h).trans (f5 (λb=>gG.at t b\/b=a) (.inr rfl)) λ_ _ e=>e) ?_;rintro b hb (h|h)
   ·rcases h4 b h with h|h
    ·exact h
    ·omega
   ·omega
  ·intro b hb;rcases p4 b hb with h|h
   ·exact h4 b h
   ·refine .inr ⟨by have:=h3.size;omega,R b hb,?_,?_⟩<;>omega
  ·intro ha;obtain⟨h1,h2⟩:=n4 ha;simp at h1
  ·have:=f4.size;omega
 ·rintro W ⟨t,h1,h2,h3,h4,h5,h6⟩ hm;have J:lM none w1=w1.heap.size+1:=rfl;simp only[sx,h1.cell];rw[hlen,alo] at h2 h5;refine⟨hm rfl,?_,?_,?_,h5⟩
  ·exact h2.fr (ig.nG _ _ _) λb hb e=>by
    rcases h4 b hb with h|h
    ·have:=u b h;omega
    ·omega
  ·exact h3.trans (ig.nG _ _ _) λb hb e=>by omega
  ·intro b hb;rcases h4 b hb with h|h
   ·exact .inl h
   ·exact .inr h.1
def mP (l:List UInt8) (n k:Int):List UInt8:=if jm n k then l++kC k.toNat n.toNat else l
theorem Ah {w:θ} {s:gG} {l:List UInt8} (hs:iH w s l) (hl:l.length+4<=2^46) (n k:Int):
  oP s n k w λr w'=>Buf w' r (bytesV (mP l n k))/\Ext w w'/\(∀b,gG.at r b->w.heap.size<=b):=by
 apply aeJ;refine cmS2 (oG hs (by omega)) ?_;rintro r w1 ⟨b1,_,f1,n1⟩;refine cmS0 (sQ n k w1) ?_;rintro _ _ ⟨rfl,rfl⟩;by_cases hf:jm n k
 ·simp only[hf,acI,adt,aaf];refine cmS4 (X5 hf.1 hf.2.1 _) ?_;rintro v w2 ⟨f2,hv⟩;have hk:=hf.1;refine cmS2 (FK (b1.ext f2) hv (λb hb h=>by have:=b1.lt hb;omega) (by rw[jf];have:=hk.2;omega)) ?_;rintro r' w3 ⟨b3,f3,n3,_⟩;refine⟨by simpa [mP,hf] using b3,(f1.trans f2).new f3 λb hb h=>by have:=n1 b h;omega,λb hb=> ?_⟩;have:=f1.size;have:=f2.size;rcases n3 b hb with h|h
  ·exact n1 b h
  ·omega
 ·simp only[hf,acR,afk,abt];exact⟨by simpa [mP,hf] using b1,f1,n1⟩
end Go.Proofs
end
