import Derived.Test.YtlpphhjbjjdhfaaGreatDoorG27x
import Derived.Test.YtlpphhjbjjdhfaaGreatDoorW3
import Derived.Test.YtlpphhjbjjdhfaaGreatDoorW2
open List (set_set)
set_option maxRecDepth 100000
set_option maxHeartbeats 4000000
section
namespace Go.Proofs
open Gp
@[reducible] def aj7 (a b c d e f g h i j k l m n o p q r:Int):List Value:= Β a:: Β b:: Β c:: Β d:: Β e:: Β f:: Β g:: Β h:: Β i:: Β j:: Β k:: Β l:: Β m:: Β n:: Β o:: Β p:: Β q:: Β r::[]
def FH (c d:Int) (e:Bool) (b:fU) (f g:Int) (w:θ) (K:fU->Int->b_):=fZ υ 350 [(.agg ⟨[Β c,Β d,.bool e,Δ b]⟩),Β f,Β g] [.one .slice,.one ν] w K
def FK (c d:Int) (e:Bool) (b:fU) (w:θ) (K:Int->Int->Int->b_):=fZ υ 351 [(.agg ⟨[Β c,Β d,.bool e,Δ b]⟩)] [.agg [ν,ν,ν]] w K
def G5 (c d:Int) (e:Bool) (b:fU) (f g:Int) (w:θ) (K:Value->b_):=fZ υ 352 [(.agg ⟨[Β c,Β d,.bool e,Δ b]⟩),Β f,Β g] [.one .any] w K
def Ik (c d e f:Int) (g:Bool) (b:fU) (w:θ) (K:fU->Int->b_):=fZ υ 353 [Β c,Β d,(.agg ⟨[Β e,Β f,.bool g,Δ b]⟩)] [.one .slice,.one ν] w K
def qw (a b:Int) (w:θ) (K:Int->b_):=fZ υ 354 [Β a,Β b] [.one ν] w K
def Il (c d:Int) (e:Bool) (b:fU) (w:θ) (K:Int->b_):=fZ υ 355 [(.agg ⟨[Β c,Β d,.bool e,Δ b]⟩)] [.one ν] w K
def FZ (c d:Int) (b:fU) (w:θ) (K:Int->b_):=fZ υ 356 [Β c,Β d,Δ b] [.one ν] w K
def G6 (a b c d e f g h:Int) (i j:fU) (k l:Int) (w:θ) (K:fU->Int->b_):=fZ υ 357 [.agg ⟨lM a b c d e f g h i j⟩,Β k,Β l] [.one .slice,.one ν] w K
def G7 (a b c d e f g h:Int) (i j:fU) (w:θ) (K:Int->Int->Int->b_):=fZ υ 358 [.agg ⟨lM a b c d e f g h i j⟩] [.agg [ν,ν,ν]] w K
def Ia (a b c d e f g h:Int) (i j:fU) (k l:Int) (w:θ) (K:Value->b_):=fZ υ 359 [.agg ⟨lM a b c d e f g h i j⟩,Β k,Β l] [.one .any] w K
def Ih (a b c d e f g h i j:Int) (k l:fU) (w:θ) (K:fU->Int->b_):=fZ υ 360 [Β a,Β b,.agg ⟨lM c d e f g h i j k l⟩] [.one .slice,.one ν] w K
def Ii (a b c d e f g h:Int) (i j:fU) (w:θ) (K:Int->b_):=fZ υ 361 [.agg ⟨lM a b c d e f g h i j⟩] [.one ν] w K
def Ak (a b c d e f g h:Int) (i j:fU) (w:θ) (K:fU->b_):=fZ υ 362 [.agg ⟨lM a b c d e f g h i j⟩] [.one .slice] w K
def n_ (b:fU) (w:θ) (K:fU->b_):=fZ υ 363 [Δ b] [.one .slice] w K
def pF (b:fU) (c:Int) (w:θ) (K:fU->b_):=fZ υ 364 [Δ b,Β c] [.one .slice] w K
def KC (c d e:Int) (b:fU) (f g:Int) (w:θ) (K:fU->Int->b_):=fZ υ 365 [(.agg ⟨[Β c,Β d,Β e,Δ b]⟩),Β f,Β g] [.one .slice,.one ν] w K
def KD (c d e:Int) (b:fU) (w:θ) (K:Int->Int->Int->b_):=fZ υ 366 [(.agg ⟨[Β c,Β d,Β e,Δ b]⟩)] [.agg [ν,ν,ν]] w K
def MG (c d e:Int) (b:fU) (f g:Int) (w:θ) (K:Value->b_):=fZ υ 367 [(.agg ⟨[Β c,Β d,Β e,Δ b]⟩),Β f,Β g] [.one .any] w K
def Xv (c d e:Int) (b:fU) (w:θ) (K:Int->b_):=fZ υ 368 [(.agg ⟨[Β c,Β d,Β e,Δ b]⟩)] [.one ν] w K
def DT (c d e:Int) (b:fU) (f:Int) (w:θ) (K:Int->Int->Int->fU->b_):=fZ υ 369 [(.agg ⟨[Β c,Β d,Β e,Δ b]⟩),Β f] [.agg [ν,ν,ν,.slice]] w K
theorem EK {e f g c h i w K}:gB (FH e f g c h i w K)
 (Ε w [Β e,Β f,.bool g,Δ c] 303 λd b=>fM b (d.add 0) λj=>fM b (d.add 1) λk=>Ld .bool b (d.add 2) λl=>Ld .slice b (d.add 3) λm=>Ik h i j k l m b λn o p=>K n o p):=χ Tryz.func350
theorem EL {f g h b w K}:gB (FK f g h b w K)
 (Ε w [Β f,Β g,.bool h,Δ b] 303 λi j=>Ε j amT 110 λc e=>fM e i λk=>fM e (i.add 1) λl=>h_ [Β 17,Β k,Β l] e c 0 λd=>fM d (c.add 0) λm=>fM d (c.add 1) λn=>fM d (c.add 2) λo=>K m n o d):=χ Tryz.func351
theorem Gs {g h i d j k w K}:gB (G5 g h i d j k w K)
 (Ε w [Β g,Β h,.bool i,Δ d] 303 λb e=>fM e.drew b λn=>fM e.drew (b.add 1) λl=>qw j n e.drew λo m=>m.cell? (b.add 1)=some (Β l)/\
 qw k l m λp q=>St q b (Β o) λr=>St r (b.add 1) (Β p) λc=>fM c (b.add 0) λs=>fM c (b.add 1) λt=>Ld .bool c (b.add 2) λu=>Ld .slice c (b.add 3) λf=>K (Value.iface 303 (Value.agg ⟨[Β s,Β t,.bool u,Δ f]⟩)) c):=χ Tryz.func352
theorem Zt {j k l m n f w K}:gB (Ik j k l m n f w K)
 (Ε w [Β l,Β m,.bool n,Δ f] 133 λb c=>fM c (b.add 0) λp=>fM c (b.add 1) λq=>Ld .bool c (b.add 2) λr=>Ld .slice c (b.add 3) λs=>Il p q r s c λo d=>(cond (o !=0) (K ⟨none,0,0⟩ o d) (fM d b λt=>fM d (b.add 1) λu=>Ld .slice d (b.add 3) λv=>Ε d [Β t,Β u,Β (ο.wrap (8+(v.len:Int))),Β 0] 3 λx y=>iH (S:=fU×Int×Unit) (λe g z=>(cond (decide (e.2.1<(4:Int))) (iE ⟨(some x),4,4⟩ 1 e.2.1 λA=>fM g A λB=>ou e.1 B 2 g λC D=>z (C,(ο.wrap (e.2.1+1)),()) D) (Ld .slice g (b.add 3) λE=>mG 5 1 1 [(Value.int .u8 0)] e.1 E g λh i=>Ld .bool i (b.add 2) λF=>(cond F (K h 0 i) (FZ j k h i λG H=>zi h 6 G 2 H λI J L=>K I J L))))) (⟨none,0,0⟩,0,()) y))):=χ Tryz.func353 (fQ (fQ (fQ (.seq (fQ (.blk (.loop [(9,.slice),(27,ν)] .leaf))) .leaf))))
theorem WG {a b w K}:gB (qw a b w K)
 ((cond (a==(-1)) (K b w) (K a w))):=χ Tryz.func354
theorem Zu {f g h b w K}:gB (Il f g h b w K)
 (Ε w [Β f,Β g,.bool h,Δ b] 133 λd i=>let j:Bool->b_:=λk c=>((cond k (K 1 c) (Ld .slice c (d.add 3) λl=>(cond (decide ((l.len:Int)>65527)) (K 6 c) (K 0 c)))))
 fM i d λm=>kW m 2 i λn e=>(cond (!n) (j true e) (fM e (d.add 1) λo=>kW o 2 e λp q=>j (!p) q))):=χ Tryz.func355
theorem Xf {d e b w K}:gB (FZ d e b w K)
 (tJ d e 17 (b.len:Int) w λc h=>Ε h [Δ c,Δ b] 46 λi j=>Ig ⟨(some i),2,2⟩ j λf g=>(cond (f==0) (K 65535 g) (K f g))):=χ Tryz.func356
theorem Gt {a b c d e f g h i j k l w K}:gB (G6 a b c d e f g h i j k l w K)
 (Ε w (lM a b c d e f g h i j) 309 λn m=>AV m n λo p q r s t u v x y=>Ih k l o p q r s t u v x y m λz A B=>K z A B):=χ Tryz.func357
theorem Gu {d e f g h i j k l m w K}:gB (G7 d e f g h i j k l m w K)
 (Ε w (lM d e f g h i j k l m) 309 λn o=>Ε o amT 110 λa c=>fM c n λp=>fM c (n.add 1) λq=>h_ [Β 6,Β p,Β q] c a 0 λb=>fM b (a.add 0) λr=>fM b (a.add 1) λs=>fM b (a.add 2) λt=>K r s t b):=χ Tryz.func358
theorem Hg {c d e f g h i j k l m n w K}:gB (Ia c d e f g h i j k l m n w K)
 (Ε w (lM c d e f g h i j k l) 309 λa b=>fM b.drew a λr=>fM b.drew (a.add 1) λo=>qw m r b.drew λs p=>p.cell? (a.add 1)=some (Β o)/\
 qw n o p λt u=>St u a (Β s) λv=>St v (a.add 1) (Β t) λq=>AV q a λx y z A B C D E F G=>K (Value.iface 309 (Value.agg ⟨lM x y z A B C D E F G⟩)) q):=χ Tryz.func359
theorem Zp {l m n o p q r s t u v x w K}:gB (Ih l m n o p q r s t u v x w K)
 (Ε w (lM n o p q r s t u v x) 305 λe y=>AV y e λC D E F G H I J L M=>Ii C D E F G H I J L M y λz f=>(cond (z !=0) (K ⟨none,0,0⟩ z f) (AV f e λN O P Q R T U V W X=>Ak N O P Q R T U V W X f λA Y=>iH (S:=fU×Int×Unit) (λb c Z=>(cond (decide (b.2.1<(A.len:Int))) (iE A 2 b.2.1 λB=>fM c (B.add 0) λaa=>fM c (B.add 1) λab=>Ε c amS 458 λg ac=>h_ [Β aa,Β ab] ac g 0 λh=>fM h g λad=>fM h (g.add 1) λae=>ou b.1 ad ae h λaf ag=>Z (af,(ο.wrap (b.2.1+1)),()) ag) (Ld .slice c (e.add 8) λi=>Ld .slice c (e.add 9) λj=>Ε c [.slice b.1.a b.1.len b.1.cap,Δ i,Δ j] 46 λah ai=>n_ ⟨(some ah),3,3⟩ ai λd aj=>tJ l m 6 (d.len:Int) aj λk ak=>Ε ak [Δ k,Δ d] 46 λal am=>Ig ⟨(some al),2,2⟩ am λan ao=>zi d 16 an 2 ao λap aq ar=>K ap aq ar))) (⟨none,0,0⟩,0,()) Y))):=χ Tryz.func360 (fQ (fQ (fQ (.seq (fQ (.blk (.loop [(9,.slice),(20,ν)] .leaf))) .leaf))))
theorem Zq {h i j k l m n o p q w K}:gB (Ii h i j k l m n o p q w K)
 (Ε w (lM h i j k l m n o p q) 305 λa b=>let d:Bool->Prop:=λu=>((cond u (K 1 b) (AV b a λv x y z A B C D E F=>Ak v x y z A B C D E F b λr G=>iH (S:=Int×Unit) (λe c H=>(cond (decide (e.1<(r.len:Int))) (iE r 2 e.1 λs=>fM c (s.add 0) λI=>fM c (s.add 1) λJ=>Ε c amS 458 λf L=>h_ [Β I,Β J] L f 0 λg=>fM g f λM=>fM g (f.add 1) λN=>kW M N g λO t=>(cond (!O) (K 1 t) (H ((ο.wrap (e.1+1)),()) t))) (Ld .slice c (a.add 8) λP=>Ld .slice c (a.add 9) λQ=>(cond (decide ((ο.wrap ((ο.wrap (20+(P.len:Int)))+(Q.len:Int)))>65535)) (K 6 c) (K 0 c))))) (0,()) G)))
 Ld .slice b (a.add 8) λR=>(cond (decide ((R.len:Int)>40)) (d true) (Ld .slice b (a.add 8) λT=>(4:Int)≠0/\
 (cond ((Int.tmod (T.len:Int) 4) !=0) (d true) (fM b (a.add 4) λU=>(cond (decide (U<0)) (d true) (fM b (a.add 4) λV=>d (decide (V>15))))))))):=χ Tryz.func361 (fQ (fQ (.seq (fQ (.blk (.loop [(29,ν)] .leaf))) .leaf)))
theorem Xd {c d e f g h i j k l w K}:gB (Ak c d e f g h i j k l w K)
 (Ε w (lM c d e f g h i j k l) 305 λb a=>Ld .slice a (b.add 8) λm=>(4:Int)≠0/\
 fM a b λn=>fM a (b.add 1) λo=>fM a (b.add 2) λp=>fM a (b.add 3) λq=>0<=(4:Int)/\
 fM a (b.add 4) λr=>fM a (b.add 5) λs=>fM a (b.add 6) λt=>fM a (b.add 7) λu=>Ε a (aj7 n 2 o 2 p 4 q 4 (orI .i64 (Lu .i64 (ο.wrap (Int.tdiv (ο.wrap (20+(m.len:Int))) 4)) 4) r) 1 s 1 t 2 0 2 u 2) 458 λv x=>K ⟨(some v),9,9⟩ x):=χ Tryz.func362
theorem B_ {b w K}:gB (n_ b w K)
 (iH (S:=Int×Int×Unit) (λa d g=>(cond (decide (a.2.1<(b.len:Int))) (iE b 1 a.2.1 λh=>Ld .slice d h λf=>(cond (decide ((ο.wrap (a.1+(f.len:Int)))<0)) False (g ((ο.wrap (a.1+(f.len:Int))),(ο.wrap (a.2.1+1)),()) d))) (pF ⟨none,0,0⟩ a.1 d λi j=>iH (S:=fU×Int×Unit) (λc e k=>(cond (decide (c.2.1<(b.len:Int))) (iE b 1 c.2.1 λl=>Ld .slice e l λm=>mG 5 1 1 [(Value.int .u8 0)] c.1 m e λn o=>k (n,(ο.wrap (c.2.1+1)),()) o) (K c.1 e))) (i,0,()) j))) (0,0,()) w):=χ Tryz.func363 (fQ (fQ (.seq (fQ (.blk (.loop [(3,ν),(11,ν)] .leaf))) (fQ (.seq (fQ (.blk (.loop [(6,.slice),(27,ν)] .leaf))) .leaf)))))
theorem Eh {a b w K}:gB (pF a b w K)
 ((cond (decide (b<0)) False (let c:fU->b_:=λd e=>(K d e)
 (cond (decide ((ο.wrap (b - (ο.wrap ((a.cap:Int) - (a.len:Int)))))>0)) (kM a 1 0 (a.cap:Int) λf=>Xk 5 1 1 [(Value.int .u8 0)] f (ο.wrap (b - (ο.wrap ((a.cap:Int) - (a.len:Int))))) w λg h=>kM g 1 0 (a.len:Int) λi=>c i h) (c a w))))):=χ Tryz.func364
theorem Jd {e f g c h i w K}:gB (KC e f g c h i w K)
 (Ε w [Β e,Β f,Β g,Δ c] 311 λd b=>fM b (d.add 0) λj=>fM b (d.add 1) λk=>fM b (d.add 2) λl=>Ld .slice b (d.add 3) λm=>z_ j k l m b λn o p=>K n o p):=χ Tryz.func365
theorem Je {g h i c w K}:gB (KD g h i c w K)
 (Ε w [Β g,Β h,Β i,Δ c] 311 λd k=>Ε k amT 110 λe b=>fM b (d.add 0) λl=>fM b (d.add 1) λm=>fM b (d.add 2) λn=>Ld .slice b (d.add 3) λo=>Xv l m n o b λj p=>h_ [Β 1,Β j,Β j] p e 0 λf=>fM f (e.add 0) λq=>fM f (e.add 1) λr=>fM f (e.add 2) λs=>K q r s f):=χ Tryz.func366
theorem KZ {j k l e m n w K}:gB (MG j k l e m n w K)
 (Ε w [Β j,Β k,Β l,Δ e] 311 λb c=>fM c.drew (b.add 0) λo=>fM c.drew (b.add 1) λp=>fM c.drew (b.add 2) λq=>Ld .slice c.drew (b.add 3) λf=>qw m n c.drew λr g=>Cj g b o p<|Ci g b 2 q<|Cs g b 3 (Δ f)<|DT o p q f r g λs t u h v=>h_ [Β s,Β t,Β u,Δ h] v b 0 λd=>fM d (b.add 0) λx=>fM d (b.add 1) λy=>fM d (b.add 2) λz=>Ld .slice d (b.add 3) λi=>K (Value.iface 311 (Value.agg ⟨[Β x,Β y,Β z,Δ i]⟩)) d):=χ Tryz.func367
theorem abT {c d e b w K}:gB (Xv c d e b w K)
 (Ε w [Β c,Β d,Β e,Δ b] 105 λg f=>fM f (g.add 2) λh=>0<=(16:Int)/\
 K (lu .i64 (jE .i64 h 16) 65535) f):=χ Tryz.func368
theorem UJ {i j k f l w K}:gB (DT i j k f l w K)
 (Ε w [Β i,Β j,Β k,Δ f] 105 λb o=>Ε o amU 105 λc m=>0<=(16:Int)/\
 fM m (b.add 2) λp=>St m (b.add 2) (Β (orI .i64 (Lu .i64 (lu .i64 l 65535) 16) (lu .i64 p 65535))) λn=>Ld .slice n (b.add 3) λq=>g_ q n λg r=>St r (b.add 3) (Δ g) λd=>fM d (b.add 0) λs=>fM d (b.add 1) λt=>fM d (b.add 2) λu=>Ld .slice d (b.add 3) λh=>h_ [Β s,Β t,Β u,Δ h] d c 0 λe=>fM e (c.add 0) λv=>fM e (c.add 1) λx=>fM e (c.add 2) λy=>Ld .slice e (c.add 3) λz=>K v x y z e):=χ Tryz.func369
@[reducible] def aj8 (a b c d e f g h i j k l m n o p q r s t u v w x y z A B C D E F:Int):List Value:= .int .u8 a:: .int .u8 b:: .int .u8 c:: .int .u8 d:: .int .u8 e:: .int .u8 f:: .int .u8 g:: .int .u8 h:: .int .u8 i:: .int .u8 j:: .int .u8 k:: .int .u8 l:: .int .u8 m:: .int .u8 n:: .int .u8 o:: .int .u8 p:: .int .u8 q:: .int .u8 r:: .int .u8 s:: .int .u8 t:: .int .u8 u:: .int .u8 v:: .int .u8 w:: .int .u8 x:: .int .u8 y:: .int .u8 z:: .int .u8 A:: .int .u8 B:: .int .u8 C:: .int .u8 D:: .int .u8 E:: .int .u8 F::[]
def FT (w:θ) (K:fP (fP (fU->fU->Int->Int->Int->Int->Int->Int->Int->Int->Int->Int->Int->Int->Int->Int->Int->Int->Int->fU->b_))):=fZ υ 13 [] [.agg aeM] w K
def o_ (b:fU) (w:θ) (K:Int->Int->Int->Int->Int->Int->Int->Bool->Bool->fU->fU->b_):=fZ υ 15 [Δ b] [.agg vW] w K
def pq (c d e f g:Int) (b:fU) (w:θ) (K:fU->b_):=fZ υ 16 [Β c,Β d,Β e,Β f,Β g,Δ b] [.one .slice] w K
def Bv (b:fU) (w:θ) (K:fP (fP (b_))):=fZ υ 37 [Δ b] [.agg SX] w K
def DZ (c d e f:Int) (g:Bool) (b:fU) (w:θ) (K:fU->Int->b_):=fZ υ 51 [Β c,Β d,(.agg ⟨[Β e,Β f,.bool g,Δ b]⟩)] [.one .slice,.one ν] w K
def DY (a b c d e f g:Int) (h i:Bool) (j k:fU) (w:θ) (K:fU->Int->b_):=fZ υ 52 [.agg ⟨gQ a b c d e f g h i j k⟩] [.one .slice,.one ν] w K
def D5 (c d:Int) (e:Bool) (b:fU) (w:θ) (K:Int->b_):=fZ υ 117 [(.agg ⟨[Β c,Β d,.bool e,Δ b]⟩)] [.one ν] w K
def yJ (c d:Int) (e:Bool) (b:fU) (f:Int) (w:θ) (K:fU->b_):=fZ υ 118 [(.agg ⟨[Β c,Β d,.bool e,Δ b]⟩),Β f] [.one .slice] w K
def FP (b:fU) (w:θ) (K:Int->b_):=fZ υ 119 [Δ b] [.one ν] w K
def BA (a b c d:Int) (w:θ) (K:fU->b_):=fZ υ 120 [Β a,Β b,Β c,Β d] [.one .slice] w K
def Ai (a b c d e f g:Int) (h i:Bool) (j k:fU) (l m:Int) (w:θ) (K:fU->b_):=fZ υ 122 [.agg ⟨gQ a b c d e f g h i j k⟩,Β l,Β m] [.one .slice] w K
def jg (b:fU) (c d:Int) (w:θ) (K:fU->b_):=fZ υ 211 [Δ b,Β c,Β d] [.one .slice] w K
def vY (a b:Int) (w:θ) (K:Int->b_):=fZ υ 213 [Β a,Β b] [.one ν] w K
theorem UK {w K}:gB (uT w K)
 (FT w λj k l m n o p q r s t u v x y z A B C D E F G H I J L M N O P Q R S T U V=>Fz j k l m n o p q r s t u v x y z A B C D E F G H I J L M N O P Q R S T U V λa W d=>let e:Bool->Prop:=λX=>((cond X (K false d) (pq 167772161 3221225985 5000 53 9 ⟨none,0,0⟩ d λY Z=>o_ Y Z λaa ab ac ad ae af ag ah ai aj ak al=>rH a 1 aa ab ac ad ae af ag ah ai aj ak al λam an ao ap aq ar au av aw ax ay az aA=>Ε aA ξ 48 λf aB=>h_ (gQ am an ao ap aq ar au av aw ax ay) aB f 0 λc=>let g:Bool->Prop:=λaC=>((cond aC (K false c) (pq 3221225985 3325256705 53 5000 9 ⟨none,0,0⟩ c λaD aE=>o_ aD aE λaF aG aH aI aJ aK aL aM aN aO aP aQ=>nH a aF aG aH aI aJ aK aL aM aN aO aP aQ λaR aS aT aU aV aW aX aY aZ a0 a1 a2 a3 a4=>Ε a4 ξ 48 λh a5=>h_ (gQ aS aT aU aV aW aX aY aZ a0 a1 a2) a5 h 0 λa6=>pq 3221225986 3325256705 53 5000 9 ⟨none,0,0⟩ a6 λa7 a8=>o_ a7 a8 λa9 ba bb bc bd be bf bg bh bi bj bk=>nH a a9 ba bb bc bd be bf bg bh bi bj bk λbE bl bm bn bo bp bq br bs bt bu bv bw bx=>Ε bx ξ 48 λbz bA=>h_ (gQ bl bm bn bo bp bq br bs bt bu bv) bA bz 0 λi=>let b:Bool->Prop:=λbB=>(K bB i)
 (cond (a3==0) (cond (aR==1) (fM i (h.add 6) λbC=>(cond (bC==167772161) (b (bw==10)) (b false))) (b false)) (b false)))))
 (cond (az !=0) (g true) (fM c (f.add 5) λbD=>g (bD !=3325256705))))))
 (cond (Option.isNone a) (e true) (e (W !=0)))):=χ Tryz.func6
theorem WZ {w K}:gB (FT w K)
 (Ε w (jd 0 0 0 0 0 0 0 0 0 0 0 0 0 0 0 0 ⟨none,0,0⟩ ⟨none,0,0⟩ 0 0 0 0 0 0 0 0 0 0 0 0 0 0 0 0 0 ⟨none,0,0⟩) 28 λa c=>Ε c [Β 8193,Β 3512,Β 0,Β 0,Β 0,Β 0,Β 0,Β 1] 3 λd e=>Bv ⟨(some d),8,8⟩ e λf g h i j k l m n o p q r s t u v=>Ε v [Β 8193,Β 3512,Β 1,Β 0,Β 0,Β 0,Β 0,Β 1] 3 λx y=>Bv ⟨(some x),8,8⟩ y λz A B C D E F G H I J L M N O P Q=>Ε Q [Β 8193,Β 3512,Β 2,Β 0,Β 0,Β 0,Β 0,Β 1] 3 λR S=>Bv ⟨(some R),8,8⟩ S λT U V W X Y Z aa ab ac ad ae af ag ah ai aj=>Ε aj (aj8 z A B C D E F G H I J L M N O P T U V W X Y Z aa ab ac ad ae af ag ah ai) 23 λak al=>Ε al [Β 3325256705] 3 λam an=>h_ (jd f g h i j k l m n o p q r s t u ⟨(some ak),2,2⟩ ⟨(some am),1,1⟩ 1024 65535 16 64 128 8 1048576 1500 1500 64 0 2 300 7440 240 60 60 ⟨none,0,0⟩) an a 0 λb=>oN b a λao ap aq ar au av aw ax ay az aA aB aC aD aE aF aG aH aI aJ aK aL aM aN aO aP aQ aR aS aT aU aV aW aX aY aZ=>K ao ap aq ar au av aw ax ay az aA aB aC aD aE aF aG aH aI aJ aK aL aM aN aO aP aQ aR aS aT aU aV aW aX aY aZ b):=χ Tryz.func13
theorem Rq {a w K}:gB (o_ a w K)
 (Ε w ξ 48 λb f=>yI a f λg h i j k l m n o p q R r=>Ε r ξ 48 λc s=>h_ (gQ g h i j k l m n o p q) s c 0 λd=>iq d c λt u v x y z A B C D E=>h_ (gQ t u v x y z A B C D E) d b 0 λe=>iq e b λF G H I J L M N O P Q=>K F G H I J L M N O P Q e):=χ Tryz.func15
theorem OD {a b c d e f w K}:gB (pq a b c d e f w K)
 (DZ a b c d false f w λg k h=>DY 0 0 0 e 17 a b false false ⟨none,0,0⟩ g h λi l j=>K i j):=χ Tryz.func16
theorem Ϲ {c w K}:gB (Bv c w K)
 (Ε w (nI 0 0 0 0 0 0 0 0 0 0 0 0 0 0 0 0) 23 λe i=>Ε i (nI 0 0 0 0 0 0 0 0 0 0 0 0 0 0 0 0) 23 λd j=>iH (S:=Int×Unit) (λa b k=>let f:Bool->Prop:=λl=>((cond l (iE c 1 a.1 λm=>fM b m λg=>(65536:Int)≠0/\
 (65536:Int)≠0/\
 (256:Int)≠0/\
 (256:Int)≠0/\
 (0:Int)<=(ο.wrap (2 * a.1))/\(ο.wrap (2 * a.1))<(16:Int)/\
 St b (d.add (Int.toNat (ο.wrap (2 * a.1)) * 1)) (Value.int .u8 (IntKind.u8.wrap (ο.wrap (Int.tdiv (Int.tmod (ο.wrap ((Int.tmod g 65536)+65536)) 65536) 256)))) λn=>(0:Int)<=(ο.wrap ((ο.wrap (2 * a.1))+1))/\(ο.wrap ((ο.wrap (2 * a.1))+1))<(16:Int)/\
 St n (d.add (Int.toNat (ο.wrap ((ο.wrap (2 * a.1))+1)) * 1)) (Value.int .u8 (IntKind.u8.wrap (Int.tmod (Int.tmod (ο.wrap ((Int.tmod g 65536)+65536)) 65536) 256))) λo=>k ((ο.wrap (a.1+1)),()) o) (uS b d λp q r s t u v x y z A B C D E F=>h_ (nI p q r s t u v x y z A B C D E F) b e 0 λh=>uS h e λG H I J L M N O P Q R T U V W X=>K G H I J L M N O P Q R T U V W X h)))
 (cond (decide (a.1<(c.len:Int))) (f (decide (a.1<8))) (f false))) (0,()) j):=χ Tryz.func37 (fQ (fQ (.seq (fQ (.blk (.loop [(4,ν)] .leaf))) .leaf)))
theorem U2 {j k l m n g w K}:gB (DZ j k l m n g w K)
 (Ε w [Β l,Β m,.bool n,Δ g] 133 λb d=>fM d (b.add 0) λr=>fM d (b.add 1) λs=>Ld .bool d (b.add 2) λt=>Ld .slice d (b.add 3) λu=>D5 r s t u d λo c=>(cond (o !=0) (K ⟨none,0,0⟩ o c) (fM c (b.add 0) λv=>fM c (b.add 1) λx=>Ld .bool c (b.add 2) λy=>Ld .slice c (b.add 3) λz=>yJ v x y z 0 c λe h=>Ld .bool h (b.add 2) λA=>(cond A (K e 0 h) (BA j k 17 (e.len:Int) h λi B=>Ε B [Δ i,Δ e] 46 λC D=>FP ⟨(some C),2,2⟩ D λp f=>let q:Int->Prop:=λE=>(fM f (b.add 0) λF=>fM f (b.add 1) λG=>Ld .bool f (b.add 2) λH=>Ld .slice f (b.add 3) λI=>yJ F G H I E f λJ L=>K J 0 L)
 (cond (p==0) (q 65535) (q p))))))):=χ Tryz.func51
theorem UZ {h i j k l m n o p q r w K}:gB (DY h i j k l m n o p q r w K)
 (Ε w (gQ h i j k l m n o p q r) 48 λb s=>iq s b λU V W X Y Z aa ab ac ad ae=>yH U V W X Y Z aa ab ac ad ae s λt d=>(cond (t !=0) (K ⟨none,0,0⟩ t d) (iq d.drew b λu v x y z A B C D E F=>iq d.drew b λaf ag ah ai aj ak al am an ao ap=>wM af ag ah ai aj ak al am an ao ap d.drew λaq G=>VJ (gQ u v x y z A B C D E F) G b 0 (
 Ai u v x y z A B C D E F aq 0 G λf ar=>Ε ar [Δ f] 46 λau av=>FP ⟨(some au),1,1⟩ av λaw e=>iq e.drew b λH I J L M N O P Q R S=>iq e.drew b λax ay az aA aB aC aD aE aF aG aH=>Ld .slice e.drew (b.add 10) λc=>wM ax ay az aA aB aC aD aE aF aG aH e.drew λaI g=>g.cell? (b.add 10)=some (Δ c)/\
 VJ (gQ H I J L M N O P Q R S) g b 0 (
 Ai H I J L M N O P Q R S aI aw g λaJ T=>T.cell? (b.add 10)=some (Δ c)/\
 mG 5 1 1 [(Value.int .u8 0)] aJ c T λaK aL=>K aK 0 aL))))):=χ Tryz.func52
theorem U3 {f g h b w K}:gB (D5 f g h b w K)
 (Ε w [Β f,Β g,.bool h,Δ b] 133 λd i=>let j:Bool->b_:=λk c=>((cond k (K 1 c) (Ld .slice c (d.add 3) λl=>(cond (decide ((l.len:Int)>65527)) (K 6 c) (K 0 c)))))
 fM i d λm=>mY m 2 i λn e=>(cond (!n) (j true e) (fM e (d.add 1) λo=>mY o 2 e λp q=>j (!p) q))):=χ Tryz.func117
theorem U4 {e f g c h w K}:gB (yJ e f g c h w K)
 (Ε w [Β e,Β f,.bool g,Δ c] 133 λb d=>fM d.drew b λm=>fM d.drew (b.add 1) λi=>jg ⟨none,0,0⟩ m 2 d.drew λn j=>j.cell? (b.add 1)=some (Β i)/\
 jg n i 2 j λo k=>Ld .slice k (b.add 3) λp=>jg o (ο.wrap (8+(p.len:Int))) 2 k λq r=>jg q h 2 r λs l=>Ld .slice l (b.add 3) λt=>mG 5 1 1 [(Value.int .u8 0)] s t l λu v=>K u v):=χ Tryz.func118
theorem ϸ {a w K}:gB (FP a w K)
 (Di a w λb c=>K (ο.wrap (65535 - b)) c):=χ Tryz.func119
theorem Ry {a b c d w K}:gB (BA a b c d w K)
 (vY a 4294967296 w λe f=>jg ⟨none,0,0⟩ e 4 f λg h=>vY b 4294967296 h λi j=>jg g i 4 j λk l=>Ε l [.int .u8 0] 5 λm n=>mG 5 1 1 [(Value.int .u8 0)] k ⟨(some m),1,1⟩ n λo p=>vY c 256 p λq r=>jg o q 1 r λs t=>vY d 65536 t λu v=>jg s u 2 v λx y=>K x y):=χ Tryz.func120
theorem WX {e f g h i j k l m n o p q w K}:gB (Ai e f g h i j k l m n o p q w K)
 (Ε w (gQ e f g h i j k l m n o) 48 λa b=>fM b (a.add 2) λr=>(8:Int)≠0/\
 let s:Int->Prop:=λt=>(let u:Int->Prop:=λE=>(iq b.drew a λF G H I J L M N O P Q=>fM b.drew a λv=>Ah F G H I J L M N O P Q b.drew λR x=>x.cell? a=some (Β v)/\
 (4:Int)≠0/\
 Ε x [.int .u8 (IntKind.u8.wrap (ο.wrap (64+(ο.wrap (Int.tdiv R 4))))),.int .u8 (IntKind.u8.wrap v)] 5 λS y=>fM y.drew (a.add 1) λz=>jg ⟨(some S),2,2⟩ p 2 y.drew λT A=>A.cell? (a.add 1)=some (Β z)/\
 jg T z 2 A λU V=>jg U E 2 V λW c=>fM c (a.add 3) λX=>fM c (a.add 4) λY=>Ε c [.int .u8 (IntKind.u8.wrap X),.int .u8 (IntKind.u8.wrap Y)] 5 λZ aa=>mG 5 1 1 [(Value.int .u8 0)] W ⟨(some Z),2,2⟩ aa λab ac=>jg ab q 2 ac λad d=>fM d.drew (a.add 5) λae=>fM d.drew (a.add 6) λB=>jg ad ae 4 d.drew λaf C=>C.cell? (a.add 6)=some (Β B)/\
 jg af B 4 C λag D=>Ld .slice D (a.add 9) λah=>mG 5 1 1 [(Value.int .u8 0)] ag ah D λai aj=>K ai aj)
 Ld .bool b (a.add 8) λak=>(cond ak (u (ο.wrap (t+8192))) (u t)))
 Ld .bool b (a.add 7) λal=>(cond al (s (ο.wrap ((ο.wrap (Int.tdiv r 8))+16384))) (s (ο.wrap (Int.tdiv r 8))))):=χ Tryz.func122
theorem Zi {d b c w K}:gB (jg d b c w K)
 (mG 5 1 1 [(Value.int .u8 0)] ⟨none,0,0⟩ d w λe i=>mY b c i λj f=>(cond (!j) (K e f) (iH (S:=fU×Int×Unit) (λa g k=>(cond (decide (a.2.1>=0)) (Dh a.2.1 g λh l=>h≠0/\
 (256:Int)≠0/\
 Ε l [.int .u8 (IntKind.u8.wrap (Int.tmod (ο.wrap (Int.tdiv b h)) 256))] 5 λm n=>mG 5 1 1 [(Value.int .u8 0)] a.1 ⟨(some m),1,1⟩ n λo p=>k (o,(ο.wrap (a.2.1 - 1)),()) p) (K a.1 g))) (e,(ο.wrap (c - 1)),()) f))):=χ Tryz.func211 (fQ (fQ (fQ (.seq (fQ (.blk (.loop [(7,.slice),(8,ν)] .leaf))) .leaf))))
theorem Zm {b a w K}:gB (vY b a w K)
 (a≠0/\
 a≠0/\
 K (Int.tmod (ο.wrap ((Int.tmod b a)+a)) a) w):=χ Tryz.func213
end Go.Proofs
end
section
namespace Gp.Hash
abbrev uQ:=Option (ByteArray×Int)
def cy (m a:Nat):Nat:=if a<m then a else a - m
def used (L:List uQ) (i:Nat):Prop:=∃e:ByteArray×Int,L[i]? =some (some e)
def Has (L:List uQ) (k:ByteArray) (n:Int):Prop:=∃i:Nat,L[i]? =some (some (k,n))
structure T (H:ByteArray->Nat) (L:List uQ) (X:Nat->Nat->Prop):Prop where
 dist:∀(i j:Nat) (k:ByteArray) (n n':Int),L[i]? =some (some (k,n))->L[j]? =some (some (k,n'))->i=j
 reach:∀(i:Nat) (k:ByteArray) (n:Int),L[i]? =some (some (k,n))->∃D,D<L.length/\cy L.length (H k+D)=i/\∀d,d<D->used L (cy L.length (H k+d))\/X i (cy L.length (H k+d))
def Stop (L:List uQ) (h:Nat) (k:ByteArray) (d:Nat):Prop:=L[cy L.length (h+d)]? =some none\/∃n,L[cy L.length (h+d)]? =some (some (k,n))
structure First (L:List uQ) (h:Nat) (k:ByteArray) (d:Nat):Prop where
 lt:d<L.length
 stop:Stop L h k d
 first:∀d',d'<d->¬Stop L h k d'
section
variable {H:ByteArray->Nat} {L:List uQ} {X:Nat->Nat->Prop} {k:ByteArray} {n:Int}
theorem cyc (m a:Nat):(a<m/\cy m a=a)\/(m<=a/\cy m a=a - m):=by
 unfold cy;split<;>omega
theorem NV {m a:Nat} (h:a<2 * m):cy m a<m:=by unfold cy;split<;>omega
theorem abk {m h d d':Nat} (hh:h<m) (hd:d<m) (hd':d'<m) (e:cy m (h+d)=cy m (h+d')):d=d':=by
 unfold cy at e;split at e<;>split at e<;>omega
theorem XL (L:List uQ) {i:Nat} (h:i<L.length):L[i]? =some none\/∃k n,L[i]? =some (some (k,n)):=by
 rw[ade h]
 cases hx:L[i] with
 |none=>simp
 |some e=>grind
theorem ϛ (t:T H L X) (hX:∀i p,¬X i p) (hh:H k<L.length) {i:Nat} (hi:L[i]? =some (some (k,n))) {d:Nat} (f:First L (H k) k d):cy L.length (H k+d)=i:=by
 obtain⟨D,hD,hc,hu⟩:=t.reach i k n hi;have hs:Stop L (H k) k D:= .inr ⟨n,by simp_all⟩;have h1:=λh=>f.first D h hs
 by_cases h2:d<D
 ·rcases hu d h2 with ⟨e,he⟩|hx
  ·rcases f.stop with h0|⟨n',h0⟩
   ·simp_all
   ·exact t.dist _ _ _ _ _ h0 hi
  simp_all
 grind
theorem MJ (u:∀n,¬Has L k n) {h:Nat} (hh:h<L.length) {d:Nat} (f:First L h k d):L[cy L.length (h+d)]? =some none/\∀d',d'<d->used L (cy L.length (h+d')):=by
 refine⟨?_,λd' hd=> ?_⟩
 ·rcases f.stop with h0|⟨n',h0⟩
  ·exact h0
  ·exact absurd ⟨_,h0⟩ (u n')
 ·have hlt:=f.lt;rcases XL L (NV (a:=h+d') (by omega)) with h0|⟨k',n',h0⟩
  ·exact absurd (.inl h0) (f.first d' hd)
  ·exact⟨_,h0⟩
theorem iY (L:List uQ) (q i:Nat) (e:uQ):(L.set q e)[i]? =if q=i/\q<L.length then some e else L[i]? :=by
 grind
theorem aaJ {q i:Nat} {e:uQ} (hu:used L i) (hn:L[q]? =some none):used (L.set q e) i:=by
 obtain⟨x,hx⟩:=hu;refine⟨x,?_⟩;rw[iY,ada]
 ·exact hx
 grind
theorem insert (t:T H L X) (u:∀n,¬Has L k n) (hh:H k<L.length) {d:Nat} (f:First L (H k) k d):T H (L.set (cy L.length (H k+d)) (some (k,n))) X:=by
 obtain⟨hn,hu⟩:=MJ u hh f;have hq:=(aeK.1 hn).1;refine⟨λi j k' n1 n2 hi hj=> ?_,λi k' n1 hi=> ?_⟩
 ·rw[iY] at hi hj;split at hi<;>split at hj
  ·omega
  ·cases hi;exact absurd ⟨_,hj⟩ (u n2)
  ·cases hj;exact absurd ⟨_,hi⟩ (u n1)
  ·exact t.dist _ _ _ _ _ hi hj
 ·rw[iY] at hi;simp only[alg];split at hi
  ·rename_i h1
   cases hi
   exact⟨d,f.lt,h1.1,λd' hd=> .inl (aaJ (hu d' hd) hn)⟩
  ·obtain⟨D,hD,hc,hx⟩:=t.reach i k' n1 hi;exact⟨D,hD,hc,λd' hd=>(hx d' hd).imp (λh=>aaJ h hn) id⟩
theorem Gh {q:Nat} (hn:L[q]? =some none) (h:∀n,¬Has L k n) (k':ByteArray) (n':Int):Has (L.set q (some (k,n))) k' n'↔(k'=k/\n'=n)\/(k'≠k/\Has L k' n'):=by
 have hq:=(aeK.1 hn).1;constructor
 ·rintro⟨i,hi⟩;rw[iY] at hi;split at hi
  ·simp_all
  ·refine .inr ⟨?_,i,hi⟩;rintro rfl;exact h _ ⟨i,hi⟩
 ·rintro(⟨rfl,rfl⟩|⟨hk,i,hi⟩)
  ·exact⟨q,by simp_all⟩
  ·refine⟨i,?_⟩;rw[iY,ada]
   ·exact hi
   grind
theorem update (t:T H L X) {q:Nat} {n0:Int} (hq:L[q]? =some (some (k,n0))):T H (L.set q (some (k,n))) X:=by
 have u:=(aeK.1 hq).1;have old:∀(i:Nat) (k':ByteArray) (n1:Int),(L.set q (some (k,n)))[i]? =some (some (k',n1))->∃n2:Int,L[i]? =some (some (k',n2)):=by
  grind
 have us:∀i,used L i->used (L.set q (some (k,n))) i:=by
  rintro i ⟨e,he⟩;by_cases h:q=i
  ·exact⟨_,by rw[iY,aeH ⟨h,u⟩]⟩
  ·exact⟨e,by simp_all⟩
 refine⟨λi j k' n1 n2 hi hj=> ?_,λi k' n1 hi=> ?_⟩
 ·obtain⟨_,h1⟩:=old _ _ _ hi;obtain⟨_,h2⟩:=old _ _ _ hj;exact t.dist _ _ _ _ _ h1 h2
 ·obtain⟨_,h1⟩:=old _ _ _ hi;simp only[alg];obtain⟨D,hD,hc,hx⟩:=t.reach i k' _ h1
  grind
theorem Ue (t:T H L X) {q:Nat} {n0:Int} (hq:L[q]? =some (some (k,n0))) (k':ByteArray) (n':Int):Has (L.set q (some (k,n))) k' n'↔(k'=k/\n'=n)\/(k'≠k/\Has L k' n'):=by
 have h:=(aeK.1 hq).1;constructor
 ·rintro⟨i,hi⟩;rw[iY] at hi;split at hi
  ·simp_all
  ·rename_i h1;refine .inr ⟨?_,i,hi⟩;rintro rfl;exact h1 ⟨t.dist _ _ _ _ _ hq hi,h⟩
 ·rintro(⟨rfl,rfl⟩|⟨hk,i,hi⟩)
  ·exact⟨q,by simp_all⟩
  ·refine⟨i,?_⟩;rw[iY,ada]
   ·exact hi
   grind
def off (m at_ i:Nat):Nat:=if at_<=i then i - at_ else i+m - at_
theorem ahM (m at_ i:Nat):(at_<=i/\off m at_ i=i - at_)\/(i<at_/\off m at_ i=i+m - at_):=by
 unfold off;split<;>omega
def Xj (m at_ e j i p:Nat):Prop:=j<=off m at_ i/\off m at_ i<e/\off m at_ p<j
structure Zone (L:List uQ) (at_ e j:Nat):Prop where
 at_lt:at_<L.length
 e1:e<L.length
 je:j<=e
 full:∀d,j<=d->d<e->used L (cy L.length (at_+d))
 free:L[cy L.length (at_+e)]? =some none
theorem akw (m at_ e i p:Nat):¬Xj m at_ e e i p:=λh=>by have:=h.1;have:=h.2.1;omega
theorem way {m at_ e j h d D:Nat} (hat:at_<m) (he:e<m) (hje:j<e) (hh:h<m) (hD:D<m) (hd:d<D) (hp:cy m (at_+j)=cy m (h+d))
  (hz:¬(j<=off m at_ (cy m (h+D))/\off m at_ (cy m (h+D))<e)):(cy m (at_+e)=cy m (h+(d+(e - j)))/\d+(e - j)<D)\/cy m (at_+e)=cy m (h+D):=by
 have c1:=cyc m (at_+j);have c2:=cyc m (h+d);have c3:=cyc m (h+D);have c4:=cyc m (at_+e);have c5:=cyc m (h+(d+(e - j)));have o1:=ahM m at_ (cy m (h+D));omega
theorem clear {at_ e j:Nat} (z:Zone L at_ e j) (hj:j<e) (hH:∀k,H k<L.length) (t:T H L (Xj L.length at_ e j)):T H (L.set (cy L.length (at_+j)) none) (Xj L.length at_ e (j+1)):=by
 have I:=z.at_lt;have he:=z.e1;have hp:cy L.length (at_+j)<L.length:=NV (by omega);have old:∀(i:Nat) (k':ByteArray) (n1:Int),(L.set (cy L.length (at_+j)) none)[i]? =some (some (k',n1))->L[i]? =some (some (k',n1))/\cy L.length (at_+j)≠i:=by
  grind
 refine⟨λi j' k' n1 n2 hi hj'=>t.dist _ _ _ _ _ (old _ _ _ hi).1 (old _ _ _ hj').1,λi k' n1 hi=> ?_⟩;obtain⟨hi,J⟩:=old _ _ _ hi;simp only[alg];obtain⟨D,hD,hc,hx⟩:=t.reach i k' n1 hi;have hh:=hH k';have hlt:=(aeK.1 hi).1;have hoff:off L.length at_ i≠j:=by
  intro h;apply J;unfold off at h;unfold cy;split at h<;>split<;>omega
 refine⟨D,hD,hc,λd hd=> ?_⟩;by_cases u:cy L.length (at_+j)=cy L.length (H k'+d)
 ·
  right;have o1:off L.length at_ (cy L.length (H k'+d))=j:=by rw[<- u];unfold off cy;split<;>split<;>omega
  refine⟨?_,?_,by omega⟩
  all_goals
   by_cases hz:j<=off L.length at_ i/\off L.length at_ i<e
   ·omega
   ·exfalso;have hfree:=z.free;have key:=way I he hj hh hD hd u (by simp_all);rcases key with ⟨k1,k2⟩|k1
    ·rcases hx _ k2 with ⟨x,hu⟩|hX
     ·simp_all
     ·exact hz ⟨hX.1,hX.2.1⟩
    simp_all
 ·rcases hx d hd with ⟨x,hu⟩|hX
  ·exact .inl ⟨x,by simp_all⟩
  ·exact .inr ⟨by have:=hX.1;omega,hX.2.1,by have:=hX.2.2;omega⟩
theorem least {p:Nat->Prop} (h:∃n,p n):∃n,p n/\∀m,m<n->¬p m:=by
 obtain⟨n,hn⟩:=h
 induction n using Nat.strongRecOn with
 |_ n ih=>
  grind
theorem afx {h:Nat} (hs:∃d,d<L.length/\Stop L h k d):∃d,First L h k d:=by
 obtain⟨d,⟨h1,h2⟩,h3⟩:=least hs;exact⟨d,h1,h2,λd' hd hx=>h3 d' hd ⟨by omega,hx⟩⟩
theorem aff {m h i:Nat} (hh:h<m) (hi:i<m):off m h i<m/\cy m (h+off m h i)=i:=by
 have c1:=cyc m (h+off m h i);have o1:=ahM m h i;omega
theorem GK {h i:Nat} (hh:h<L.length) (hi:L[i]? =some none):∃d,d<L.length/\Stop L h k d:=by
 have u:=(aeK.1 hi).1;obtain⟨h1,h2⟩:=aff hh u;exact⟨_,h1,.inl (by simp_all)⟩
def cnt:List uQ->Nat
 |[]=>0
 |none::r=>cnt r
 |some _::r=>cnt r+1
theorem cnt_le:∀L:List uQ,cnt L<=L.length
 |[]=>ai8 _
 |none::r=>by have:=cnt_le r;simp only[cnt,aiQ];omega
 |some _::r=>by have:=cnt_le r;simp only[cnt,aiQ];omega
theorem RZ:∀{L:List uQ},cnt L<L.length->∃i:Nat,L[i]? =some none
 |[],h=>by trivial
 |none::_,_=>⟨0,rfl⟩
 |some _::r,h=>by
  obtain⟨i,hi⟩:=RZ (L:=r) (by simp only[cnt,aiQ] at h;omega);exact⟨i+1,by trivial⟩
theorem JL:∀{L:List uQ} {i:Nat} {e:ByteArray×Int},L[i]? =some none->cnt (L.set i (some e))=cnt L+1
 |[],_,_,h=>by simp at h
 |x::r,0,e,h=>by simp at h;subst h;rfl
 |x::r,i+1,e,h=>by
  have:=JL (e:=e) (by simpa using h)
  cases x<;>simp only[agO,cnt,this]
theorem NU:∀{L:List uQ} {i:Nat} {e:ByteArray×Int},L[i]? =some (some e)->cnt (L.set i none)+1=cnt L
 |[],_,_,h=>by simp at h
 |x::r,0,e,h=>by simp at h;subst h;rfl
 |x::r,i+1,e,h=>by
  have:=NU (by simpa using h)
  cases x<;>simp only[agO,cnt]<;>omega
theorem NT:∀{L:List uQ} {i:Nat} {e e':ByteArray×Int},L[i]? =some (some e)->cnt (L.set i (some e'))=cnt L
 |[],_,_,_,h=>by simp at h
 |x::r,0,_,_,h=>by simp at h;subst h;rfl
 |x::r,i+1,e,e',h=>by
  have:=NT (e':=e') (by simpa using h)
  cases x<;>simp only[agO,cnt,this]
theorem ag2 (n:Nat):cnt (List.replicate n none)=0:=by
 induction n with
 |zero=>rfl
 |succ n ih=>trivial
theorem PD (t:T H L X) {q:Nat} {n0:Int} (hq:L[q]? =some (some (k,n0))) (k':ByteArray) (n':Int):Has (L.set q none) k' n'↔k'≠k/\Has L k' n':=by
 have h:=(aeK.1 hq).1;constructor
 ·rintro⟨i,hi⟩;rw[iY] at hi;split at hi
  ·cases hi
  ·rename_i h1;refine⟨?_,i,hi⟩;rintro rfl;exact h1 ⟨t.dist _ _ _ _ _ hq hi,h⟩
 ·rintro⟨hk,i,hi⟩;refine⟨i,?_⟩;rw[iY,ada]
  ·exact hi
  grind
theorem aiu {at_:Nat} (ha:used L at_) (hc:cnt L<L.length):∃e,0<e/\Zone L at_ e 0:=by
 obtain⟨x,hx⟩:=ha;have u:=(aeK.1 hx).1;obtain⟨i,hi⟩:=RZ hc;have I:=(aeK.1 hi).1;obtain⟨h1,h2⟩:=aff u I;obtain⟨e,⟨h3,h4⟩,h5⟩:=least (p:=λe=>e<L.length/\L[cy L.length (at_+e)]? =some none) ⟨_,h1,by simp_all⟩;have h0:0<e:=by
  rcases Nat.eq_zero_or_pos e with h|h
  ·subst h;have:cy L.length (at_+0)=at_:=by unfold cy;simp[u]
   simp_all
  ·exact h
 refine⟨e,h0,u,h3,Nat.zero_le _,λd _ hd=> ?_,h4⟩;rcases XL L (NV (a:=at_+d) (by omega)) with h|⟨k',n',h⟩
 ·exact absurd ⟨by omega,h⟩ (h5 d hd)
 ·exact⟨_,h⟩
theorem VI {at_ e j:Nat} (z:Zone L at_ e j) (hj:j<e):Zone (L.set (cy L.length (at_+j)) none) at_ e (j+1):=by
 have u:=z.at_lt;have he:=z.e1;refine⟨by simp_all,by simp_all,hj,λd h1 h2=> ?_,?_⟩
 ·obtain⟨x,hx⟩:=z.full d (by omega) h2;refine⟨x,?_⟩;rw[alg,iY,ada]
  ·exact hx
  ·rintro⟨h,_⟩;have:=abk u (by omega) (by omega) h;omega
 ·rw[alg,iY,ada]
  ·exact z.free
  ·rintro⟨h,_⟩;have:=abk u (by omega) (by omega) h;omega
theorem aeG {at_ e j:Nat} (z:Zone L at_ e j) (hj:j<e) (hH:∀k,H k<L.length) (t:T H L (Xj L.length at_ e j)) {n0:Int} (h0:L[cy L.length (at_+j)]? =some (some (k,n0))):
  (∃d,First (L.set (cy L.length (at_+j)) none) (H k) k d)/\∀d,First (L.set (cy L.length (at_+j)) none) (H k) k d->
   Zone ((L.set (cy L.length (at_+j)) none).set (cy L.length (H k+d)) (some (k,n0))) at_ e (j+1)/\
   T H ((L.set (cy L.length (at_+j)) none).set (cy L.length (H k+d)) (some (k,n0))) (Xj L.length at_ e (j+1))/\
   (∀k' n',Has ((L.set (cy L.length (at_+j)) none).set (cy L.length (H k+d)) (some (k,n0))) k' n'↔Has L k' n')/\
   cnt ((L.set (cy L.length (at_+j)) none).set (cy L.length (H k+d)) (some (k,n0)))=cnt L:=by
 have hat:=z.at_lt;have he:=z.e1;have hp0:cy L.length (at_+j)<L.length:=NV (by omega);have O:(L.set (cy L.length (at_+j)) none).length=L.length:=alg;have u:(L.set (cy L.length (at_+j)) none)[cy L.length (at_+j)]? =some none:=by simp_all
 refine⟨afx (GK (by simp_all) u),λd f=> ?_⟩;have t1:=clear z hj hH t;have z1:=VI z hj;have J:=λn h=>((PD t h0 k n).1 h).1 rfl;have I:=MJ J (by simp_all) f;have ins:=insert (n:=n0) t1 J (by simp_all) f;rw[O] at I ins;have hd:d<L.length:=by have:=f.lt;omega
 have hq:=NV (m:=L.length) (a:=H k+d) (by grind);have N:off L.length at_ (cy L.length (H k+d))<=j:=by
  obtain⟨D,hD,hc,hx⟩:=t.reach _ _ _ h0;have hle:¬D<d:=λR=>by
   obtain⟨x,hx⟩:=I.2 D R
   simp_all
  by_cases U:d=D
  ·rw[U,hc];have c1:=cyc L.length (at_+j);have o1:=ahM L.length at_ (cy L.length (at_+j));omega
  ·rcases hx d (by omega) with ⟨x,hu⟩|hX
   ·have:=I.1;rw[iY,ada] at this
    ·simp_all
    ·rintro⟨h,_⟩;rw[<- hc] at h;have:=abk (hH k) hD hd h;omega
   ·have:=hX.2.2;omega
 have keep:∀c,j<c->c<=e->¬(cy L.length (H k+d)=cy L.length (at_+c)/\cy L.length (H k+d)<(L.set (cy L.length (at_+j)) none).length):=by
  rintro c h1 h2 ⟨h,_⟩;rw[h] at N;have c1:=cyc L.length (at_+c);have o1:=ahM L.length at_ (cy L.length (at_+c));omega
 refine⟨⟨by simp_all,by simp_all,hj,λc h1 h2=> ?_,?_⟩,ins,λk' n'=> ?_,?_⟩
 ·obtain⟨x,hx⟩:=z1.full c h1 h2;rw[O] at hx;refine⟨x,?_⟩
  grind
 ·have:=z1.free
  simp_all
 ·rw[Gh I.1 J,PD t h0];constructor
  ·rintro(⟨rfl,rfl⟩|⟨_,_,h⟩)
   ·exact⟨_,h0⟩
   ·exact h
  ·rintro⟨i,hi⟩;by_cases hk:k'=k
   ·subst hk;have:=t.dist _ _ _ _ _ h0 hi
    simp_all
   ·exact .inr ⟨hk,hk,i,hi⟩
 ·rw[JL I.1];exact NU h0
end
end Gp.Hash
end
section
namespace Go.Proofs
open Gp Gp.Hash
theorem ac2 {m from_ i:Nat} (hm:m<=2^48) (hf:from_<m) (hi:i<m):Int.tmod (ο.wrap ((from_:Int)+(i:Int))) (m:Int)=((cy m (from_+i):Nat):Int):=by
 rw[Α,alu (by omega)];have c:=cyc m (from_+i);rcases c with ⟨h1,h2⟩|⟨h1,h2⟩
 ·rw[h2,Int.emod_eq_of_lt (by omega) (by omega)];omega
 ·rw[h2];have:((from_:Int)+(i:Int))=((from_+i - m:Nat):Int)+(m:Int):=by omega
  rw[this,Int.add_emod_right,Int.emod_eq_of_lt (by omega) (by omega)]
theorem aaM {w:θ} {f0 f1 b from_ m:Nat} {body:Nat->zI [.one ν]->θ->(Exit->b_)->Prop} {Kn Kr:b_} {Kx:List (Nat×(b_))}
  (I:Nat->b_) (J:Exit->b_) (hm:m<=2^48) (hf:from_<m)
  (h0:∀w1,(∀S,gV w w1 S)->w1.heap[w.heap.size]? =some (.deferred (some []))->w1.heap.size=w.heap.size+2->I 0 w1)
  (hI:∀i W,I i W->Row W f0 [.pointer (some ⟨b,0,none⟩)]/\Row W f1 [Β from_]/\∃s,W.cell? ⟨b,0,none⟩=some (.slice s m m))
  (stI:∀i W W',I i W->gV W W' (·=w.heap.size+1)->I i W')
  (stJ:∀e W W',J e W->gV W W' (·=w.heap.size+1)->J e W')
  (jmp:∀e W,J e W->e= .ret\/∃id,e= .exit id)
  (step:∀i W Kb,i<m->I i W->(∀W',W'.heap[w.heap.size+1]? =(gu W (w.heap.size+1)).heap[w.heap.size+1]? ->I (i+1) W'->Kb .normal W')->
   (∀e W',W'.heap[w.heap.size+1]? =(gu W (w.heap.size+1)).heap[w.heap.size+1]? ->J e W'->Kb e W')->body (w.heap.size+1) (((cy m (from_+i):Nat):Int),()) W Kb)
  (fn:∀W,I m W->Kn W) (fr:∀W,J .ret W->Kr W) (fx:∀id W,J (.exit id) W->Ub id Kx W):
  xk υ none [.one ν] (Value.func (.func zY) #[] #[(Value.pointer (some ⟨f0,0,none⟩)),(Value.pointer (some ⟨f1,0,none⟩))]) w body Kn Kr Kx:=by
 refine⟨λl₀ h=>(by cases h),by kernel_rfl,λl L w1 ctx=> ?_⟩;have hl:l=w.heap.size+1:=ctx.at_;subst hl;refine Calls.mono (I5
  ?_) (λe w' h=>h)
 have i0:=h0 w1 (λS=>⟨by have:=ctx.size;omega,λb hb _=>ctx.old b hb,ctx.io⟩) (ctx.marks rfl) ctx.size;obtain⟨r0,r1,s,hs⟩:=hI _ _ i0;simp only[sx,r0.cell,hs];refine gI (λst W=>(∃i:Nat,i<=m/\st.1=i/\I i W)/\L .ready none W) (λst _=>m - st.1.toNat) ⟨⟨0,by omega,rfl,i0⟩,ctx.ready⟩ ?_;rintro⟨x,⟨⟩⟩ W ⟨⟨i,hi,rfl,R⟩,hL⟩ next N
 by_cases U:i<m
 ·have u:((i:Int)<(m:Int)):=by omega
  simp only[u,ace,aaU];have Y:=stI _ _ _ R (gV.drew W _);have O:L .ready none W.drew:=ctx.frame _ _ _ _ hL rfl;obtain⟨r0,r1,s,hs⟩:=hI _ _ Y;simp only[wS,aeI,f_,gK,gq,oU,r0.cell,r1.cell,hs];refine⟨by omega,?_⟩;rw[ac2 hm hf U];refine ctx.yield (((cy m (from_+i):Nat):Int),()) W.drew none _ O (step i W.drew _ U Y ?_ ?_)
  ·intro W' hh hI';refine⟨ctx.frame _ _ _ _ (ctx.busy _ _ O) hh,none,rfl,true,rfl,?_⟩;simp only[adp,aaT];refine N _ _ ⟨⟨i+1,by omega,?_,stI _ _ _ hI' (gV.iP _ _ _ _)⟩,ctx.set _ _ _ _ _ (ctx.frame _ _ _ _ (ctx.busy _ _ O) hh)⟩ ?_
   ·simp only;rw[Α];omega
   ·simp only;rw[Α];omega
  ·intro e W' hh hJ;have hb:=ctx.frame _ _ _ _ (ctx.busy _ _ O) hh;rcases jmp _ _ hJ with rfl|⟨id,rfl⟩
   ·refine⟨hb,_,rfl,false,rfl,?_⟩;simp only[afa,aaU];refine⟨.done,some .ret,ctx.set _ _ _ _ _ hb,by simp,?_⟩;exact fr _ (stJ _ _ _ (stJ _ _ _ hJ (gV.iP _ _ _ _)) (gV.iP _ _ _ _))
   ·refine⟨hb,_,rfl,false,rfl,?_⟩;simp only[afa,aaU];refine⟨.done,some (.exit id),ctx.set _ _ _ _ _ hb,by simp,?_⟩;exact fx _ _ (stJ _ _ _ (stJ _ _ _ hJ (gV.iP _ _ _ _)) (gV.iP _ _ _ _))
 ·have u:¬((i:Int)<(m:Int)):=by omega
  simp only[u,acQ,aaT];have:i=m:=by omega
  subst this;exact⟨.ready,none,hL,by simp,fn _ (stI _ _ _ R (gV.iP _ _ _ _))⟩
def N7:uQ->ByteArray
 |none=>bs []
 |some x=>x.1
def eN:uQ->Int
 |none=>0
 |some x=>x.2
def eU:uQ->Bool
 |none=>false
 |some _=>true
def QZ (e:uQ):List Value:=[.string (N7 e),Β (eN e),.bool (eU e)]
theorem Iy (e:uQ):(QZ e).length=3:=rfl
def slA (s:Nat) (L:List uQ):fO:=if L=[] then none else some ⟨s,0,none⟩
structure HT (w:θ) (b s:Nat) (L:List uQ) (many most:Int):Prop where
 hd:Row w b [.slice (slA s L) L.length L.length,Β many,Β most,.bool true]
 row:L≠[]->Row w s (L.flatMap QZ)
 ne:L≠[]->b≠s
 sz:L.length<=2^20
theorem HT.fr {w w':θ} {b s:Nat} {L:List uQ} {many most:Int} {S:Nat->Prop} (h:HT w b s L many most) (hf:gV w w' S) (h1:¬S b) (h2:L≠[]->¬S s):HT w' b s L many most:=
 ⟨h.hd.fr hf h1,λhn=>(h.row hn).fr hf (h2 hn),h.ne,h.sz⟩
theorem HT.LJ {w w':θ} {b s:Nat} {L:List uQ} {many most:Int} (h:HT w b s L many most) (hf:∀S,gV w w' S):HT w' b s L many most:=
 h.fr (hf λ_=>False) (by simp) (by simp)
theorem HT.ent {w:θ} {b s:Nat} {L:List uQ} {many most:Int} (h:HT w b s L many most) {i:Nat} {e:uQ} (hi:L[i]? =some e) (j:Nat) (hj:j<3):w.cell? ⟨s,i * 3+j,none⟩=(QZ e)[j]? :=by
 have hn:L≠[]:=by grind
 rw[(h.row hn).cell,flat_get _ 3 Iy _ _ j hj,hi];rfl
def hTo (k:ByteArray):Nat->Int
 |0=>2166136261
 |i+1=>match k[i]? with
  |some c=>IntKind.u32.wrap (VG .u32 (hTo k i) (IntKind.u32.wrap (c.toNat:Int)) * 16777619)
  |none=>0
def vZ (k:ByteArray) (m:Nat):Nat:=(Int.tmod (hTo k k.size) (m:Int)).toNat
theorem aaQ (n:Int):0<=IntKind.u32.wrap n/\IntKind.u32.wrap n<4294967296:=by
 rw[IntKind.wrap_u32];omega
theorem afJ (k:ByteArray) (i:Nat):0<=hTo k i/\hTo k i<4294967296:=by
 cases i with
 |zero=>simp[hTo]
 |succ i=>
  simp only[hTo];split
  ·exact aaQ _
  ·omega
theorem EC (k:ByteArray) {m:Nat} (hm:0<m):vZ k m<m:=by
 unfold vZ;have h:=(afJ k k.size).1;rw[alu h];have:=Int.emod_lt_of_pos (hTo k k.size) (b:=(m:Int)) (by omega);omega
theorem ahm (k:ByteArray) (m:Nat) (hm:0<m) (hm2:m<=2^20) (w:θ) (hk:k.size<=2^63 - 1):H9 k (m:Int) w λr w'=>r=(vZ k m:Int)/\w'=w:=by
 apply Y_;refine gI (λst W=>(∃i:Nat,i<=k.size/\st.2.1=i/\st.1=hTo k i)/\W=w) (λst _=>k.size - st.2.1.toNat) ⟨⟨0,by omega,rfl,rfl⟩,rfl⟩ ?_;rintro⟨x,y,⟨⟩⟩ W ⟨⟨i,hi,rfl,rfl⟩,rfl⟩ next u
 by_cases I:i<k.size
 ·have h:((i:Int)<(k.size:Int)):=by omega
  simp only[h,ace,aaU];have hg:k[i]? =some k[i]:=by simp[I]
  refine⟨k[i],by omega,by simp,?_⟩;have e:ο.wrap ((i:Int)+1)=((i+1:Nat):Int):=by rw[Α];omega
  rw[e];refine u _ _ ⟨⟨i+1,by omega,rfl,?_⟩,rfl⟩ (by grind);simp only[hTo,hg]
 ·have h:¬((i:Int)<(k.size:Int)):=by omega
  simp only[h,acQ,aaT];have e1:IntKind.u32.wrap (m:Int)=m:=by rw[IntKind.wrap_u32];omega
  have:i=k.size:=by omega
  subst this;rw[e1];refine⟨by omega,?_,by trivial⟩;have h1:=EC k hm;have h2:Int.tmod (hTo k k.size) (m:Int)=(vZ k m:Int):=by
   unfold vZ;have:=Int.tmod_nonneg (m:Int) (afJ k k.size).1;omega
  rw[h2,Α]
theorem ac8 (tb:Nat) (x:Int) (w:θ):rG (some ⟨tb,0,none⟩) x w λr w'=>∃f0 f1,r= .func (.func zY) #[] #[(Value.pointer (some ⟨f0,0,none⟩)),(Value.pointer (some ⟨f1,0,none⟩))]/\
  Row w' f0 [.pointer (some ⟨tb,0,none⟩)]/\Row w' f1 [Β x]/\w.heap.size<=f0/\w.heap.size<=f1/\∀S,gV w w' S:=by
 apply Na;refine⟨rfl,um λa2 w1 r1 e1 _ f1=>⟨rfl,um λa4 w3 r3 e3 _ f3=>⟨a2,a4,rfl,r1.fr (f3 λ_=>False) (by simp),r3,by omega,by omega,λS=>(f1 S).trans (f3 S) λ_ _ e=>e⟩⟩⟩
theorem PE {w:θ} {b s:Nat} {L:List uQ} {many most:Int} (h:HT w b s L many most):nK (some ⟨b,0,none⟩) w λr w'=>r=true/\w'=w:=by
 apply KO;simp only[sx,h.hd.cell,afa];trivial
theorem gV.putObj (w:θ) (b:Nat) (o:Obj):gV w (w.putObj b o) (·=b):=
 ⟨by simp,λc _ hn=>by simp[World.putObj,alG];omega,rfl,rfl,rfl⟩
theorem toList_inj {a b:ByteArray} (h:a.toList=b.toList):a=b:=by
 rw[ByteArray.toList_eq,ByteArray.toList_eq] at h
 cases a;simp_all
theorem X8 {a b:ByteArray}:strEq a b=true↔a=b:=by
 unfold strEq;constructor
 ·intro h;exact toList_inj (by simpa using h)
 simp_all
theorem SI {w:θ} {T:TypeId} {x y z x' y' z':Value} {K:Addr->b_} (h1:iI x'=true) (h2:iI y'=true) (h3:iI z'=true)
  (h:∀a w',Row w' a [x',y',z']->w.heap.size<=a->(∀S,gV w w' S)->K ⟨a,0,none⟩ w'):
  Al w (.cells ⟨[x,y,z]⟩ T) λa w1=>St w1 (a.add 0) x' λw2=>St w2 (a.add 1) y' λw3=>St w3 (a.add 2) z' λw4=>K a w4:=by
 refine um λa w1 r1 e1 _ f1=> ?_;simp only[sx];refine gY r1 h1 (by simp) λw2 r2 f2 _=> ?_;refine gY r2 h2 (by simp) λw3 r3 f3 _=> ?_;refine gY r3 h3 (by simp) λw4 r4 f4 _=> ?_;refine h a w4 r4 (by omega) λS=> ?_;exact(((f1 S).trans (f2 (·=a) rfl) λx hx e=>by omega).trans (f3 (·=a) rfl) λx hx e=>by omega).trans (f4 (·=a) rfl) λx hx e=>by omega
def aeL (L:List uQ) (k:ByteArray) (at_:Int) (t:Bool):Prop:=
 ∃d,First L (vZ k L.length) k d/\at_=((cy L.length (vZ k L.length+d):Nat):Int)/\
  ((t=true/\∃n,L[cy L.length (vZ k L.length+d)]? =some (some (k,n)))\/(t=false/\L[cy L.length (vZ k L.length+d)]? =some none))
structure FI (w W:θ) (S:Nat->Prop):Prop where
 fr:gV w W S
 mark:W.heap[w.heap.size]? =some (.deferred (some []))
 size:w.heap.size+2<=W.heap.size
theorem FI.st {w W W':θ} {S:Nat->Prop} (h:FI w W S) (hf:gV W W' (·=w.heap.size+1)):FI w W' S:=
 ⟨h.fr.trans hf λb hb e=>by omega,by rw[hf.same _ (by have:=h.size;omega) (by omega)];exact h.mark,by have:=h.size;have:=hf.size;omega⟩
theorem Uf {w:θ} {b s:Nat} {L:List uQ} {many most:Int} {k:ByteArray} (h:HT w b s L many most) (U:L≠[]) (hk:k.size<=2^63 - 1) (hs:∃d,d<L.length/\Stop L (vZ k L.length) k d):
  jo (some ⟨b,0,none⟩) k w λat_ t w'=>aeL L k at_ t/\∀S,gV w w' S:=by
 apply BX;have I:0<L.length:=by omega
 have ab:=h.sz;have hh:=EC k I;refine⟨rfl,um λa2 w1 r2 e2 _ f1=>⟨rfl,um λa4 w3 r4 e4 _ f3=>um λa6 w5 r6 e6 _ f5=>um λa8 w7 r8 e8 _ f7=> ?_⟩⟩;have s1:=(f3 λ_=>False).size;have s5:=(f5 λ_=>False).size;have s7:=r2.lt;have l4:=r6.lt;have Y:=λS=>(((f1 S).trans (f3 S) λ_ _ e=>e).trans (f5 S) λ_ _ e=>e).trans (f7 S) λ_ _ e=>e;have h7:=h.LJ Y;have r2:=((r2.fr (f3 λ_=>False) (by simp)).fr (f5 λ_=>False) (by simp)).fr (f7 λ_=>False) (by simp);have r4:=(r4.fr (f5 λ_=>False) (by simp)).fr (f7 λ_=>False) (by simp);have r6:=r6.fr (f7 λ_=>False) (by simp);have hl0:((L.length:Int)==0)=false:=by simp;omega
 have h7d:=h7.LJ λS=>gV.drew _ S;have r2d:=r2.drew;have r4d:=r4.drew;simp only[sx,r2.cell,r2d.cell,r4d.cell,h7.hd.cell,h7d.hd.cell,hl0];refine cmS1 (ahm k L.length I ab w7.drew hk) ?_;rintro r w22 ⟨rfl,rfl⟩;refine⟨by simp[r2d.cell],?_⟩;refine cmS4 (ac8 b _ _) ?_;rintro r u ⟨g0,g1,rfl,q0,q1,lg0,lg1,f24⟩;have r2:=r2d.fr (f24 λ_=>False) (by simp);have r4:=r4d.fr (f24 λ_=>False) (by simp);have r6:=r6.drew.fr (f24 λ_=>False) (by simp);have r8:=r8.drew.fr (f24 λ_=>False) (by simp);have Z:=h7d.LJ f24;have f024:=λS=>((Y S).trans (gV.drew _ S) λ_ _ e=>e).trans (f24 S) λ_ _ e=>e;have l8:=r8.lt;have hb:=h.hd.lt;have hs7:w7.heap.size<=u.heap.size:=by omega
 have hsl:=(h.row U).lt;have lg0':=q1.lt;have hg0:=lg0;have hg1:=lg1;refine aaM (b:=b)
  (λi W=>(∀d,d<i->¬Stop L (vZ k L.length) k d)/\FI u W λ_=>False)
  (λe W=>e= .ret/\(FI u W λx=>x=a6\/x=a8)/\∃at_ t,Row W a6 [Β at_]/\Row W a8 [.bool t]/\aeL L k at_ t)
  (by omega) hh ?_ ?_ ?_ ?_ ?_ ?_ ?_ ?_ ?_
 ·exact λw1 hf hm hz=>⟨λd hd=>by omega,hf _,hm,by omega⟩
 ·exact λi W hI=>⟨q0.fr hI.2.fr (by simp),q1.fr hI.2.fr (by simp),_,by rw[(Z.hd.fr hI.2.fr (by simp)).cell];rfl⟩
 ·exact λi W W' hI hf=>⟨hI.1,hI.2.st hf⟩
 ·rintro e W W' ⟨rfl,hF,at_,t,ra,rt,hr⟩ hf;exact⟨by trivial,hF.st hf,at_,t,ra.fr hf (by omega),rt.fr hf (by omega),hr⟩
 ·simp_all
 ·rintro i W Kb hi ⟨J,hF⟩ hn hj;have hFz:=hF.size;have zb:=(gV.gu W (u.heap.size+1)).size;have fb:gV u (gu W (u.heap.size+1)) λ_=>False:=hF.fr.trans (gV.gu W _) λx hx e=>by omega
  have hW:=Z.fr fb (by simp) (by simp);have q2:=r2.fr fb (by simp);have q4:=r4.fr fb (by simp);have q6:=r6.fr fb (by simp);have q8:=r8.fr fb (by simp);refine⟨by trivial,?_⟩;simp only[wS,aeI,f_,gK,oU,q2.cell,hW.hd.cell];have hx:cy L.length (vZ k L.length+i)<L.length:=NV (by omega);have he:∃e,L[cy L.length (vZ k L.length+i)]? =some e:=⟨_,ade hx⟩;obtain⟨e,he⟩:=he;have c0:=hW.ent he 0 (by omega);have c1:=hW.ent he 1 (by omega);have c2:=hW.ent he 2 (by omega);refine rZ (b:=s) (o:=0) (by simp[slA,U]) (by omega) (by simp_all) ?_;simp only[ab3,ahO];simp only[aki] at c0;simp only[sx,c0,c1,c2,QZ];refine SI rfl rfl rfl λa37 N ac e37 f40=> ?_;have fb40:=fb.trans (f40 _) λ_ _ e=>e;have l40:=(f40 λ_=>False).size;have q6:=q6.fr (f40 λ_=>False) (by simp);have q8:=q8.fr (f40 λ_=>False) (by simp);have q4:=q4.fr (f40 λ_=>False) (by simp);have hm40:N.heap[u.heap.size]? =some (.deferred (some [])):=by rw[(f40 λ_=>False).same _ (by omega) (by simp),(gV.gu W _).same _ (by omega) (by omega)];exact hF.mark
  have hk40:N.heap[u.heap.size+1]? =(gu W (u.heap.size+1)).heap[u.heap.size+1]? :=(f40 λ_=>False).same _ (by omega) (by simp);have out:∀(v:Int) (t:Bool),aeL L k v t->St N ⟨a6,0,none⟩ (Β v) λaa=>St aa ⟨a8,0,none⟩ (Value.bool t) λO=>Kb .ret O:=by
   intro v t hr;refine gY q6 rfl (by simp) λaa ae f42 z42=> ?_;refine gY (q8.fr (f42 (·=a6) rfl) (by omega)) rfl (by simp) λO af f43 z43=> ?_;have f0:gV N O λx=>x=a6\/x=a8:=(f42 _ (.inl rfl)).trans (f43 _ (.inr rfl)) λ_ _ e=>e;refine hj _ _ ?_ ⟨rfl,⟨(fb40.mono λ_ e=>e.elim).trans f0 λ_ _ e=>e,?_,by omega⟩,v,t,(ae.fr (f43 (·=a8) rfl) (by omega)),af,hr⟩
   ·rw[f0.same _ (by omega) (by omega)];exact hk40
   ·rw[f0.same _ (by omega) (by omega)];exact hm40
  simp only[sx,ac.cell,q4.cell]
  cases e with
  |none=>
   simp only[eU,afa,aaU];exact out _ _ ⟨i,⟨hi,.inl he,J⟩,rfl,.inr ⟨rfl,he⟩⟩
  |some x=>
   obtain⟨k',n'⟩:=x;simp only[eU,adp,aaT,aaT,N7]
   cases R:strEq k' k with
   |true=>
    have:=X8.1 R;subst this;simp only[aaU];exact out _ _ ⟨i,⟨hi,.inr ⟨_,he⟩,J⟩,rfl,.inl ⟨rfl,_,he⟩⟩
   |false=>
    simp only[aaT];refine hn _ hk40 ⟨λd hd=> ?_,fb40,hm40,by omega⟩;by_cases ag:d=i
    ·subst ag;rintro(h1|⟨n,h1⟩)
     ·simp_all
     ·rw[he] at h1;cases h1;rw[X8.2 rfl] at R;cases R
    grind
 ·rintro W ⟨J,_⟩;obtain⟨d,hd,ah⟩:=hs;exact absurd ah (J d hd)
 ·rintro W ⟨_,hF,at_,t,ra,rt,hr⟩;refine⟨hF.mark,?_⟩;have pf:=gV.putObj W u.heap.size (.deferred none);simp only[aeI,f_,gq,jf,(ra.fr pf (by omega)).cell,(rt.fr pf (by omega)).cell];refine⟨hr,λS=> ?_⟩;exact((f024 S).trans hF.fr λx hx e=>by omega).trans pf λx hx e=>by omega
 ·rintro id W ⟨h,_⟩
  cases h
theorem adQ {w:θ} {b s:Nat} {many most:Int} {k:ByteArray} (h:HT w b s [] many most):
  jo (some ⟨b,0,none⟩) k w λat_ t w'=>t=false/\∀S,gV w w' S:=by
 apply BX;refine⟨rfl,um λa2 w1 r2 e2 _ f1=>⟨rfl,um λa4 w3 r4 e4 _ f3=>um λa6 w5 r6 e6 _ f5=>um λa8 w7 r8 e8 _ f7=> ?_⟩⟩;have s1:=(f3 λ_=>False).size;have s5:=(f7 λ_=>False).size;have l6:=r6.lt;have u:=λS=>(((f1 S).trans (f3 S) λ_ _ e=>e).trans (f5 S) λ_ _ e=>e).trans (f7 S) λ_ _ e=>e;have h7:=h.LJ u;have r2:=((r2.fr (f3 λ_=>False) (by simp)).fr (f5 λ_=>False) (by simp)).fr (f7 λ_=>False) (by simp);have r6:=r6.fr (f7 λ_=>False) (by simp);simp only[sx,r2.cell,h7.hd.cell,alU,Int.natCast_zero,amC];refine gY r6 rfl (by simp) λw12 I f12 _=> ?_;refine gY (r8.fr (f12 (·=a6) rfl) (by omega)) rfl (by simp) λw13 J f13 _=> ?_;simp only[(I.fr (f13 (·=a8) rfl) (by omega)).cell,J.cell];exact⟨by trivial,λS=>((u S).trans (f12 (·=a6) rfl) λx hx e=>by omega).trans (f13 (·=a8) rfl) λx hx e=>by omega⟩
structure TB (w:θ) (b s:Nat) (L:List uQ) (most:Int) (M:ByteArray->Option Int):Prop where
 ht:HT w b s L (cnt L:Int) most
 t:T (λk=>vZ k L.length) L λ_ _=>False
 free:2 * cnt L<=L.length
 m:∀k n,M k=some n↔Has L k n
 most0:0<=most
 most1:most<=65536
 sz:L.length<=262144
 nils:L=[]->s=b
 keys:∀k n,Has L k n->k.size<=2^63 - 1
theorem TB.fr {w w':θ} {b s:Nat} {L:List uQ} {most:Int} {M:ByteArray->Option Int} {S:Nat->Prop} (h:TB w b s L most M) (hf:gV w w' S) (h1:¬S b) (h2:¬S s):TB w' b s L most M:=
 ⟨h.ht.fr hf h1 λ_=>h2,h.t,h.free,h.m,h.most0,h.most1,h.sz,h.nils,h.keys⟩
theorem TB.LJ {w w':θ} {b s:Nat} {L:List uQ} {most:Int} {M:ByteArray->Option Int} (h:TB w b s L most M) (hf:∀S,gV w w' S):TB w' b s L most M:=
 h.fr (hf λ_=>False) (by simp) (by simp)
theorem TB.Us {w:θ} {b s:Nat} {L:List uQ} {most:Int} {M:ByteArray->Option Int} (h:TB w b s L most M) (k:ByteArray):M k=none↔∀n,¬Has L k n:=by
 constructor
 ·intro hn n hx;rw[(h.m k n).2 hx] at hn;cases hn
 ·intro hn
  cases hx:M k with
  |none=>rfl
  |some n=>exact absurd ((h.m k n).1 hx) (hn n)
theorem TB.pos {w:θ} {b s:Nat} {L:List uQ} {most:Int} {M:ByteArray->Option Int} (_:TB w b s L most M) (hne:L≠[]):0<L.length:=by
 grind
theorem Oc {w:θ} {b s:Nat} {L:List uQ} {most:Int} {M:ByteArray->Option Int} (h:TB w b s L most M) (k:ByteArray) (hk:k.size<=2^63 - 1):
  jo (some ⟨b,0,none⟩) k w λat_ t w'=>(∀S,gV w w' S)/\
   ((t=true/\∃(i:Nat) (n:Int),at_=(i:Int)/\L[i]? =some (some (k,n))/\M k=some n)\/
    (t=false/\M k=none/\(L≠[]->∃d,First L (vZ k L.length) k d/\at_=((cy L.length (vZ k L.length+d):Nat):Int)))):=by
 by_cases u:L=[]
 ·subst u;refine cmS3 (adQ h.ht) ?_;rintro at_ t w' ⟨rfl,hf⟩;refine⟨hf,.inr ⟨rfl,(h.Us k).2 ?_,λhx=>absurd rfl hx⟩⟩;rintro n ⟨i,hi⟩;simp at hi
 ·have I:=h.pos u;have hh:=EC k I;have hfr:=h.free;obtain⟨i,hi⟩:=RZ (L:=L) (by omega);refine cmS3 (Uf h.ht u hk (GK hh hi)) ?_;rintro at_ t w' ⟨⟨d,hd,rfl,⟨rfl,n,hn⟩|⟨rfl,hn⟩⟩,hf⟩
  ·exact⟨hf,.inl ⟨rfl,_,n,rfl,hn,(h.m k n).2 ⟨_,hn⟩⟩⟩
  ·refine⟨hf,.inr ⟨rfl,(h.Us k).2 ?_,λ_=>⟨d,hd,rfl⟩⟩⟩;rintro n ⟨i,hi⟩;have:=ϛ h.t (λ_ _ x=>x) hh hi hd
   simp_all
theorem YI {w:θ} {b s:Nat} {L:List uQ} {most:Int} {M:ByteArray->Option Int} (h:TB w b s L most M) (k:ByteArray) (hk:k.size<=2^63 - 1):
  oZ (some ⟨b,0,none⟩) k w λn t w'=>(∀S,gV w w' S)/\t=(M k).isSome/\n=(M k).getD 0:=by
 apply Oy;refine cmS0 (PE h.ht) ?_;rintro r w2 ⟨rfl,rfl⟩;simp only[adp,aaT];refine cmS3 (Oc h k hk) ?_;rintro at_ t w' ⟨hf,⟨rfl,i,n,rfl,hi,hM⟩|⟨rfl,hM,_⟩⟩
 ·have h':=h.LJ hf;have u:L≠[]:=by grind
  have hlt:=(aeK.1 hi).1;simp only[sx,adp,h'.ht.hd.cell];refine rZ (b:=s) (o:=0) (by simp[slA,u]) (by omega) (by simp_all) ?_;simp only[sx,ab3,h'.ht.ent hi 1 (by omega),QZ,eN]
  simp_all
 ·simp only[afa,aaU]
  simp_all
theorem YJ (n:Int) (w:θ):Bj n w λp e w'=>
  (∀S,gV w w' S)/\((0<=n/\n<=65536/\e=0/\∃b,p=some ⟨b,0,none⟩/\w.heap.size<=b/\TB w' b b [] n λ_=>none)\/((n<0\/65536<n)/\e=1/\p=none)):=by
 apply ϯ;by_cases c1:n<0
 ·simp only[c1,ace,aaU];exact⟨λS=>gV.refl _ _,.inr ⟨.inl (by trivial),by trivial,by trivial⟩⟩
 ·by_cases c2:n>65536
  ·simp only[c1,c2,ace,acQ,aaU,aaT];exact⟨λS=>gV.refl _ _,.inr ⟨.inr (by trivial),by trivial,by trivial⟩⟩
  ·simp only[c1,c2,acQ,aaT];refine um λa w3 r3 e3 _ f3=>⟨f3,.inl ⟨by omega,by omega,by trivial,a,rfl,by omega,?_⟩⟩;exact⟨⟨r3,λh=>absurd rfl h,λh=>absurd rfl h,by simp⟩,⟨λi j k n n' h=>by simp at h,λi k n h=>by simp at h⟩,by simp[cnt],λk n=>⟨λh=>by simp at h,λ⟨i,hi⟩=>by simp at hi⟩,by omega,by omega,by simp,λ_=>rfl,λk n ⟨i,hi⟩=>by simp at hi⟩
def tr (e:uQ):ByteArray×Int×Bool:=(N7 e,eN e,eU e)
def f3 (x:ByteArray×Int×Bool):List Value:=[.string x.1,Β x.2.1,.bool x.2.2]
theorem acK (L:List uQ):L.flatMap QZ=(L.map tr).flatMap f3:=by rw[List.flatMap_map];rfl
theorem abL (L:List uQ) (i:Nat) (e:uQ):(L.map tr).set i (tr e)=(L.set i e).map tr:=by simp
theorem HT.agc {w w':θ} {b s:Nat} {L L':List uQ} {many most:Int} (h:HT w b s L many most) (hn:L≠[]) (hl:L'.length=L.length) (hf:gV w w' (·=s)) (hr:Row w' s (L'.flatMap QZ)):HT w' b s L' many most:=by
 have hn':L'≠[]:=by grind
 refine⟨?_,λ_=>hr,λ_=>h.ne hn,by rw[hl];exact h.sz⟩;have:=h.hd.fr hf (h.ne hn);rw[show slA s L=slA s L' by simp[slA,hn,hn'],<- hl] at this;exact this
theorem Td {w:θ} {b s i:Nat} {L:List uQ} {many most:Int} (h:HT w b s L many most) (hi:i<L.length) (e:uQ) {K:b_} (hK:∀w',HT w' b s (L.set i e) many most->gV w w' (·=s)->K w'):
  St w ⟨s,i * 3,none⟩ (.string (N7 e)) λw1=>St w1 ⟨s,i * 3+1,none⟩ (Β (eN e)) λw2=>St w2 ⟨s,i * 3+2,none⟩ (.bool (eU e)) K:=by
 have hn:L≠[]:=by grind
 have hr:=h.row hn;have hlen:=iU _ 3 Iy L;refine gY hr rfl (by omega) λw1 r1 f1 _=> ?_;refine gY r1 rfl (by grind) λw2 r2 f2 _=> ?_;refine gY r2 rfl (by grind) λw3 r3 f3' _=> ?_;have hf:=((f1 (·=s) rfl).trans (f2 (·=s) rfl) λ_ _ e=>e).trans (f3' (·=s) rfl) λ_ _ e=>e;refine hK w3 (h.agc hn (by simp) hf ?_) hf;rw[acK] at r3;have g0:(L.map tr)[i]? =some (tr L[i]):=by simp[hi]
 have hl:i<(L.map tr).length:=by simp_all
 have e0:=IE f3 3 (λ_=>rfl) (L.map tr) i 0 (tr L[i]) (N7 e,(tr L[i]).2) (.string (N7 e)) (by omega) g0 rfl;have e1:=IE f3 3 (λ_=>rfl) ((L.map tr).set i (N7 e,(tr L[i]).2)) i 1 (N7 e,(tr L[i]).2) (N7 e,eN e,(tr L[i]).2.2) (Β (eN e)) (by omega) (by simp[hi]) rfl;have e2:=IE f3 3 (λ_=>rfl) (((L.map tr).set i (N7 e,(tr L[i]).2)).set i (N7 e,eN e,(tr L[i]).2.2)) i 2 (N7 e,eN e,(tr L[i]).2.2) (tr e) (.bool (eU e)) (by omega) (by simp[hi]) rfl;rw[aki] at e0;rw[e0,e1,e2] at r3;rw[set_set,set_set,abL,<- acK] at r3;exact r3
theorem aiV {w:θ} {b s i:Nat} {L:List uQ} {many most n n':Int} {k:ByteArray} (h:HT w b s L many most) (hi:L[i]? =some (some (k,n))) {K:b_} (hK:∀w',HT w' b s (L.set i (some (k,n'))) many most->gV w w' (·=s)->K w'):
  St w ⟨s,i * 3+1,none⟩ (Β n') K:=by
 have hn:L≠[]:=by grind
 have hlt:=(aeK.1 hi).1;have hlen:=iU _ 3 Iy L;refine gY (h.row hn) rfl (by omega) λw1 r1 f1 _=>hK w1 (h.agc hn (by simp) (f1 (·=s) rfl) ?_) (f1 (·=s) rfl);rw[IE QZ 3 Iy L i 1 (some (k,n)) (some (k,n')) (Β n') (by omega) hi rfl] at r1;exact r1
theorem acp {w:θ} {b s:Nat} {L:List uQ} {many many' most:Int} (h:HT w b s L many most) {K:b_} (hK:∀w',HT w' b s L many' most->gV w w' (·=b)->K w'):St w ⟨b,1,none⟩ (Β many') K:=by
 refine gY h.hd rfl (by simp) λw1 r1 f1 _=>hK w1 ⟨r1,λhn=>(h.row hn).fr (f1 (·=b) rfl) (λe=>h.ne hn e.symm),h.ne,h.sz⟩ (f1 (·=b) rfl)
theorem TK (a b:List uQ):cnt (a++b)=cnt a+cnt b:=by
 induction a with
 |nil=>simp[cnt]
 |cons x a ih=>cases x<;>simp only[alr,cnt,ih]<;>omega
theorem Ud (a:List uQ) (e:uQ) (k:ByteArray) (n:Int):Has (a++[e]) k n↔Has a k n\/e=some (k,n):=by
 constructor
 ·rintro⟨i,hi⟩;by_cases h:i<a.length
  ·rw[alk h] at hi;exact .inl ⟨i,hi⟩
  grind
 ·rintro(⟨i,hi⟩|h)
  ·exact⟨i,by grind⟩
  ·exact⟨a.length,by simp[h]⟩
theorem agu (n:Nat):gX [Value.string (bs []),Β 0,Value.bool false] n=(List.replicate n (none:uQ)).flatMap QZ:=by
 induction n with
 |zero=>rfl
 |succ n ih=>rw[alB,ak0,<- ih];rfl
theorem afL {L:List uQ} {i:Nat} {k:ByteArray} {n:Int} (h:Has (L.take i) k n):∃j:Nat,j<i/\L[j]? =some (some (k,n)):=by
 obtain⟨j,hj⟩:=h
 grind
theorem afM {w:θ} {b s:Nat} {L:List uQ} {most:Int} {M:ByteArray->Option Int} (h:TB w b s L most M) (hc:(cnt L:Int)<most):
  wG (some ⟨b,0,none⟩) w λw'=>∃s' L',TB w' b s' L' most M/\cnt L'=cnt L/\2 * (cnt L+1)<=L'.length/\gV w w' (·=b)/\(s'=s\/w.heap.size<=s'):=by
 apply M_;have hd:=h.LJ λS=>gV.drew _ S;have hm1:=h.most1;have e1:ο.wrap ((cnt L:Int)+1)=((cnt L+1:Nat):Int):=by rw[Α];omega
 have e2:ο.wrap (2 * ((cnt L+1:Nat):Int))=((2 * (cnt L+1):Nat):Int):=by rw[Α];omega
 simp only[sx,hd.ht.hd.cell];rw[e1,e2];by_cases aj:2 * (cnt L+1)<=L.length
 ·have N:(((2 * (cnt L+1):Nat):Int)<=(L.length:Int)):=by omega
  simp only[N,ace,aaU];exact⟨s,L,hd,rfl,aj,gV.drew _ _,.inl rfl⟩
 ·have N:¬(((2 * (cnt L+1):Nat):Int)<=(L.length:Int)):=by omega
  simp only[N,acQ,aaT];have hlen:L.length<131072:=by omega
  have e3:ο.wrap (2 * (L.length:Int))=((2 * L.length:Nat):Int):=by rw[Α];omega
  rw[e3];obtain⟨m,hm,ak⟩:∃m:Nat,(if ((2 * L.length:Nat):Int)>8 then ((2 * L.length:Nat):Int) else 8)=(m:Int)/\(8<=m/\2 * L.length<=m/\m<=262144):=by
   split
   ·grind
   ·exact⟨8,rfl,by omega,by omega,by omega⟩
  obtain⟨m8,m2,mm⟩:=ak;rw[hm];refine HY (by omega) (by omega) (by omega) (by omega) λs' w8 r8 hs' z8 f8=> ?_;rw[ab3,agu] at r8;simp only[ab3];have h8:=hd.LJ f8;have l8:=h.ht.hd.lt;have hdw:w.drew.heap.size=w.heap.size:=rfl;refine gY h8.ht.hd rfl (by simp) λw10 ag f10 z10=> ?_;simp only[af7] at ag;have hb10:=((gV.drew w _).trans (f8 (·=b)) λ_ _ e=>e).trans (f10 (·=b) rfl) λ_ _ e=>e;have nl:∀A:List uQ,A.length=m->slA s' A=some ⟨s',0,none⟩:=λA hA=>by
   have:A≠[]:=by grind
   simp[slA,this]
  have old:L≠[]->s≠b/\s<w.heap.size:=λhn=>⟨λe=>h.ht.ne hn e.symm,(h.ht.row hn).lt⟩;refine gI (λst W=>(∃i:Nat,i<=L.length/\st.1=i/\∃L2:List uQ,L2.length=m/\HT W b s' L2 (cnt L:Int) most/\T (λk=>vZ k m) L2 (λ_ _=>False)/\cnt L2=cnt (L.take i)/\∀k n,Has L2 k n↔Has (L.take i) k n)/\gV w W (·=b)) (λst _=>L.length - st.1.toNat)
   ⟨⟨0,by omega,rfl,List.replicate m none,by simp,⟨?_,λ_=>r8.fr (f10 (·=b) rfl) (by omega),λ_=>by omega,by simp;omega⟩,⟨λi j k n n' hi=> ?_,λi k n hi=> ?_⟩,by simp[ag2,cnt],λk n=>⟨λ⟨i,hi⟩=> ?_,λ⟨i,hi⟩=>by simp at hi⟩⟩,hb10⟩ ?_
  ·rw[nl _ (by simp)];simpa using ag
  ·grind
  ·grind
  ·rw[alY] at hi;split at hi<;>cases hi
  rintro⟨x,⟨⟩⟩ W ⟨⟨i,hi,rfl,L2,hl2,hT,tt,I,u⟩,hF⟩ next J
  have hFz:=hF.size;by_cases ah:i<L.length
  ·have O:((i:Int)<(L.length:Int)):=by omega
   simp only[O,ace,aaU];have hn:L≠[]:=by grind
   obtain⟨am,hsl⟩:=old hn;have U:=ade ah;generalize hE:L[i]=e at U;have Z:=(h.ht.row hn).fr hF am;have cell:∀j,j<3->W.cell? ⟨s,i * 3+j,none⟩=(QZ e)[j]? :=λj hj=>by rw[Z.cell,flat_get _ 3 Iy _ _ j hj,U];rfl
   refine rZ (b:=s) (o:=0) (by simp[slA,hn]) (by omega) (by trivial) ?_;have c0:=cell 0 (by omega);rw[aki] at c0;simp only[sx,ab3,c0,cell 1 (by omega),cell 2 (by omega),QZ];refine SI rfl rfl rfl λa21 w24 ai l24 f24=> ?_;have e4:ο.wrap ((i:Int)+1)=((i+1:Nat):Int):=by rw[Α];omega
   have Y:L.take (i+1)=L.take i++[e]:=by rw[aj3 ah,hE]
   have hF24:=hF.trans (f24 _) λ_ _ e=>e;have hT24:=hT.LJ f24;simp only[sx,ai.cell,e4]
   cases e with
   |none=>
    simp only[eU,aaT];refine J _ _ ⟨⟨i+1,by omega,rfl,L2,hl2,hT24,tt,?_,λk n=> ?_⟩,hF24⟩ (by omega)
    ·rw[Y,TK,I];simp[cnt]
    ·rw[u,Y,Ud];simp
   |some x=>
    obtain⟨k,n⟩:=x;simp only[eU,N7,aaU,aaU];have aa:Has L k n:=⟨i,U⟩;have ab:∀n,¬Has L2 k n:=λn' hx=>by
     obtain⟨j,hj,an⟩:=afL ((u k n').1 hx);have:=h.t.dist _ _ _ _ _ an U;omega
    have ac:0<L2.length:=by omega
    have hh:=EC k ac;have ae:cnt L2<L2.length:=by
     have h1:=cnt_le (L.take i)
     grind
    obtain⟨j0,hj0⟩:=RZ ae;have af:L2≠[]:=by grind
    refine cmS3 (Uf hT24 af (h.keys k n aa) (GK hh hj0)) ?_;rintro at_ t w29 ⟨⟨d,hd,rfl,⟨rfl,n',hn'⟩|⟨rfl,hn'⟩⟩,f29⟩
    ·exact absurd ⟨_,hn'⟩ (ab n')
    ·have hT29:=(hT24.LJ f29).LJ λS=>gV.drew _ S;have ao:=(ai.fr (f29 λ_=>False) (by simp)).drew;simp only[d_,f_,gK,gq,jf,RX,hT29.hd.cell,ao.cell];have hq:=(aeK.1 hn').1;refine rZ (nl L2 hl2) (by omega) (by simp_all) ?_;simp only[ab3,ahO];refine Td hT29 hq (some (k,n)) λw38 aq f38=> ?_;have R:=insert (n:=n) tt ab (by simp_all) (by rw[<- hl2];exact hd);rw[hl2] at R;refine J _ _ ⟨⟨i+1,by omega,rfl,_,by simp[hl2],aq,by rw[hl2];exact R,?_,λk' n''=> ?_⟩,?_⟩ (by omega)
     ·rw[JL hn',Y,TK,I];simp[cnt]
     ·rw[Gh hn' ab,Y,Ud,u]
      grind
     ·exact((hF24.trans (f29 _) λ_ _ e=>e).trans (gV.drew _ _) λ_ _ e=>e).trans f38 λx hx e=>by
       omega
  ·have O:¬((i:Int)<(L.length:Int)):=by omega
   simp only[O,acQ,aaT];have:i=L.length:=by omega
   subst this;rw[akY] at I u;refine⟨s',L2,⟨by rw[I];exact hT,by rw[hl2];exact tt,by have:=h.free;omega,λk n=>by rw[u];exact h.m k n,h.most0,h.most1,by omega,λhx=> ?_,λk n hx=>h.keys k n ((u k n).1 hx)⟩,I,by have:=h.free;omega,hF,.inr (by omega)⟩
   grind
def upd (M:ByteArray->Option Int) (k:ByteArray) (v:Option Int):ByteArray->Option Int:=λx=>if x=k then v else M x
theorem YK {w:θ} {b s:Nat} {L:List uQ} {most:Int} {M:ByteArray->Option Int} (h:TB w b s L most M) (k:ByteArray) (n:Int) (hk:k.size<=2^63 - 1):
  o9 (some ⟨b,0,none⟩) k n w λe w'=>
   (e=0/\(M k=none->(cnt L:Int)<most)/\∃s' L',TB w' b s' L' most (upd M k (some n))/\cnt L'=(if (M k).isSome then cnt L else cnt L+1)/\gV w w' (λx=>x=b\/x=s)/\(s'=s\/w.heap.size<=s'))\/
   (e=7/\M k=none/\most<=(cnt L:Int)/\∀S,gV w w' S):=by
 apply Oz;refine cmS0 (PE h.ht) ?_;rintro r w2 ⟨rfl,rfl⟩;simp only[adp,aaT];refine cmS3 (Oc h k hk) ?_;have hsz:=h.ht.sz;rintro at_ t w5 ⟨hf,⟨rfl,i,n0,rfl,hi,hM⟩|⟨rfl,hM,_⟩⟩
 ·have h':=h.LJ hf;have N:L≠[]:=by grind
  have hlt:=(aeK.1 hi).1;simp only[sx,h'.ht.hd.cell];refine rZ (b:=s) (o:=0) (by simp[slA,N]) (by omega) (by simp_all) ?_;simp only[sx,ab3];refine aiV h'.ht hi λw9 h9 f9=> .inl ⟨by trivial,λhx=>(by simp_all),s,_,⟨by rw[NT hi];exact h9,by simp only[alg];exact update h.t hi,by rw[NT hi,alg];exact h.free,λk' n'=> ?_,h.most0,h.most1,by simpa using h.sz,λhx=> ?_,λk' n' hx=>by
   rcases(Ue h.t hi k' n').1 hx with ⟨rfl,_⟩|⟨_,hx⟩
   ·exact hk
   ·exact h.keys _ _ hx⟩,by rw[NT hi,hM];rfl,?_,.inl rfl⟩
  ·rw[Ue h.t hi,upd];by_cases R:k'=k
   ·grind
   ·simp[R,h.m]
  ·simp_all
  ·exact(hf _).trans f9 λx hx e=> .inr e
 ·have h':=h.LJ hf;have hd:=h'.LJ λS=>gV.drew _ S;simp only[sx,hd.ht.hd.cell];by_cases I:(cnt L:Int)>=most
  ·simp only[I,ace,aaU];exact .inr ⟨by trivial,hM,by trivial,λS=>(hf S).trans (gV.drew _ S) λ_ _ e=>e⟩
  ·simp only[I,acQ,aaT];refine cmS6 (afM hd (by omega)) ?_;rintro w14 ⟨s',L',J,hc14,hroom,f14,hs'⟩;refine cmS3 (Oc J k hk) ?_;have N:L'≠[]:=by grind
   have U:=J.pos N;rintro at_ t w17 ⟨f17,⟨_,i,n0,_,_,hM'⟩|⟨_,_,W⟩⟩
   ·rw[hM] at hM';cases hM'
   ·obtain⟨d,Y,rfl⟩:=W N;have Z:=J.LJ f17;have O:=(J.Us k).1 hM;have hh:=EC k U;obtain⟨u,_⟩:=MJ O hh Y;have hq:=(aeK.1 u).1;simp only[aeI,f_,gK,Z.ht.hd.cell];refine rZ (b:=s') (o:=0) (by simp[slA,N]) (by omega) (by simp_all) ?_;simp only[ab3,ahO];refine Td Z.ht hq (some (k,n)) λw23 aa f23=> ?_;simp only[aa.hd.cell,Yf,d_,f_,gq,ahO];have hm1:=h.most1;have e1:ο.wrap ((cnt L':Int)+1)=((cnt L'+1:Nat):Int):=by rw[Α];omega
    rw[e1];refine acp aa λw27 ab f27=> ?_;refine .inl ⟨by trivial,λ_=>by omega,s',_,⟨by rw[JL u];exact ab,by simp only[alg];exact insert J.t O hh Y,by rw[JL u,alg];omega,λk' n'=> ?_,h.most0,h.most1,by simpa using J.sz,λhx=> ?_,λk' n' hx=>by
     rcases(Gh u O k' n').1 hx with ⟨rfl,_⟩|⟨_,hx⟩
     ·exact hk
     ·exact J.keys _ _ hx⟩,by rw[JL u,hM,hc14];rfl,?_,?_⟩
    ·rw[Gh u O,upd];by_cases R:k'=k
     ·grind
     ·simp[R,J.m]
    ·simp_all
    ·have hz:=(hf λ_=>False).size;have hdz:w5.drew.heap.size=w5.heap.size:=rfl;refine(((((hf _).trans (gV.drew _ _) λ_ _ e=>e).trans f14 λx hx e=> .inl e).trans (f17 _) λ_ _ e=>e).trans f23 λx hx e=> ?_).trans f27 λx hx e=> .inl e;omega
    ·have hz:=(hf λ_=>False).size
     simp_all;omega
theorem ake {m a i:Nat} (ha:a<m) (hi:i<m):cy m (cy m (a+1)+i)=cy m (a+(i+1)):=by
 have c1:=cyc m (a+1);have c2:=cyc m (cy m (a+1)+i);have c3:=cyc m (a+(i+1));omega
structure Mid (w:θ) (b s:Nat) (L Lc:List uQ) (k:ByteArray) (most:Int) (X:Nat->Nat->Prop):Prop where
 ht:HT w b s Lc ((cnt L - 1:Nat):Int) most
 len:Lc.length=L.length
 t:T (λk=>vZ k L.length) Lc X
 has:∀k' n',Has Lc k' n'↔k'≠k/\Has L k' n'
 cnt:cnt Lc=Hash.cnt L - 1
theorem Mid.fr {w w':θ} {b s:Nat} {L Lc:List uQ} {k:ByteArray} {most:Int} {X:Nat->Nat->Prop} {S:Nat->Prop} (h:Mid w b s L Lc k most X) (hf:gV w w' S) (h1:¬S b) (h2:¬S s):Mid w' b s L Lc k most X:=
 ⟨h.ht.fr hf h1 λ_=>h2,h.len,h.t,h.has,h.cnt⟩
theorem aiy {H:ByteArray->Nat} {L:List uQ} {X Y:Nat->Nat->Prop} (t:T H L X) (h:∀i p,X i p->Y i p):T H L Y:=
 ⟨t.dist,λi k n hi=>by obtain⟨D,h1,h2,h3⟩:=t.reach i k n hi;grind⟩
theorem MN {w:θ} {b s:Nat} {L:List uQ} {most:Int} {M:ByteArray->Option Int} (h:TB w b s L most M) (k:ByteArray) (hk:k.size<=2^63 - 1):
  mJ (some ⟨b,0,none⟩) k w λr w'=>r=(M k).isSome/\(∃L',TB w' b s L' most (upd M k none)/\cnt L'+(if (M k).isSome then 1 else 0)=cnt L)/\gV w w' (λx=>x=b\/x=s):=by
 apply I4;have hsz:=h.ht.sz;refine⟨rfl,um λa2 w1 q2 e2 z2 f1=> ?_⟩;have h1:=h.LJ f1;simp only[sx,q2.cell];refine cmS0 (PE h1.ht) ?_;rintro r w5 ⟨rfl,rfl⟩;simp only[adp,aaT,aeI,f_,oU,q2.cell];refine cmS3 (Oc h1 k hk) ?_;rintro at_ t w9 ⟨f9,⟨rfl,i0,n0,rfl,hi0,hM⟩|⟨rfl,hM,_⟩⟩
 case inr=>
  simp only[afa,aaU];refine⟨by simp[hM],⟨L,?_,by simp[hM]⟩,(f1 _).trans (f9 _) λ_ _ e=>e⟩;have h9:=h1.LJ f9;have:upd M k none=M:=by
   funext x;unfold upd
   simp_all
  rw[this];exact h9
 have h9:=h1.LJ f9;have ae:L≠[]:=by grind
 have U:=(aeK.1 hi0).1;have q2:=q2.fr (f9 λ_=>False) (by simp);simp only[adp,aaT,wS,aeI,f_,gK,oU,q2.cell,h9.ht.hd.cell];refine rZ (b:=s) (o:=0) (by simp[slA,ae]) (by omega) (by simp_all) ?_;simp only[ab3,ahO];have hbl:=h.ht.hd.lt;have hsl:=(h.ht.row ae).lt;refine Td h9.ht U none λw16 af f16=> ?_;have q2:=q2.fr f16 (by omega);have hcp:0<cnt L:=by have:=NU hi0;omega
 have hfree:=h.free;have e1:ο.wrap ((cnt L:Int) - 1)=((cnt L - 1:Nat):Int):=by rw[Α];omega
 simp only[sx,q2.cell,af.hd.cell,e1];refine acp af λao Y f21=> ?_;have q2:=q2.fr f21 (by omega);have Y:=Y.LJ λS=>gV.drew _ S;have q2:=q2.drew;have hb21:gV w ao.drew λx=>x=b\/x=s:=((((f1 _).trans (f9 _) λ_ _ e=>e).trans f16 λx hx e=> .inr e).trans f21 λx hx e=> .inl e).trans (gV.drew _ _) λ_ _ e=>e;have Z:0<L.length:=by omega
 have aq:(L.set i0 none).length=L.length:=alg;have e3:Int.tmod (ο.wrap ((i0:Int)+1)) ((L.set i0 none).length:Int)=((cy L.length (i0+1):Nat):Int):=by
  have:=ac2 (i:=1) (by omega) U (by omega)
  simp_all
 simp only[wS,aeI,f_,gK,oU,q2.cell,Y.hd.cell];refine⟨by omega,?_⟩;rw[e3];refine cmS4 (ac8 b _ _) ?_;rintro r u ⟨g0,g1,rfl,p0,p1,lg0,lg1,f31⟩;have ar:=Y.LJ f31;have q2:=q2.fr (f31 λ_=>False) (by simp);have hb31:=hb21.trans (f31 _) λ_ _ e=>e;have hz31:=q2.lt;have lp0:=p1.lt;have hz21:=hb21.size;obtain⟨e,he0,z0⟩:=aiu ⟨_,hi0⟩ (by omega);have hc0:cy L.length (i0+0)=i0:=by unfold cy;simp[U]
 have hH:=λk=>EC k Z;have t0:T (λk=>vZ k L.length) L (Xj L.length i0 e 0):=aiy h.t λi p hx=>hx.elim;have t1:=clear z0 he0 hH t0;have z1:=VI z0 he0;rw[hc0] at t1 z1;have he:=z0.e1;have mid0:Mid u b s L (L.set i0 none) k most (Xj L.length i0 e (0+1)):=⟨ar,aq,t1,PD h.t hi0,by have:=NU hi0;omega⟩;refine aaM (b:=b) (from_:=cy L.length (i0+1))
  (λi W=>i+1<=e/\FI u W (·=s)/\∃Lc,Mid W b s L Lc k most (Xj L.length i0 e (i+1))/\Zone Lc i0 e (i+1))
  (λx W=>x= .exit 0/\FI u W (·=s)/\∃Lc,Mid W b s L Lc k most λ_ _=>False)
  (by omega) (NV (by omega)) ?_ ?_ ?_ ?_ ?_ ?_ ?_ ?_ ?_
 ·exact λw1' hf hm hz=>⟨by omega,⟨hf _,hm,by omega⟩,_,mid0.fr (hf λ_=>False) (by simp) (by simp),z1⟩
 ·rintro i W ⟨_,hF,Lc,hm,_⟩;refine⟨p0.fr hF.fr (by omega),p1.fr hF.fr (by omega),slA s Lc,?_⟩;rw[hm.ht.hd.cell,<- hm.len];rfl
 ·rintro i W W' ⟨hi,hF,Lc,hm,hz⟩ hf;exact⟨hi,hF.st hf,Lc,hm.fr hf (by omega) (by omega),hz⟩
 ·rintro x W W' ⟨rfl,hF,Lc,hm⟩ hf;exact⟨by trivial,hF.st hf,Lc,hm.fr hf (by omega) (by omega)⟩
 ·simp_all
 ·rintro i W Kb hi ⟨hie,hF,Lc,hm,hz⟩ hn hj;have hFz:=hF.size;have zb:=(gV.gu W (u.heap.size+1)).size;have fb:gV u (gu W (u.heap.size+1)) (·=s):=hF.fr.trans (gV.gu W _) λx hx e=>by
   omega
  have hm:Mid (gu W (u.heap.size+1)) b s L Lc k most _:=hm.fr (gV.gu W _) (by omega) (by omega);have q2:=q2.fr fb (by omega);have O:=hm.len;rw[ake U hi];generalize hp:cy L.length (i0+(i+1))=p;have hpl:p<L.length:=by rw[<- hp];exact NV (by omega)
  have ag:Lc≠[]:=by grind
  refine⟨by trivial,?_⟩;simp only[wS,aeI,f_,gK,oU,q2.cell,hm.ht.hd.cell];obtain⟨x,hx⟩:∃x,Lc[p]? =some x:=⟨_,ade (by omega)⟩;have c0:=hm.ht.ent hx 0 (by omega);simp only[aki] at c0;refine rZ (b:=s) (o:=0) (by simp[slA,ag]) (by omega) (by simp_all) ?_;simp only[sx,ab3,c0,hm.ht.ent hx 1 (by omega),hm.ht.ent hx 2 (by omega),QZ];refine SI rfl rfl rfl λa44 ah aa l47 f47=> ?_;have fb47:=fb.trans (f47 _) λ_ _ e=>e;have z47:=(f47 λ_=>False).size;have hm47:=hm.fr (f47 λ_=>False) (by simp) (by simp);have q2:=q2.fr (f47 λ_=>False) (by simp);have hk47:ah.heap[u.heap.size+1]? =(gu W (u.heap.size+1)).heap[u.heap.size+1]? :=(f47 λ_=>False).same _ (by omega) (by simp);have hmk47:ah.heap[u.heap.size]? =some (.deferred (some [])):=by rw[(f47 λ_=>False).same _ (by omega) (by simp),(gV.gu W _).same _ (by omega) (by omega)];exact hF.mark
  simp only[sx,aa.cell]
  cases x with
  |none=>
   simp only[eU,afa,aaU];have hj1:¬i+1<e:=λab=>by
    obtain⟨y,hy⟩:=hz.full (i+1) (ai8 _) ab
    simp_all
   have:i+1=e:=by omega
   subst this;exact hj _ _ hk47 ⟨rfl,⟨fb47,hmk47,by omega⟩,Lc,hm47.ht,hm47.len,aiy hm47.t λi' p' hX=>akw _ _ _ _ _ hX,hm47.has,hm47.cnt⟩
  |some y=>
   obtain⟨k0,n0⟩:=y;have hj1:i+1<e:=by
    rcases Nat.lt_or_ge (i+1) e with h|h
    ·exact h
    ·have:i+1=e:=by omega
     have hf:=hz.free
     simp_all
   simp only[eU,adp,N7,eN,aaT,wS,aeI,f_,gK,oU,q2.cell,hm47.ht.hd.cell] at aa ⊢;refine rZ (b:=s) (o:=0) (by simp[slA,ag]) (by omega) (by simp_all) ?_;simp only[ab3,ahO];refine Td hm47.ht (by omega) none λw55 ai f55=> ?_;have q2:=q2.fr f55 (by omega);have aj:=aa.fr f55 (by omega);simp only[Yf,aeI,f_,oU,RX,ahO,q2.cell,aj.cell];have hx':Lc[cy Lc.length (i0+(i+1))]? =some (some (k0,n0)):=by simp_all
   have ak:=hm.t;rw[<- O] at ak;obtain⟨hex,R⟩:=aeG hz hj1 (by simp_all) ak hx';rw[O,hp] at hex;have N:(Lc.set p none).length=L.length:=by simp_all
   have hn1:Lc.set p none≠[]:=by simp_all
   obtain⟨d0,hd0⟩:=hex;have ac:=h.keys k0 n0 ((hm.has k0 n0).1 ⟨p,hx⟩).2;refine cmS3 (Uf ai hn1 ac ⟨d0,hd0.lt,by rw[N];exact hd0.stop⟩) ?_;rintro at1 t1 w60 ⟨⟨d,hd,rfl,_⟩,f60⟩;rw[N] at hd;have am:=(ai.LJ f60).LJ λS=>gV.drew _ S;have au:=(aj.fr (f60 λ_=>False) (by simp)).drew;have q2:=(q2.fr (f60 λ_=>False) (by simp)).drew;obtain⟨hz2,ht2,I,J⟩:=R d (by rw[O,hp];exact hd);rw[O,hp] at hz2 ht2 I J;have hqlt:cy L.length (vZ k0 L.length+d)<L.length:=NV (by have:=hd.lt;grind);simp only[wS,d_,f_,gK,gq,jf,oU,RX,q2.cell,au.cell,am.hd.cell];refine rZ (b:=s) (o:=0) (by simp[slA,hn1]) (by omega) (by simp_all) ?_;simp only[ab3,ahO];rw[N];refine Td am (by omega) (some (k0,n0)) λw70 av f70=> ?_;have f4770:=((f55.trans (f60 _) λ_ _ e=>e).trans (gV.drew _ _) λ_ _ e=>e).trans f70 λ_ _ e=>e;refine hn _ ?_ ⟨by omega,⟨fb47.trans f4770 λ_ _ e=>e,?_,by have:=f4770.size;omega⟩,_,⟨av,?_,ht2,λk' n'=> ?_,?_⟩,hz2⟩
   ·rw[f4770.same _ (by omega) (by omega)];exact hk47
   ·rw[f4770.same _ (by omega) (by omega)];exact hmk47
   ·simp[O]
   ·rw[I];exact hm.has k' n'
   ·rw[J];exact hm.cnt
 ·rintro W ⟨hi,_⟩;omega
 ·simp
 ·rintro id W ⟨hx,hF,Lc,hm⟩
  cases hx
  show wE _ _ _;refine⟨hF.mark,?_⟩;have pf:=gV.putObj W u.heap.size (.deferred none);have hm:=hm.fr pf (by omega) (by omega);refine⟨by simp[hM],⟨Lc,⟨?_,?_,?_,?_,h.most0,h.most1,?_,?_,?_⟩,?_⟩,?_⟩
  ·rw[hm.cnt];exact hm.ht
  ·have:=hm.t;rw[<- hm.len] at this;exact this
  ·have:=hm.cnt;have:=hm.len;omega
  ·intro k' n';rw[hm.has,upd];by_cases an:k'=k
   ·simp[an]
   ·simp[an,h.m]
  ·rw[hm.len];exact h.sz
  ·intro hx;have:=hm.len
   simp_all
  ·exact λk' n' hx=>h.keys k' n' ((hm.has k' n').1 hx).2
  ·have:=hm.cnt;grind
  ·exact(hb31.trans hF.fr λx hx e=> .inr e).trans pf λx hx e=>by
    omega
end Go.Proofs
end
section
namespace Gp.V4
def jY:Nat->Nat->List UInt8
 |0,_=>[]
 |k+1,n=>UInt8.ofNat (n / 256^k)::jY k n
def nY (l:List UInt8):Nat:=l.foldl (λn b=>n * 256+b.toNat) 0
theorem iT (k n:Nat):(jY k n).length=k:=by
 induction k with
 |zero=>rfl
 |succ k ih=>simp[jY,ih]
theorem ajb (l:List UInt8):∀n:Nat,l.foldl (λn b=>n * 256+b.toNat) n=n * 256^l.length+nY l:=by
 induction l with
 |nil=>intro n;simp[nY]
 |cons b l ih=>
  intro n;simp only[amh,nY,aiQ]
  grind
theorem Uu (b:UInt8) (l:List UInt8):nY (b::l)=b.toNat * 256^l.length+nY l:=by
 show (b::l).foldl _ 0=_;rw[amh,ajb];simp
theorem XV (k n:Nat):nY (jY k n)=n % 256^k:=by
 induction k with
 |zero=>simp[jY,nY,Nat.mod_one]
 |succ k ih=>
  rw[jY,Uu,iT,ih];have e:(UInt8.ofNat (n / 256^k)).toNat=n / 256^k % 256:=by simp
  rw[e,Nat.pow_succ,Nat.mod_mul,Nat.mul_comm (256^k),Nat.add_comm]
def tot:List UInt8->Nat
 |[]=>0
 |[a]=>a.toNat * 256
 |a::b::r=>a.toNat * 256+b.toNat+tot r
def fold (n:Nat):Nat:=if n=0 then 0 else (n - 1) % 65535+1
structure lV where
 tos:Int
 id:Int
 off:Int
 ttl:Int
 proto:Int
 src:Int
 dst:Int
 df:Bool
 mf:Bool
 opts:List UInt8
 data:List UInt8
deriving DecidableEq
def lV.zero:lV:=⟨0,0,0,0,0,0,0,false,false,[],[]⟩
def kV (k:Int):Prop:=1<=k/\k<=4
instance (k:Int):Decidable (kV k):=inferInstanceAs (Decidable (_/\_))
def jc (n k:Int):Prop:=kV k/\0<=n/\n<256^k.toNat
instance (n k:Int):Decidable (jc n k):=inferInstanceAs (Decidable (_/\_))
def kU (n:Int):Prop:=0<=n/\n<4294967296
instance (n:Int):Decidable (kU n):=inferInstanceAs (Decidable (_/\_))
def lV.fine (p:lV):Prop:=(jc p.tos 1/\jc p.ttl 1/\jc p.proto 1/\jc p.id 2)/\(kU p.src/\kU p.dst)/\
 (0<=p.off/\p.off<=65528/\Int.tmod p.off 8=0/\(p.mf=true->p.data.length % 8=0))/\p.opts.length<=40/\p.opts.length % 4=0
instance (p:lV):Decidable p.fine:=inferInstanceAs (Decidable (_/\_))
def lV.short (p:lV):Prop:=20+p.opts.length+p.data.length<=65535/\p.off<=65535 - (p.data.length:Int)
instance (p:lV):Decidable p.short:=inferInstanceAs (Decidable (_/\_))
def lV.bits (p:lV):Nat:=p.off.toNat / 8+(if p.df then 16384 else 0)+(if p.mf then 8192 else 0)
def lV.head (p:lV) (s:Nat):List UInt8:=
 jY 1 (64+(20+p.opts.length) / 4)++jY 1 p.tos.toNat++jY 2 (20+p.opts.length+p.data.length)++jY 2 p.id.toNat++jY 2 p.bits++jY 1 p.ttl.toNat++jY 1 p.proto.toNat++jY 2 s++jY 4 p.src.toNat++jY 4 p.dst.toNat++p.opts
def lV.sum (p:lV):Nat:=65535 - fold (tot (p.head 0))
def lV.bytes (p:lV):List UInt8:=p.head p.sum++p.data
def num (b:List UInt8) (at_ k:Nat):Nat:=nY ((b.drop at_).take k)
def hlen (b:List UInt8):Nat:=((b[0]?).getD 0).toNat % 16 * 4
def field (b:List UInt8):lV:=
 let f:=num b 6 2
 ⟨num b 1 1,num b 4 2,(f % 8192 * 8:Nat),num b 8 1,num b 9 1,num b 12 4,num b 16 4,f / 16384 % 2==1,f / 8192 % 2==1,(b.take (hlen b)).drop 20,(b.take (num b 2 2)).drop (hlen b)⟩
end Gp.V4
end
