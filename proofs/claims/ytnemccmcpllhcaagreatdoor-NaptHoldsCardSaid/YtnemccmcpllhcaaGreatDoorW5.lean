import Derived.Test.YtnemccmcpllhcaaGreatDoorG27
import Derived.Test.YtnemccmcpllhcaaGreatDoorW3
import Derived.Test.YtnemccmcpllhcaaGreatDoorW2
set_option maxRecDepth 100000
set_option maxHeartbeats 4000000
section
namespace Go.Proofs
open Gp
@[reducible] def aiL (a b c d e f g h i j k l m n o p q r:Int):List Value:= .int .i64 a:: .int .i64 b:: .int .i64 c:: .int .i64 d:: .int .i64 e:: .int .i64 f:: .int .i64 g:: .int .i64 h:: .int .i64 i:: .int .i64 j:: .int .i64 k:: .int .i64 l:: .int .i64 m:: .int .i64 n:: .int .i64 o:: .int .i64 p:: .int .i64 q:: .int .i64 r::[]
def EH (c d:Int) (e:Bool) (b:fU) (f g:Int) (w:θ) (K:fU->Int->b_):Prop:=
 f_ υ 336 [(.agg ⟨[.int .i64 c,.int .i64 d,.bool e,.slice b.a b.len b.cap]⟩),.int .i64 f,.int .i64 g] [.one .slice,.one ν] w K
def EI (c d:Int) (e:Bool) (b:fU) (w:θ) (K:Int->Int->Int->b_):Prop:=
 f_ υ 337 [(.agg ⟨[.int .i64 c,.int .i64 d,.bool e,.slice b.a b.len b.cap]⟩)] [.agg [ν,ν,ν]] w K
def FZ (c d:Int) (e:Bool) (b:fU) (f g:Int) (w:θ) (K:Value->b_):Prop:=
 f_ υ 338 [(.agg ⟨[.int .i64 c,.int .i64 d,.bool e,.slice b.a b.len b.cap]⟩),.int .i64 f,.int .i64 g] [.one .any] w K
def G_ (c d e f:Int) (g:Bool) (b:fU) (w:θ) (K:fU->Int->b_):Prop:=
 f_ υ 339 [.int .i64 c,.int .i64 d,(.agg ⟨[.int .i64 e,.int .i64 f,.bool g,.slice b.a b.len b.cap]⟩)] [.one .slice,.one ν] w K
def qg (a b:Int) (w:θ) (K:Int->b_):Prop:=
 f_ υ 340 [.int .i64 a,.int .i64 b] [.one ν] w K
def He (c d:Int) (e:Bool) (b:fU) (w:θ) (K:Int->b_):Prop:=
 f_ υ 341 [(.agg ⟨[.int .i64 c,.int .i64 d,.bool e,.slice b.a b.len b.cap]⟩)] [.one ν] w K
def EX (c d:Int) (b:fU) (w:θ) (K:Int->b_):Prop:=
 f_ υ 342 [.int .i64 c,.int .i64 d,.slice b.a b.len b.cap] [.one ν] w K
def F6 (a b c d e f g h:Int) (i j:fU) (k l:Int) (w:θ) (K:fU->Int->b_):Prop:=
 f_ υ 343 [.agg ⟨kX a b c d e f g h i j⟩,.int .i64 k,.int .i64 l] [.one .slice,.one ν] w K
def F7 (a b c d e f g h:Int) (i j:fU) (w:θ) (K:Int->Int->Int->b_):Prop:=
 f_ υ 344 [.agg ⟨kX a b c d e f g h i j⟩] [.agg [ν,ν,ν]] w K
def GX (a b c d e f g h:Int) (i j:fU) (k l:Int) (w:θ) (K:Value->b_):Prop:=
 f_ υ 345 [.agg ⟨kX a b c d e f g h i j⟩,.int .i64 k,.int .i64 l] [.one .any] w K
def G7 (a b c d e f g h i j:Int) (k l:fU) (w:θ) (K:fU->Int->b_):Prop:=
 f_ υ 346 [.int .i64 a,.int .i64 b,.agg ⟨kX c d e f g h i j k l⟩] [.one .slice,.one ν] w K
def G8 (a b c d e f g h:Int) (i j:fU) (w:θ) (K:Int->b_):Prop:=
 f_ υ 347 [.agg ⟨kX a b c d e f g h i j⟩] [.one ν] w K
def zJ (a b c d e f g h:Int) (i j:fU) (w:θ) (K:fU->b_):Prop:=
 f_ υ 348 [.agg ⟨kX a b c d e f g h i j⟩] [.one .slice] w K
def nR (b:fU) (w:θ) (K:fU->b_):Prop:=
 f_ υ 349 [.slice b.a b.len b.cap] [.one .slice] w K
def o9 (b:fU) (c:Int) (w:θ) (K:fU->b_):Prop:=
 f_ υ 350 [.slice b.a b.len b.cap,.int .i64 c] [.one .slice] w K
def JD (c d e:Int) (b:fU) (f g:Int) (w:θ) (K:fU->Int->b_):Prop:=
 f_ υ 351 [(.agg ⟨[.int .i64 c,.int .i64 d,.int .i64 e,.slice b.a b.len b.cap]⟩),.int .i64 f,.int .i64 g] [.one .slice,.one ν] w K
def JE (c d e:Int) (b:fU) (w:θ) (K:Int->Int->Int->b_):Prop:=
 f_ υ 352 [(.agg ⟨[.int .i64 c,.int .i64 d,.int .i64 e,.slice b.a b.len b.cap]⟩)] [.agg [ν,ν,ν]] w K
def KY (c d e:Int) (b:fU) (f g:Int) (w:θ) (K:Value->b_):Prop:=
 f_ υ 353 [(.agg ⟨[.int .i64 c,.int .i64 d,.int .i64 e,.slice b.a b.len b.cap]⟩),.int .i64 f,.int .i64 g] [.one .any] w K
def VW (c d e:Int) (b:fU) (w:θ) (K:Int->b_):Prop:=
 f_ υ 354 [(.agg ⟨[.int .i64 c,.int .i64 d,.int .i64 e,.slice b.a b.len b.cap]⟩)] [.one ν] w K
def CW (c d e:Int) (b:fU) (f:Int) (w:θ) (K:Int->Int->Int->fU->b_):Prop:=
 f_ υ 355 [(.agg ⟨[.int .i64 c,.int .i64 d,.int .i64 e,.slice b.a b.len b.cap]⟩),.int .i64 f] [.agg [ν,ν,ν,.slice]] w K
theorem Ea {e f g c h i w K}:gB (EH e f g c h i w K)
 (Al w (.cells ⟨[.int .i64 e,.int .i64 f,.bool g,.slice c.a c.len c.cap]⟩ 285) λd b=>fM b (d.add 0) λj=>fM b (d.add 1) λk=>Ld .bool b (d.add 2) λl=>Ld .slice b (d.add 3) λm=>G_ h i j k l m b λn o p=>K n o p):=χ Tryz.func336
theorem Eb {f g h b w K}:gB (EI f g h b w K)
 (Al w (.cells ⟨[.int .i64 f,.int .i64 g,.bool h,.slice b.a b.len b.cap]⟩ 285) λi j=>Al j (.cells ⟨alM⟩ 89) λc e=>fM e i λk=>fM e (i.add 1) λl=>ig [.int .i64 17,.int .i64 k,.int .i64 l] e c 0 λd=>fM d (c.add 0) λm=>fM d (c.add 1) λn=>fM d (c.add 2) λo=>K m n o d):=χ Tryz.func337
theorem Fv {g h i d j k w K}:gB (FZ g h i d j k w K)
 (Al w (.cells ⟨[.int .i64 g,.int .i64 h,.bool i,.slice d.a d.len d.cap]⟩ 285) λb e=>fM e.drew b λn=>fM e.drew (b.add 1) λl=>qg j n e.drew λo m=>m.cell? (b.add 1)=some (.int .i64 l)/\
 qg k l m λp q=>St q b (.int .i64 o) λr=>St r (b.add 1) (.int .i64 p) λc=>fM c (b.add 0) λs=>fM c (b.add 1) λt=>Ld .bool c (b.add 2) λu=>Ld .slice c (b.add 3) λf=>K (Value.iface 285 (Value.agg ⟨[.int .i64 s,.int .i64 t,.bool u,.slice f.a f.len f.cap]⟩)) c):=χ Tryz.func338
theorem Yu {j k l m n f w K}:gB (G_ j k l m n f w K)
 (Al w (.cells ⟨[.int .i64 l,.int .i64 m,.bool n,.slice f.a f.len f.cap]⟩ 116) λb c=>fM c (b.add 0) λp=>fM c (b.add 1) λq=>Ld .bool c (b.add 2) λr=>Ld .slice c (b.add 3) λs=>He p q r s c λo d=>(cond (o !=0) (K ⟨none,0,0⟩ o d) (fM d b λt=>fM d (b.add 1) λu=>Ld .slice d (b.add 3) λv=>Al d (.cells ⟨[.int .i64 t,.int .i64 u,.int .i64 (ο.wrap (8+(v.len:Int))),.int .i64 0]⟩ 3) λx y=>iH (S:=fU×Int×Unit) (λe g z=>(cond (decide (e.2.1<(4:Int))) (iF ⟨(some x),4,4⟩ 1 e.2.1 λA=>fM g A λB=>nY e.1 B 2 g λC D=>z (C,(ο.wrap (e.2.1+1)),()) D) (Ld .slice g (b.add 3) λE=>mW 5 1 1 [(Value.int .u8 0)] e.1 E g λh i=>Ld .bool i (b.add 2) λF=>(cond F (K h 0 i) (EX j k h i λG H=>yx h 6 G 2 H λI J L=>K I J L))))) (⟨none,0,0⟩,0,()) y))):=χ Tryz.func339 (fQ (fQ (fQ (.seq (fQ (.blk (.loop [(9,.slice),(27,ν)] .leaf))) .leaf))))
theorem Vk {a b w K}:gB (qg a b w K)
 ((cond (a==(-1)) (K b w) (K a w))):=χ Tryz.func340
theorem Yv {f g h b w K}:gB (He f g h b w K)
 (Al w (.cells ⟨[.int .i64 f,.int .i64 g,.bool h,.slice b.a b.len b.cap]⟩ 116) λd i=>let j:Bool->b_:=λk c=>((cond k (K 1 c) (Ld .slice c (d.add 3) λl=>(cond (decide ((l.len:Int)>65527)) (K 6 c) (K 0 c)))))
 fM i d λm=>kQ m 2 i λn e=>(cond (!n) (j true e) (fM e (d.add 1) λo=>kQ o 2 e λp q=>j (!p) q))):=χ Tryz.func341
theorem VG {d e b w K}:gB (EX d e b w K)
 (sZ d e 17 (b.len:Int) w λc h=>Al h (.cells ⟨[.slice c.a c.len c.cap,.slice b.a b.len b.cap]⟩ 38) λi j=>G6 ⟨(some i),2,2⟩ j λf g=>(cond (f==0) (K 65535 g) (K f g))):=χ Tryz.func342
theorem Fz {a b c d e f g h i j k l w K}:gB (F6 a b c d e f g h i j k l w K)
 (Al w (.cells ⟨(kX a b c d e f g h i j)⟩ 291) λn m=>Af m n λo p q r s t u v x y=>G7 k l o p q r s t u v x y m λz A B=>K z A B):=χ Tryz.func343
theorem FB {d e f g h i j k l m w K}:gB (F7 d e f g h i j k l m w K)
 (Al w (.cells ⟨(kX d e f g h i j k l m)⟩ 291) λn o=>Al o (.cells ⟨alM⟩ 89) λa c=>fM c n λp=>fM c (n.add 1) λq=>ig [.int .i64 6,.int .i64 p,.int .i64 q] c a 0 λb=>fM b (a.add 0) λr=>fM b (a.add 1) λs=>fM b (a.add 2) λt=>K r s t b):=χ Tryz.func344
theorem Gh {c d e f g h i j k l m n w K}:gB (GX c d e f g h i j k l m n w K)
 (Al w (.cells ⟨(kX c d e f g h i j k l)⟩ 291) λa b=>fM b.drew a λr=>fM b.drew (a.add 1) λo=>qg m r b.drew λs p=>p.cell? (a.add 1)=some (.int .i64 o)/\
 qg n o p λt u=>St u a (.int .i64 s) λv=>St v (a.add 1) (.int .i64 t) λq=>Af q a λx y z A B C D E F G=>K (Value.iface 291 (Value.agg ⟨kX x y z A B C D E F G⟩)) q):=χ Tryz.func345
theorem Yq {l m n o p q r s t u v x w K}:gB (G7 l m n o p q r s t u v x w K)
 (Al w (.cells ⟨(kX n o p q r s t u v x)⟩ 287) λe y=>Af y e λC D E F G H I J L M=>G8 C D E F G H I J L M y λz f=>(cond (z !=0) (K ⟨none,0,0⟩ z f) (Af f e λN O P Q R T U V W X=>zJ N O P Q R T U V W X f λA Y=>iH (S:=fU×Int×Unit) (λb c Z=>(cond (decide (b.2.1<(A.len:Int))) (iF A 2 b.2.1 λB=>fM c (B.add 0) λaa=>fM c (B.add 1) λab=>Al c (.cells ⟨alL⟩ 443) λg ac=>ig [.int .i64 aa,.int .i64 ab] ac g 0 λh=>fM h g λad=>fM h (g.add 1) λae=>nY b.1 ad ae h λaf ag=>Z (af,(ο.wrap (b.2.1+1)),()) ag) (Ld .slice c (e.add 8) λi=>Ld .slice c (e.add 9) λj=>Al c (.cells ⟨[.slice b.1.a b.1.len b.1.cap,.slice i.a i.len i.cap,.slice j.a j.len j.cap]⟩ 38) λah ai=>nR ⟨(some ah),3,3⟩ ai λd aj=>sZ l m 6 (d.len:Int) aj λk ak=>Al ak (.cells ⟨[.slice k.a k.len k.cap,.slice d.a d.len d.cap]⟩ 38) λal am=>G6 ⟨(some al),2,2⟩ am λan ao=>yx d 16 an 2 ao λap aq ar=>K ap aq ar))) (⟨none,0,0⟩,0,()) Y))):=χ Tryz.func346 (fQ (fQ (fQ (.seq (fQ (.blk (.loop [(9,.slice),(20,ν)] .leaf))) .leaf))))
theorem Yr {h i j k l m n o p q w K}:gB (G8 h i j k l m n o p q w K)
 (Al w (.cells ⟨(kX h i j k l m n o p q)⟩ 287) λa b=>let d:Bool->Prop:=λu=>((cond u (K 1 b) (Af b a λv x y z A B C D E F=>zJ v x y z A B C D E F b λr G=>iH (S:=Int×Unit) (λe c H=>(cond (decide (e.1<(r.len:Int))) (iF r 2 e.1 λs=>fM c (s.add 0) λI=>fM c (s.add 1) λJ=>Al c (.cells ⟨alL⟩ 443) λf L=>ig [.int .i64 I,.int .i64 J] L f 0 λg=>fM g f λM=>fM g (f.add 1) λN=>kQ M N g λO t=>(cond (!O) (K 1 t) (H ((ο.wrap (e.1+1)),()) t))) (Ld .slice c (a.add 8) λP=>Ld .slice c (a.add 9) λQ=>(cond (decide ((ο.wrap ((ο.wrap (20+(P.len:Int)))+(Q.len:Int)))>65535)) (K 6 c) (K 0 c))))) (0,()) G)))
 Ld .slice b (a.add 8) λR=>(cond (decide ((R.len:Int)>40)) (d true) (Ld .slice b (a.add 8) λT=>(4:Int)≠0/\
 (cond ((Int.tmod (T.len:Int) 4) !=0) (d true) (fM b (a.add 4) λU=>(cond (decide (U<0)) (d true) (fM b (a.add 4) λV=>d (decide (V>15))))))))):=χ Tryz.func347 (fQ (fQ (.seq (fQ (.blk (.loop [(29,ν)] .leaf))) .leaf)))
theorem VE {c d e f g h i j k l w K}:gB (zJ c d e f g h i j k l w K)
 (Al w (.cells ⟨(kX c d e f g h i j k l)⟩ 287) λb a=>Ld .slice a (b.add 8) λm=>(4:Int)≠0/\
 fM a b λn=>fM a (b.add 1) λo=>fM a (b.add 2) λp=>fM a (b.add 3) λq=>0<=(4:Int)/\
 fM a (b.add 4) λr=>fM a (b.add 5) λs=>fM a (b.add 6) λt=>fM a (b.add 7) λu=>Al a (.cells ⟨(aiL n 2 o 2 p 4 q 4 (orI .i64 (Ky .i64 (ο.wrap (Int.tdiv (ο.wrap (20+(m.len:Int))) 4)) 4) r) 1 s 1 t 2 0 2 u 2)⟩ 443) λv x=>K ⟨(some v),9,9⟩ x):=χ Tryz.func348
theorem Bf {b w K}:gB (nR b w K)
 (iH (S:=Int×Int×Unit) (λa d g=>(cond (decide (a.2.1<(b.len:Int))) (iF b 1 a.2.1 λh=>Ld .slice d h λf=>(cond (decide ((ο.wrap (a.1+(f.len:Int)))<0)) False (g ((ο.wrap (a.1+(f.len:Int))),(ο.wrap (a.2.1+1)),()) d))) (o9 ⟨none,0,0⟩ a.1 d λi j=>iH (S:=fU×Int×Unit) (λc e k=>(cond (decide (c.2.1<(b.len:Int))) (iF b 1 c.2.1 λl=>Ld .slice e l λm=>mW 5 1 1 [(Value.int .u8 0)] c.1 m e λn o=>k (n,(ο.wrap (c.2.1+1)),()) o) (K c.1 e))) (i,0,()) j))) (0,0,()) w):=χ Tryz.func349 (fQ (fQ (.seq (fQ (.blk (.loop [(3,ν),(11,ν)] .leaf))) (fQ (.seq (fQ (.blk (.loop [(6,.slice),(27,ν)] .leaf))) .leaf)))))
theorem Dz {a b w K}:gB (o9 a b w K)
 ((cond (decide (b<0)) False (let c:fU->b_:=λd e=>(K d e)
 (cond (decide ((ο.wrap (b - (ο.wrap ((a.cap:Int) - (a.len:Int)))))>0)) (kJ a 1 0 (a.cap:Int) λf=>VJ 5 1 1 [(Value.int .u8 0)] f (ο.wrap (b - (ο.wrap ((a.cap:Int) - (a.len:Int))))) w λg h=>kJ g 1 0 (a.len:Int) λi=>c i h) (c a w))))):=χ Tryz.func350
theorem Ir {e f g c h i w K}:gB (JD e f g c h i w K)
 (Al w (.cells ⟨[.int .i64 e,.int .i64 f,.int .i64 g,.slice c.a c.len c.cap]⟩ 293) λd b=>fM b (d.add 0) λj=>fM b (d.add 1) λk=>fM b (d.add 2) λl=>Ld .slice b (d.add 3) λm=>zu j k l m b λn o p=>K n o p):=χ Tryz.func351
theorem Iu {g h i c w K}:gB (JE g h i c w K)
 (Al w (.cells ⟨[.int .i64 g,.int .i64 h,.int .i64 i,.slice c.a c.len c.cap]⟩ 293) λd k=>Al k (.cells ⟨alM⟩ 89) λe b=>fM b (d.add 0) λl=>fM b (d.add 1) λm=>fM b (d.add 2) λn=>Ld .slice b (d.add 3) λo=>VW l m n o b λj p=>ig [.int .i64 1,.int .i64 j,.int .i64 j] p e 0 λf=>fM f (e.add 0) λq=>fM f (e.add 1) λr=>fM f (e.add 2) λs=>K q r s f):=χ Tryz.func352
theorem JX {j k l f m n w K}:gB (KY j k l f m n w K)
 (Al w (.cells ⟨[.int .i64 j,.int .i64 k,.int .i64 l,.slice f.a f.len f.cap]⟩ 293) λb c=>fM c.drew (b.add 0) λo=>fM c.drew (b.add 1) λp=>fM c.drew (b.add 2) λq=>Ld .slice c.drew (b.add 3) λg=>qg m n c.drew λr d=>d.cell? (b.add 0)=some (.int .i64 o)/\
 d.cell? (b.add 1)=some (.int .i64 p)/\
 d.cell? (b.add 2)=some (.int .i64 q)/\
 d.cell? (b.add 3)=some (.slice g.a g.len g.cap)/\
 CW o p q g r d λs t u h v=>ig [.int .i64 s,.int .i64 t,.int .i64 u,.slice h.a h.len h.cap] v b 0 λe=>fM e (b.add 0) λx=>fM e (b.add 1) λy=>fM e (b.add 2) λz=>Ld .slice e (b.add 3) λi=>K (Value.iface 293 (Value.agg ⟨[.int .i64 x,.int .i64 y,.int .i64 z,.slice i.a i.len i.cap]⟩)) e):=χ Tryz.func353
theorem aaM {c d e b w K}:gB (VW c d e b w K)
 (Al w (.cells ⟨[.int .i64 c,.int .i64 d,.int .i64 e,.slice b.a b.len b.cap]⟩ 84) λg f=>fM f (g.add 2) λh=>0<=(16:Int)/\
 K (kT .i64 (jy .i64 h 16) 65535) f):=χ Tryz.func354
theorem TF {i j k f l w K}:gB (CW i j k f l w K)
 (Al w (.cells ⟨[.int .i64 i,.int .i64 j,.int .i64 k,.slice f.a f.len f.cap]⟩ 84) λb o=>Al o (.cells ⟨alN⟩ 84) λc m=>0<=(16:Int)/\
 fM m (b.add 2) λp=>St m (b.add 2) (.int .i64 (orI .i64 (Ky .i64 (kT .i64 l 65535) 16) (kT .i64 p 65535))) λn=>Ld .slice n (b.add 3) λq=>gY q n λg r=>St r (b.add 3) (.slice g.a g.len g.cap) λd=>fM d (b.add 0) λs=>fM d (b.add 1) λt=>fM d (b.add 2) λu=>Ld .slice d (b.add 3) λh=>ig [.int .i64 s,.int .i64 t,.int .i64 u,.slice h.a h.len h.cap] d c 0 λe=>fM e (c.add 0) λv=>fM e (c.add 1) λx=>fM e (c.add 2) λy=>Ld .slice e (c.add 3) λz=>K v x y z e):=χ Tryz.func355
@[reducible] def aiM (a b c d e f g h i j k l m n o p q r s t u v w x y z A B C D E F:Int):List Value:= .int .u8 a:: .int .u8 b:: .int .u8 c:: .int .u8 d:: .int .u8 e:: .int .u8 f:: .int .u8 g:: .int .u8 h:: .int .u8 i:: .int .u8 j:: .int .u8 k:: .int .u8 l:: .int .u8 m:: .int .u8 n:: .int .u8 o:: .int .u8 p:: .int .u8 q:: .int .u8 r:: .int .u8 s:: .int .u8 t:: .int .u8 u:: .int .u8 v:: .int .u8 w:: .int .u8 x:: .int .u8 y:: .int .u8 z:: .int .u8 A:: .int .u8 B:: .int .u8 C:: .int .u8 D:: .int .u8 E:: .int .u8 F::[]
def EO (w:θ) (K:fP (fP (fU->fU->Int->Int->Int->Int->Int->Int->Int->Int->Int->Int->Int->Int->Int->Int->Int->Int->Int->fU->b_))):Prop:=
 f_ υ 16 [] [.agg adA] w K
def oW (a:fO) (b c d e f g h:Int) (i j:Bool) (k l:fU) (w:θ) (K:Int->Int->Int->Int->Int->Int->Int->Int->Bool->Bool->fU->fU->Int->b_):Prop:=
 f_ υ 17 [.pointer a,.agg ⟨gQ b c d e f g h i j k l⟩] [.one ν,.agg vG,.one ν] w K
def AA (b:fU) (w:θ) (K:fP (fP (b_))):Prop:=
 f_ υ 49 [.slice b.a b.len b.cap] [.agg Rf] w K
def FY (c:fO) (d e f g h i j:Int) (k l:Bool) (m n:fU) (o p q:Int) (b:fU) (w:θ) (K:Int->Int->Int->Int->Int->Int->Int->Int->Bool->Bool->fU->fU->Int->b_):Prop:=
 f_ υ 50 [.pointer c,.agg ⟨gQ d e f g h i j k l m n⟩,(.agg ⟨[.int .i64 o,.int .i64 p,.int .i64 q,.slice b.a b.len b.cap]⟩)] [.one ν,.agg vG,.one ν] w K
def Au (c d e:Int) (b:fU) (w:θ) (K:Bool->b_):Prop:=
 f_ υ 53 [.int .i64 c,(.agg ⟨[.int .i64 d,.int .i64 e]⟩),.slice b.a b.len b.cap] [.one .bool] w K
def uX (a:fO) (b:Int) (w:θ) (K:fU->b_):Prop:=
 f_ υ 54 [.pointer a,.int .i64 b] [.one .slice] w K
def yV (a:fO) (b:Int) (c:Bool) (d:Int) (e:Bool) (f g h i j k l m n o:Int) (p q:Bool) (r s:fU) (w:θ) (K:Int->b_):Prop:=
 f_ υ 55 [.pointer a,(.agg ⟨[.int .i64 b,.bool c,.int .i64 d,.bool e,.int .i64 f,.int .i64 g,.int .i64 h]⟩),.agg ⟨gQ i j k l m n o p q r s⟩] [.one ν] w K
def KX (a b c d e f g:Int) (h i:Bool) (j k:fU) (l m:Int) (w:θ) (K:Int->Int->Int->Int->Int->Int->Int->Bool->Bool->fU->fU->Int->b_):Prop:=
 f_ υ 56 [.agg ⟨gQ a b c d e f g h i j k⟩,.int .i64 l,.int .i64 m] [.agg vG,.one ν] w K
def kH (b:fU) (c:Value) (w:θ) (K:Bool->b_):Prop:=
 f_ υ 124 [.slice b.a b.len b.cap,c] [.one .bool] w K
def Oo (a b:Int) (c:Addr) (w:θ) (K:Bool->b_):Prop:=
 f_ υ 125 [(.agg ⟨[.int .i64 a,.int .i64 b]⟩),(.pointer (some c))] [.one .bool] w K
def kY (b:fU) (c d:Int) (w:θ) (K:Bool->b_):Prop:=
 f_ υ 126 [.slice b.a b.len b.cap,(.agg ⟨[.int .i64 c,.int .i64 d]⟩)] [.one .bool] w K
def kW (b:fU) (c:Value) (w:θ) (K:Int->b_):Prop:=
 f_ υ 219 [.slice b.a b.len b.cap,c] [.one ν] w K
def mg (b:fU) (c d:Int) (w:θ) (K:Int->b_):Prop:=
 f_ υ 220 [.slice b.a b.len b.cap,(.agg ⟨[.int .i64 c,.int .i64 d]⟩)] [.one ν] w K
theorem TG {w K}:gB (jY w K)
 (EO w λj k l m n o p q r s t u v x y z A B C D E F G H I J L M N O P Q R S T U V=>EC j k l m n o p q r s t u v x y z A B C D E F G H I J L M N O P Q R S T U V λa W d=>let e:Bool->Prop:=λX=>((cond X (K false d) (jP 167772161 3221225985 5000 53 9 ⟨none,0,0⟩ d λY Z=>kL Y Z λaa ab ac ad ae af ag ah ai aj ak al=>jJ a 1 aa ab ac ad ae af ag ah ai aj ak al λam an ao ap aq ar au av aw ax ay az aA=>Al aA (.cells ⟨ξ⟩ 40) λf aB=>ig (gQ am an ao ap aq ar au av aw ax ay) aB f 0 λc=>let g:Bool->Prop:=λaC=>((cond aC (K false c) (jP 3221225985 3325256705 53 5000 9 ⟨none,0,0⟩ c λaD aE=>kL aD aE λaF aG aH aI aJ aK aL aM aN aO aP aQ=>oW a aF aG aH aI aJ aK aL aM aN aO aP aQ λaR aS aT aU aV aW aX aY aZ a0 a1 a2 a3 a4=>Al a4 (.cells ⟨ξ⟩ 40) λh a5=>ig (gQ aS aT aU aV aW aX aY aZ a0 a1 a2) a5 h 0 λa6=>jP 3221225986 3325256705 53 5000 9 ⟨none,0,0⟩ a6 λa7 a8=>kL a7 a8 λa9 ba bb bc bd be bf bg bh bi bj bk=>oW a a9 ba bb bc bd be bf bg bh bi bj bk λbE bl bm bn bo bp bq br bs bt bu bv bw bx=>Al bx (.cells ⟨ξ⟩ 40) λbz bA=>ig (gQ bl bm bn bo bp bq br bs bt bu bv) bA bz 0 λi=>let b:Bool->Prop:=λbB=>(K bB i)
 (cond (a3==0) (cond (aR==1) (fM i (h.add 6) λbC=>(cond (bC==167772161) (b (bw==10)) (b false))) (b false)) (b false)))))
 (cond (az !=0) (g true) (fM c (f.add 5) λbD=>g (bD !=3325256705))))))
 (cond (Option.isNone a) (e true) (e (W !=0)))):=χ Tryz.func6
theorem Vz {w K}:gB (EO w K)
 (Al w (.cells ⟨(jo 0 0 0 0 0 0 0 0 0 0 0 0 0 0 0 0 ⟨none,0,0⟩ ⟨none,0,0⟩ 0 0 0 0 0 0 0 0 0 0 0 0 0 0 0 0 0 ⟨none,0,0⟩)⟩ 28) λa c=>Al c (.cells ⟨[.int .i64 8193,.int .i64 3512,.int .i64 0,.int .i64 0,.int .i64 0,.int .i64 0,.int .i64 0,.int .i64 1]⟩ 3) λd e=>AA ⟨(some d),8,8⟩ e λf g h i j k l m n o p q r s t u v=>Al v (.cells ⟨[.int .i64 8193,.int .i64 3512,.int .i64 1,.int .i64 0,.int .i64 0,.int .i64 0,.int .i64 0,.int .i64 1]⟩ 3) λx y=>AA ⟨(some x),8,8⟩ y λz A B C D E F G H I J L M N O P Q=>Al Q (.cells ⟨[.int .i64 8193,.int .i64 3512,.int .i64 2,.int .i64 0,.int .i64 0,.int .i64 0,.int .i64 0,.int .i64 1]⟩ 3) λR S=>AA ⟨(some R),8,8⟩ S λT U V W X Y Z aa ab ac ad ae af ag ah ai aj=>Al aj (.cells ⟨(aiM z A B C D E F G H I J L M N O P T U V W X Y Z aa ab ac ad ae af ag ah ai)⟩ 23) λak al=>Al al (.cells ⟨[.int .i64 3325256705]⟩ 3) λam an=>ig (jo f g h i j k l m n o p q r s t u ⟨(some ak),2,2⟩ ⟨(some am),1,1⟩ 1024 65535 16 64 128 8 1048576 1500 1500 64 0 2 300 7440 240 60 60 ⟨none,0,0⟩) an a 0 λb=>rO b a λao ap aq ar au av aw ax ay az aA aB aC aD aE aF aG aH aI aJ aK aL aM aN aO aP aQ aR aS aT aU aV aW aX aY aZ=>K ao ap aq ar au av aw ax ay az aA aB aC aD aE aF aG aH aI aJ aK aL aM aN aO aP aQ aR aS aT aU aV aW aX aY aZ b):=χ Tryz.func16
theorem NK {e v x y z A B C D E F G w K}:gB (oW e v x y z A B C D E F G w K)
 (Al w (.cells ⟨(gQ v x y z A B C D E F G)⟩ 40) λf Y=>Al Y (.cells ⟨ξ⟩ 40) λb Z=>let H:Bool->b_:=λj8 p=>((cond j8 (ig ξ p b 0 λI=>iC I b λab ac ad ae af ag ah ai aj ak al=>K 0 ab ac ad ae af ag ah ai aj ak al 1 I) (iC p f λam an ao ap aq ar au av aw ax ay=>zC am an ao ap aq ar au av aw ax ay p λaz aA aB q aC aD=>Al aD (.cells ⟨alN⟩ 84) λj aE=>ig [.int .i64 az,.int .i64 aA,.int .i64 aB,.slice q.a q.len q.cap] aE j 0 λg=>(cond aC (iC g f λaF aG aH aI aJ aK aL aM aN aO aP=>fM g (j.add 0) λaQ=>fM g (j.add 1) λaR=>fM g (j.add 2) λaS=>Ld .slice g (j.add 3) λaT=>FY e aF aG aH aI aJ aK aL aM aN aO aP aQ aR aS aT g λaU aV aW aX aY aZ a1 a2 a3 a5 a7 a8 a9 ba=>ig (gQ aV aW aX aY aZ a1 a2 a3 a5 a7 a8) ba b 0 λJ=>iC J b λbb bc bd be bf bg bh bi bj bk bl=>K aU bb bc bd be bf bg bh bi bj bk bl a9 J) (iC g f λbm bn bo bp bq br bs bt bu bv bw=>EG bm bn bo bp bq br bs bt bu bv bw g λbx bz bA L bB=>Al bB (.cells ⟨alM⟩ 89) λk bC=>ig [.int .i64 bx,.int .i64 bz,.int .i64 bA] bC k 0 λh=>(cond (L !=0) (ED L h λbD bE=>ig ξ bE b 0 λM=>iC M b λbF bG bH bI bJ bK bL bM bN bO bP=>K 0 bF bG bH bI bJ bK bL bM bN bO bP bD M) (Pt e λbQ=>Ld .ptr h.drew (bQ.add 2) λbR=>fM h.drew k λbS=>fM h.drew (f.add 6) λbT=>fM h.drew (k.add 2) λbU=>rQ bR bS bT bU h.drew λr bV s=>(cond (!bV) (ig ξ s b 0 λN=>iC N b λbW bX bY bZ b0 b1 b2 b3 b4 b5 b6=>K 0 bW bX bY bZ b0 b1 b2 b3 b4 b5 b6 9 N) (Pt e λb7=>Ld .ptr s (b7.add 2) λb8=>mV b8 r s λb9 ca cb cc cd ce cf cg ej ch=>Al ch (.cells ⟨alP⟩ 107) λl ci=>ig [.int .i64 b9,.int .i64 ca,.int .i64 cb,.int .i64 cc,.int .i64 cd,.int .i64 ce,.int .i64 cf,.bool cg] ci l 0 λn=>fM n k λcj=>fM n (f.add 5) λck=>fM n (k.add 1) λcl=>uI cj ck cl n λcm cn co=>pY e r true 0 false 0 cm cn co λcp cq cr cs ct cu cv cw=>Al cw (.cells ⟨alO⟩ 96) λc cx=>ig [.int .i64 cp,.bool cq,.int .i64 cr,.bool cs,.int .i64 ct,.int .i64 cu,.int .i64 cv] cx c 0 λi=>let O:Bool->b_:=λcy d=>((cond cy (ig ξ d b 0 λP=>iC P b λcz cA cB cC cD cE cF cG cH cI cJ=>K 0 cz cA cB cC cD cE cF cG cH cI cJ 10 P) (fM d (c.add 0) λcK=>Ld .bool d (c.add 1) λcL=>fM d (c.add 2) λcM=>Ld .bool d (c.add 3) λcN=>fM d (c.add 4) λcO=>fM d (c.add 5) λcP=>fM d (c.add 6) λcQ=>iC d f λcR cS cT cU cV cW cX cY cZ c0 c1=>yV e cK cL cM cN cO cP cQ cR cS cT cU cV cW cX cY cZ c0 c1 d λQ m=>(cond (Q !=0) (ig ξ m b 0 λR=>iC R b λc2 c3 c4 c5 c6 c7 c8 c9 da db dc=>K 0 c2 c3 c4 c5 c6 c7 c8 c9 da db dc Q R) (iC m f λdd de df dg dh di dj dk dl dm dn=>fM m (l.add 2) λdp=>fM m (l.add 3) λdq=>KX dd de df dg dh di dj dk dl dm dn dp dq m λdr ds dt du dv dw dx dy dz dA dB ek dC=>Al dC (.cells ⟨ξ⟩ 40) λS dD=>ig (gQ dr ds dt du dv dw dx dy dz dA dB) dD S 0 λt=>fM t.drew l λdE=>iC t.drew S λdF dG dH dI dJ dK dL dM dN dO dP=>ig (gQ dF dG dH dI dJ dK dL dM dN dO dP) t.drew b 0 λT=>iC T b λdQ dR dS dT dU dV dW dX dY dZ d0=>K dE dQ dR dS dT dU dV dW dX dY dZ d0 0 T)))))
 Ld .bool i.drew (l.add 7) λd1=>(cond (!d1) (Pt e λU=>fM i.drew ((U.add 5).add 29) λV=>fM i.drew ((c.add 5).add 0) λW=>fM i.drew ((c.add 5).add 1) λX=>uX e r i.drew λd2 o=>o.cell? ((c.add 5).add 0)=some (.int .i64 W)/\
 o.cell? ((c.add 5).add 1)=some (.int .i64 X)/\
 o.cell? ((U.add 5).add 29)=some (.int .i64 V)/\
 Au V W X d2 o λd3 d4=>O (!d3) d4) (O false i.drew)))))))))))
 kR e Z λd5 u=>(cond (!d5) (H true u) (iC u f λd6 d7 d8 d9 ea eb ec ed ee ef eg=>zD d6 d7 d8 d9 ea eb ec ed ee ef eg u λeh ei=>H (!eh) ei))):=χ Tryz.func17
theorem Z7 {c w K}:gB (AA c w K)
 (Al w (.cells ⟨(mY 0 0 0 0 0 0 0 0 0 0 0 0 0 0 0 0)⟩ 23) λe i=>Al i (.cells ⟨(mY 0 0 0 0 0 0 0 0 0 0 0 0 0 0 0 0)⟩ 23) λd j=>iH (S:=Int×Unit) (λa b k=>let f:Bool->Prop:=λl=>((cond l (iF c 1 a.1 λm=>fM b m λg=>(65536:Int)≠0/\
 (65536:Int)≠0/\
 (256:Int)≠0/\
 (256:Int)≠0/\
 (0:Int)<=(ο.wrap (2 * a.1))/\(ο.wrap (2 * a.1))<(16:Int)/\
 St b (d.add (Int.toNat (ο.wrap (2 * a.1)) * 1)) (Value.int .u8 (IntKind.u8.wrap (ο.wrap (Int.tdiv (Int.tmod (ο.wrap ((Int.tmod g 65536)+65536)) 65536) 256)))) λn=>(0:Int)<=(ο.wrap ((ο.wrap (2 * a.1))+1))/\(ο.wrap ((ο.wrap (2 * a.1))+1))<(16:Int)/\
 St n (d.add (Int.toNat (ο.wrap ((ο.wrap (2 * a.1))+1)) * 1)) (Value.int .u8 (IntKind.u8.wrap (Int.tmod (Int.tmod (ο.wrap ((Int.tmod g 65536)+65536)) 65536) 256))) λo=>k ((ο.wrap (a.1+1)),()) o) (uH b d λp q r s t u v x y z A B C D E F=>ig (mY p q r s t u v x y z A B C D E F) b e 0 λh=>uH h e λG H I J L M N O P Q R T U V W X=>K G H I J L M N O P Q R T U V W X h)))
 (cond (decide (a.1<(c.len:Int))) (f (decide (a.1<8))) (f false))) (0,()) j):=χ Tryz.func49 (fQ (fQ (.seq (fQ (.blk (.loop [(4,ν)] .leaf))) .leaf)))
theorem Qs {b e f c w K}:gB (Au b e f c w K)
 (Al w (.cells ⟨[.int .i64 e,.int .i64 f]⟩ 94) λd a=>(cond (b==0) (K true a) (cond (b==1) (kH c (Value.func (.func 125) #[] #[(Value.pointer (some d))]) a λg h=>K g h) (cond (b==2) (fM a (d.add 0) λi=>fM a (d.add 1) λj=>kY c i j a λk l=>K k l) (K false a))))):=χ Tryz.func53
theorem JW {j k w K}:gB (uX j k w K)
 (Al w (.cells ⟨[.slice none 0 0]⟩ 130) λf l=>Pt j λo=>Ld .ptr l (o.add 3) λp=>ny p k l λq c=>zn υ none [.one ν,.agg [ν,ν,ν,ν,ν]] q c (λb d m r=>Al m (.cells ⟨alQ⟩ 120) λg s=>ig [.int .i64 d.2.1.1,.int .i64 d.2.1.2.1,.int .i64 d.2.1.2.2.1,.int .i64 d.2.1.2.2.2.1,.int .i64 d.2.1.2.2.2.2.1] s g 0 λe=>e.heap[b]? =m.heap[b]? /\
 Ld .slice (gG e b) f λt=>fM (gG e b) ((g.add 3).add 0) λu=>fM (gG e b) ((g.add 3).add 1) λv=>Al (gG e b) (.cells ⟨[.int .i64 u,.int .i64 v]⟩ 94) λx y=>mW 94 2 16 [(Value.int .i64 0),(Value.int .i64 0)] t ⟨(some x),1,1⟩ y λh z=>St z f (.slice h.a h.len h.cap) λA=>r .normal A)
 (λi=>Ld .slice i f λB=>i.heap[c.heap.size]? =some (.deferred (some []))/\
 K B (i.putObj c.heap.size (.deferred none)))
 (λn=>n.heap[c.heap.size]? =some (.deferred (some []))/\
 K ⟨none,0,0⟩ (n.putObj c.heap.size (.deferred none)))
 []):=χ Tryz.func54 (fQ (fQ (.seq (fQ (.blk (.rng [.one ν,.agg [ν,ν,ν,ν,ν]] .leaf .leaf))) .leaf)))
theorem Io {e g h i j k l m n o p q r s t u v x y w K}:gB (yV e g h i j k l m n o p q r s t u v x y w K)
 (Al w (.cells ⟨[.int .i64 g,.bool h,.int .i64 i,.bool j,.int .i64 k,.int .i64 l,.int .i64 m]⟩ 96) λa A=>Al A (.cells ⟨(gQ n o p q r s t u v x y)⟩ 40) λf b=>fM b (f.add 4) λB=>(cond (B !=6) (K 0 b) (fM b (a.add 0) λC=>Ld .bool b (a.add 1) λD=>fM b (a.add 2) λE=>Ld .bool b (a.add 3) λF=>fM b (a.add 4) λG=>fM b (a.add 5) λH=>fM b (a.add 6) λI=>iC b f λJ L M N O P Q R S T U=>BO C D E F G H I J L M N O P Q R S T U false b λV W d=>(cond (!W) (K 8 d) (let z:Bool->b_:=λX c=>((cond X (K 6 c) (fM c (a.add 0) λY=>Ld .bool c (a.add 1) λZ=>fM c (a.add 2) λaa=>Ld .bool c (a.add 3) λab=>fM c (a.add 4) λac=>fM c (a.add 5) λad=>fM c (a.add 6) λae=>fM c (f.add 4) λaf=>ni e Y Z aa ab ac ad ae af V c λag=>K 0 ag)))
 Ld .bool d (a.add 3) λah=>(cond (!ah) (nJ e d λai aj=>z ai aj) (z false d))))))):=χ Tryz.func55
theorem ZY {b c d e f g h i j k l m n w K}:gB (KX b c d e f g h i j k l m n w K)
 (Al w (.cells ⟨(gQ b c d e f g h i j k l)⟩ 40) λo r=>Al r (.cells ⟨ξ⟩ 40) λp a=>iC a o λs t u v x y z A B C D=>fM a (o.add 5) λE=>xI s t u v x y z A B C D E m (-1) n a λF G H I J L M N O P Q R S=>ig (gQ F G H I J L M N O P Q) S p 0 λq=>iC q p λT U V W X Y Z aa ab ac ad=>K T U V W X Y Z aa ab ac ad R q):=χ Tryz.func56
theorem pz {a b w K}:gB (kH a b w K)
 (kW a b w λc d=>K (decide (c>=0)) d):=χ Tryz.func124
theorem NC {A0 A1 f0 w K}:gB (Oo A0 A1 f0 w K)
 (Al w (.cells ⟨[.int .i64 A0,.int .i64 A1]⟩ 94) λb a=>fM a b λc=>fM a f0 λd=>K (c==d) a):=χ Tryz.func125
theorem qX {b c d w K}:gB (kY b c d w K)
 (Al w (.cells ⟨[.int .i64 c,.int .i64 d]⟩ 94) λe a=>fM a (e.add 0) λf=>fM a (e.add 1) λg=>mg b f g a λh i=>K (decide (h>=0)) i):=χ Tryz.func126
theorem qI {c d w K}:gB (kW c d w K)
 (iH (S:=Int×Unit) (λa b h=>(cond (decide (a.1<(c.len:Int))) (iF c 2 a.1 λe=>fM b (e.add 0) λi=>fM b (e.add 1) λj=>jB υ [.one .bool] d [(Value.agg ⟨[.int .i64 i,.int .i64 j]⟩)] b λk f=>∃g:Bool,k=(Value.bool g)/\
 (cond g (K a.1 f) (h ((ο.wrap (a.1+1)),()) f))) (K (-1) b))) (0,()) w):=χ Tryz.func219 (fQ (.seq (fQ (.blk (.loop [(8,ν)] .leaf))) .leaf))
theorem tK {c d e w K}:gB (mg c d e w K)
 (Al w (.cells ⟨[.int .i64 d,.int .i64 e]⟩ 94) λf h=>iH (S:=Int×Unit) (λb a i=>(cond (decide (b.1<(c.len:Int))) (fM a.drew (f.add 0) λj=>fM a.drew (f.add 1) λk=>iF c 2 b.1 λg=>fM a.drew (g.add 0) λl=>fM a.drew (g.add 1) λm=>(cond ((j==l) && ((k==m) && true)) (K b.1 a.drew) (i ((ο.wrap (b.1+1)),()) a.drew))) (K (-1) a))) (0,()) h):=χ Tryz.func220 (fQ (.seq (fQ (.blk (.loop [(8,ν)] .leaf))) .leaf))
end Go.Proofs
end
section
namespace Gp.Hash
abbrev vF:=Option (ByteArray×Int)
def cy (m a:Nat):Nat:=if a<m then a else a - m
def used (L:List vF) (i:Nat):Prop:=∃e:ByteArray×Int,L[i]? =some (some e)
def Has (L:List vF) (k:ByteArray) (n:Int):Prop:=∃i:Nat,L[i]? =some (some (k,n))
structure T (H:ByteArray->Nat) (L:List vF) (X:Nat->Nat->Prop):Prop where
 dist:∀(i j:Nat) (k:ByteArray) (n n':Int),L[i]? =some (some (k,n))->L[j]? =some (some (k,n'))->i=j
 reach:∀(i:Nat) (k:ByteArray) (n:Int),L[i]? =some (some (k,n))->∃D,D<L.length/\cy L.length (H k+D)=i/\∀d,d<D->used L (cy L.length (H k+d))\/X i (cy L.length (H k+d))
def Stop (L:List vF) (h:Nat) (k:ByteArray) (d:Nat):Prop:=L[cy L.length (h+d)]? =some none\/∃n,L[cy L.length (h+d)]? =some (some (k,n))
structure First (L:List vF) (h:Nat) (k:ByteArray) (d:Nat):Prop where
 lt:d<L.length
 stop:Stop L h k d
 first:∀d',d'<d->¬Stop L h k d'
section
variable {H:ByteArray->Nat} {L:List vF} {X:Nat->Nat->Prop} {k:ByteArray} {n:Int}
theorem cyc (m a:Nat):(a<m/\cy m a=a)\/(m<=a/\cy m a=a - m):=by
 unfold cy;split<;>omega
theorem MS {m a:Nat} (h:a<2 * m):cy m a<m:=by unfold cy;split<;>omega
theorem aah {m h d d':Nat} (hh:h<m) (hd:d<m) (hd':d'<m) (e:cy m (h+d)=cy m (h+d')):d=d':=by
 unfold cy at e;split at e<;>split at e<;>omega
theorem Wp (L:List vF) {i:Nat} (h:i<L.length):L[i]? =some none\/∃k n,L[i]? =some (some (k,n)):=by
 rw[abe h]
 cases hx:L[i] with
 |none=>exact .inl rfl
 |some e=>exact .inr ⟨e.1,e.2,rfl⟩
theorem Zy (t:T H L X) (hX:∀i p,¬X i p) (hh:H k<L.length) {i:Nat} (hi:L[i]? =some (some (k,n))) {d:Nat} (f:First L (H k) k d):cy L.length (H k+d)=i:=by
 obtain⟨D,hD,hc,hu⟩:=t.reach i k n hi;have hs:Stop L (H k) k D:= .inr ⟨n,by rw[hc];exact hi⟩;have h1:¬D<d:=λh=>f.first D h hs
 by_cases h2:d<D
 ·rcases hu d h2 with ⟨e,he⟩|hx
  ·rcases f.stop with h0|⟨n',h0⟩
   ·rw[he] at h0;cases h0
   ·exact t.dist _ _ _ _ _ h0 hi
  ·exact absurd hx (hX _ _)
 ·have:d=D:=by omega
  rw[this,hc]
theorem La (u:∀n,¬Has L k n) {h:Nat} (hh:h<L.length) {d:Nat} (f:First L h k d):L[cy L.length (h+d)]? =some none/\∀d',d'<d->used L (cy L.length (h+d')):=by
 refine⟨?_,λd' hd=> ?_⟩
 ·rcases f.stop with h0|⟨n',h0⟩
  ·exact h0
  ·exact absurd ⟨_,h0⟩ (u n')
 ·have hlt:=f.lt;rcases Wp L (MS (m:=L.length) (a:=h+d') (by omega)) with h0|⟨k',n',h0⟩
  ·exact absurd (.inl h0) (f.first d' hd)
  ·exact⟨_,h0⟩
theorem g_ (L:List vF) (q i:Nat) (e:vF):(L.set q e)[i]? =if q=i/\q<L.length then some e else L[i]? :=by
 rw[ajo];by_cases h1:q=i
 ·subst h1;by_cases h2:q<L.length
  ·simp[h2]
  ·simp[h2]
 ·simp[h1]
theorem ϝ {q i:Nat} {e:vF} (hu:used L i) (hn:L[q]? =some none):used (L.set q e) i:=by
 obtain⟨x,hx⟩:=hu;refine⟨x,?_⟩;rw[g_,Ε]
 ·exact hx
 ·rintro⟨rfl,_⟩;rw[hn] at hx;cases hx
theorem insert (t:T H L X) (u:∀n,¬Has L k n) (hh:H k<L.length) {d:Nat} (f:First L (H k) k d):T H (L.set (cy L.length (H k+d)) (some (k,n))) X:=by
 obtain⟨hn,hu⟩:=La u hh f;have hq:cy L.length (H k+d)<L.length:=(ady.1 hn).1;refine⟨λi j k' n1 n2 hi hj=> ?_,λi k' n1 hi=> ?_⟩
 ·rw[g_] at hi hj;split at hi<;>split at hj
  ·rename_i h1 h2;rw[<- h1.1,<- h2.1]
  ·cases hi;exact absurd ⟨_,hj⟩ (u n2)
  ·cases hj;exact absurd ⟨_,hi⟩ (u n1)
  ·exact t.dist _ _ _ _ _ hi hj
 ·rw[g_] at hi;simp only[ajl];split at hi
  ·rename_i h1
   cases hi
   exact⟨d,f.lt,h1.1,λd' hd=> .inl (ϝ (hu d' hd) hn)⟩
  ·obtain⟨D,hD,hc,hx⟩:=t.reach i k' n1 hi;exact⟨D,hD,hc,λd' hd=>(hx d' hd).imp (λh=>ϝ h hn) id⟩
theorem Fb {q:Nat} (hn:L[q]? =some none) (h:∀n,¬Has L k n) (k':ByteArray) (n':Int):Has (L.set q (some (k,n))) k' n'↔(k'=k/\n'=n)\/(k'≠k/\Has L k' n'):=by
 have hq:q<L.length:=(ady.1 hn).1;constructor
 ·rintro⟨i,hi⟩;rw[g_] at hi;split at hi
  ·cases hi;exact .inl ⟨rfl,rfl⟩
  ·refine .inr ⟨?_,i,hi⟩;rintro rfl;exact h _ ⟨i,hi⟩
 ·rintro(⟨rfl,rfl⟩|⟨hk,i,hi⟩)
  ·exact⟨q,by rw[g_,Ζ ⟨rfl,hq⟩]⟩
  ·refine⟨i,?_⟩;rw[g_,Ε]
   ·exact hi
   ·rintro⟨rfl,_⟩;rw[hn] at hi;cases hi
theorem update (t:T H L X) {q:Nat} {n0:Int} (hq:L[q]? =some (some (k,n0))):T H (L.set q (some (k,n))) X:=by
 have u:q<L.length:=(ady.1 hq).1;have old:∀(i:Nat) (k':ByteArray) (n1:Int),(L.set q (some (k,n)))[i]? =some (some (k',n1))->∃n2:Int,L[i]? =some (some (k',n2)):=by
  intro i k' n1 hi;rw[g_] at hi;split at hi
  ·rename_i h1;cases hi;exact⟨n0,by rw[<- h1.1];exact hq⟩
  ·exact⟨n1,hi⟩
 have us:∀i,used L i->used (L.set q (some (k,n))) i:=by
  rintro i ⟨e,he⟩;by_cases h:q=i
  ·exact⟨_,by rw[g_,Ζ ⟨h,u⟩]⟩
  ·exact⟨e,by rw[g_,Ε (λx=>h x.1)];exact he⟩
 refine⟨λi j k' n1 n2 hi hj=> ?_,λi k' n1 hi=> ?_⟩
 ·obtain⟨_,h1⟩:=old _ _ _ hi;obtain⟨_,h2⟩:=old _ _ _ hj;exact t.dist _ _ _ _ _ h1 h2
 ·obtain⟨_,h1⟩:=old _ _ _ hi;simp only[ajl];obtain⟨D,hD,hc,hx⟩:=t.reach i k' _ h1;exact⟨D,hD,hc,λd' hd=>(hx d' hd).imp (us _) id⟩
theorem SA (t:T H L X) {q:Nat} {n0:Int} (hq:L[q]? =some (some (k,n0))) (k':ByteArray) (n':Int):Has (L.set q (some (k,n))) k' n'↔(k'=k/\n'=n)\/(k'≠k/\Has L k' n'):=by
 have h:q<L.length:=(ady.1 hq).1;constructor
 ·rintro⟨i,hi⟩;rw[g_] at hi;split at hi
  ·cases hi;exact .inl ⟨rfl,rfl⟩
  ·rename_i h1;refine .inr ⟨?_,i,hi⟩;rintro rfl;exact h1 ⟨t.dist _ _ _ _ _ hq hi,h⟩
 ·rintro(⟨rfl,rfl⟩|⟨hk,i,hi⟩)
  ·exact⟨q,by rw[g_,Ζ ⟨rfl,h⟩]⟩
  ·refine⟨i,?_⟩;rw[g_,Ε]
   ·exact hi
   ·rintro⟨rfl,_⟩;rw[hq] at hi;cases hi;exact hk rfl
def off (m at_ i:Nat):Nat:=if at_<=i then i - at_ else i+m - at_
theorem agC (m at_ i:Nat):(at_<=i/\off m at_ i=i - at_)\/(i<at_/\off m at_ i=i+m - at_):=by
 unfold off;split<;>omega
def Xj (m at_ e j i p:Nat):Prop:=j<=off m at_ i/\off m at_ i<e/\off m at_ p<j
structure Zone (L:List vF) (at_ e j:Nat):Prop where
 at_lt:at_<L.length
 e1:e<L.length
 je:j<=e
 full:∀d,j<=d->d<e->used L (cy L.length (at_+d))
 free:L[cy L.length (at_+e)]? =some none
theorem ai7 (m at_ e i p:Nat):¬Xj m at_ e e i p:=λh=>by have:=h.1;have:=h.2.1;omega
theorem way {m at_ e j h d D:Nat} (hat:at_<m) (he:e<m) (hje:j<e) (hh:h<m) (hD:D<m) (hd:d<D) (hp:cy m (at_+j)=cy m (h+d))
  (hz:¬(j<=off m at_ (cy m (h+D))/\off m at_ (cy m (h+D))<e)):(cy m (at_+e)=cy m (h+(d+(e - j)))/\d+(e - j)<D)\/cy m (at_+e)=cy m (h+D):=by
 have c1:=cyc m (at_+j);have c2:=cyc m (h+d);have c3:=cyc m (h+D);have c4:=cyc m (at_+e);have c5:=cyc m (h+(d+(e - j)));have o1:=agC m at_ (cy m (h+D));omega
theorem clear {at_ e j:Nat} (z:Zone L at_ e j) (hj:j<e) (hH:∀k,H k<L.length) (t:T H L (Xj L.length at_ e j)):T H (L.set (cy L.length (at_+j)) none) (Xj L.length at_ e (j+1)):=by
 have J:=z.at_lt;have he:=z.e1;have hp:cy L.length (at_+j)<L.length:=MS (by omega);have old:∀(i:Nat) (k':ByteArray) (n1:Int),(L.set (cy L.length (at_+j)) none)[i]? =some (some (k',n1))->L[i]? =some (some (k',n1))/\cy L.length (at_+j)≠i:=by
  intro i k' n1 hi;rw[g_] at hi;split at hi
  ·cases hi
  ·rename_i h1;exact⟨hi,λh=>h1 ⟨h,hp⟩⟩
 refine⟨λi j' k' n1 n2 hi hj'=>t.dist _ _ _ _ _ (old _ _ _ hi).1 (old _ _ _ hj').1,λi k' n1 hi=> ?_⟩;obtain⟨hi,N⟩:=old _ _ _ hi;simp only[ajl];obtain⟨D,hD,hc,hx⟩:=t.reach i k' n1 hi;have hh:=hH k';have hlt:i<L.length:=(ady.1 hi).1;have hoff:off L.length at_ i≠j:=by
  intro h;apply N;unfold off at h;unfold cy;split at h<;>split<;>omega
 refine⟨D,hD,hc,λd hd=> ?_⟩;by_cases I:cy L.length (at_+j)=cy L.length (H k'+d)
 ·
  right;have o1:off L.length at_ (cy L.length (H k'+d))=j:=by rw[<- I];unfold off cy;split<;>split<;>omega
  refine⟨?_,?_,by omega⟩
  all_goals
   by_cases hz:j<=off L.length at_ i/\off L.length at_ i<e
   ·omega
   ·exfalso;have u:=z.free;have key:=way J he hj hh hD hd I (by rw[hc];exact hz);rcases key with ⟨k1,k2⟩|k1
    ·rcases hx _ k2 with ⟨x,hu⟩|hX
     ·rw[<- k1,u] at hu;cases hu
     ·exact hz ⟨hX.1,hX.2.1⟩
    ·rw[k1,hc,hi] at u;cases u
 ·rcases hx d hd with ⟨x,hu⟩|hX
  ·exact .inl ⟨x,by rw[g_,Ε (λh=>I h.1)];exact hu⟩
  ·exact .inr ⟨by have:=hX.1;omega,hX.2.1,by have:=hX.2.2;omega⟩
theorem least {p:Nat->Prop} (h:∃n,p n):∃n,p n/\∀m,m<n->¬p m:=by
 obtain⟨n,hn⟩:=h
 induction n using Nat.strongRecOn with
 |_ n ih=>
  by_cases hx:∃m,m<n/\p m
  ·obtain⟨m,hm,hp⟩:=hx;exact ih m hm hp
  ·exact⟨n,hn,λm hm hp=>hx ⟨m,hm,hp⟩⟩
theorem aen {h:Nat} (hs:∃d,d<L.length/\Stop L h k d):∃d,First L h k d:=by
 obtain⟨d,⟨h1,h2⟩,h3⟩:=least hs;exact⟨d,h1,h2,λd' hd hx=>h3 d' hd ⟨by omega,hx⟩⟩
theorem ad7 {m h i:Nat} (hh:h<m) (hi:i<m):off m h i<m/\cy m (h+off m h i)=i:=by
 have c1:=cyc m (h+off m h i);have o1:=agC m h i;omega
theorem FP {h i:Nat} (hh:h<L.length) (hi:L[i]? =some none):∃d,d<L.length/\Stop L h k d:=by
 have u:i<L.length:=(ady.1 hi).1;obtain⟨h1,h2⟩:=ad7 hh u;exact⟨_,h1,.inl (by rw[h2];exact hi)⟩
def cnt:List vF->Nat
 |[]=>0
 |none::r=>cnt r
 |some _::r=>cnt r+1
theorem cnt_le:∀L:List vF,cnt L<=L.length
 |[]=>aiq _
 |none::r=>by have:=cnt_le r;simp only[cnt,aeW];omega
 |some _::r=>by have:=cnt_le r;simp only[cnt,aeW];omega
theorem QJ:∀{L:List vF},cnt L<L.length->∃i:Nat,L[i]? =some none
 |[],h=>by simp[cnt] at h
 |none::_,_=>⟨0,rfl⟩
 |some _::r,h=>by
  obtain⟨i,hi⟩:=QJ (L:=r) (by simp only[cnt,aeW] at h;omega);exact⟨i+1,by simpa using hi⟩
theorem Je:∀{L:List vF} {i:Nat} {e:ByteArray×Int},L[i]? =some none->cnt (L.set i (some e))=cnt L+1
 |[],_,_,h=>by simp at h
 |x::r,0,e,h=>by simp at h;subst h;rfl
 |x::r,i+1,e,h=>by
  have:=Je (L:=r) (i:=i) (e:=e) (by simpa using h)
  cases x<;>simp only[aho,cnt,this]
theorem MR:∀{L:List vF} {i:Nat} {e:ByteArray×Int},L[i]? =some (some e)->cnt (L.set i none)+1=cnt L
 |[],_,_,h=>by simp at h
 |x::r,0,e,h=>by simp at h;subst h;rfl
 |x::r,i+1,e,h=>by
  have:=MR (L:=r) (i:=i) (e:=e) (by simpa using h)
  cases x<;>simp only[aho,cnt]<;>omega
theorem MQ:∀{L:List vF} {i:Nat} {e e':ByteArray×Int},L[i]? =some (some e)->cnt (L.set i (some e'))=cnt L
 |[],_,_,_,h=>by simp at h
 |x::r,0,_,_,h=>by simp at h;subst h;rfl
 |x::r,i+1,e,e',h=>by
  have:=MQ (L:=r) (i:=i) (e:=e) (e':=e') (by simpa using h)
  cases x<;>simp only[aho,cnt,this]
theorem afK (n:Nat):cnt (List.replicate n none)=0:=by
 induction n with
 |zero=>rfl
 |succ n ih=>rw[aki];exact ih
theorem OD (t:T H L X) {q:Nat} {n0:Int} (hq:L[q]? =some (some (k,n0))) (k':ByteArray) (n':Int):Has (L.set q none) k' n'↔k'≠k/\Has L k' n':=by
 have h:q<L.length:=(ady.1 hq).1;constructor
 ·rintro⟨i,hi⟩;rw[g_] at hi;split at hi
  ·cases hi
  ·rename_i h1;refine⟨?_,i,hi⟩;rintro rfl;exact h1 ⟨t.dist _ _ _ _ _ hq hi,h⟩
 ·rintro⟨hk,i,hi⟩;refine⟨i,?_⟩;rw[g_,Ε]
  ·exact hi
  ·rintro⟨rfl,_⟩;rw[hq] at hi;cases hi;exact hk rfl
theorem ahb {at_:Nat} (ha:used L at_) (hc:cnt L<L.length):∃e,0<e/\Zone L at_ e 0:=by
 obtain⟨x,hx⟩:=ha;have u:at_<L.length:=(ady.1 hx).1;obtain⟨i,hi⟩:=QJ hc;have I:i<L.length:=(ady.1 hi).1;obtain⟨h1,h2⟩:=ad7 u I;obtain⟨e,⟨h3,h4⟩,h5⟩:=least (p:=λe=>e<L.length/\L[cy L.length (at_+e)]? =some none) ⟨_,h1,by rw[h2];exact hi⟩;have h0:0<e:=by
  rcases Nat.eq_zero_or_pos e with h|h
  ·subst h;have:cy L.length (at_+0)=at_:=by unfold cy;simp[u]
   rw[this,hx] at h4;cases h4
  ·exact h
 refine⟨e,h0,u,h3,Nat.zero_le _,λd _ hd=> ?_,h4⟩;rcases Wp L (MS (m:=L.length) (a:=at_+d) (by omega)) with h|⟨k',n',h⟩
 ·exact absurd ⟨by omega,h⟩ (h5 d hd)
 ·exact⟨_,h⟩
theorem UG {at_ e j:Nat} (z:Zone L at_ e j) (hj:j<e):Zone (L.set (cy L.length (at_+j)) none) at_ e (j+1):=by
 have u:=z.at_lt;have he:=z.e1;refine⟨by simpa using u,by simpa using he,hj,λd h1 h2=> ?_,?_⟩
 ·obtain⟨x,hx⟩:=z.full d (by omega) h2;refine⟨x,?_⟩;rw[ajl,g_,Ε]
  ·exact hx
  ·rintro⟨h,_⟩;have:=aah u (by omega) (by omega) h;omega
 ·rw[ajl,g_,Ε]
  ·exact z.free
  ·rintro⟨h,_⟩;have:=aah u (by omega) (by omega) h;omega
theorem adx {at_ e j:Nat} (z:Zone L at_ e j) (hj:j<e) (hH:∀k,H k<L.length) (t:T H L (Xj L.length at_ e j)) {n0:Int} (h0:L[cy L.length (at_+j)]? =some (some (k,n0))):
  (∃d,First (L.set (cy L.length (at_+j)) none) (H k) k d)/\∀d,First (L.set (cy L.length (at_+j)) none) (H k) k d->
   Zone ((L.set (cy L.length (at_+j)) none).set (cy L.length (H k+d)) (some (k,n0))) at_ e (j+1)/\
   T H ((L.set (cy L.length (at_+j)) none).set (cy L.length (H k+d)) (some (k,n0))) (Xj L.length at_ e (j+1))/\
   (∀k' n',Has ((L.set (cy L.length (at_+j)) none).set (cy L.length (H k+d)) (some (k,n0))) k' n'↔Has L k' n')/\
   cnt ((L.set (cy L.length (at_+j)) none).set (cy L.length (H k+d)) (some (k,n0)))=cnt L:=by
 have R:=z.at_lt;have he:=z.e1;have hp0:cy L.length (at_+j)<L.length:=MS (by omega);have I:(L.set (cy L.length (at_+j)) none).length=L.length:=ajl;have u:(L.set (cy L.length (at_+j)) none)[cy L.length (at_+j)]? =some none:=by rw[g_,Ζ ⟨rfl,hp0⟩]
 refine⟨aen (FP (by rw[I];exact hH k) u),λd f=> ?_⟩;have t1:=clear z hj hH t;have z1:=UG z hj;have N:∀n,¬Has (L.set (cy L.length (at_+j)) none) k n:=λn h=>((OD t h0 k n).1 h).1 rfl;have J:=La N (by rw[I];exact hH k) f;have ins:=insert (n:=n0) t1 N (by rw[I];exact hH k) f;rw[I] at J ins;have hd:d<L.length:=by have:=f.lt;rwa [I] at this
 have hq:=MS (m:=L.length) (a:=H k+d) (by have:=hH k;omega);have O:off L.length at_ (cy L.length (H k+d))<=j:=by
  obtain⟨D,hD,hc,hx⟩:=t.reach _ _ _ h0;have hle:¬D<d:=λU=>by
   obtain⟨x,hx⟩:=J.2 D U;rw[hc,u] at hx;cases hx
  by_cases Y:d=D
  ·rw[Y,hc];have c1:=cyc L.length (at_+j);have o1:=agC L.length at_ (cy L.length (at_+j));omega
  ·rcases hx d (by omega) with ⟨x,hu⟩|hX
   ·have:=J.1;rw[g_,Ε] at this
    ·rw[hu] at this;cases this
    ·rintro⟨h,_⟩;rw[<- hc] at h;have:=aah (hH k) hD hd h;omega
   ·have:=hX.2.2;omega
 have keep:∀c,j<c->c<=e->¬(cy L.length (H k+d)=cy L.length (at_+c)/\cy L.length (H k+d)<(L.set (cy L.length (at_+j)) none).length):=by
  rintro c h1 h2 ⟨h,_⟩;rw[h] at O;have c1:=cyc L.length (at_+c);have o1:=agC L.length at_ (cy L.length (at_+c));omega
 refine⟨⟨by simpa using R,by simpa using he,hj,λc h1 h2=> ?_,?_⟩,ins,λk' n'=> ?_,?_⟩
 ·obtain⟨x,hx⟩:=z1.full c h1 h2;rw[I] at hx;refine⟨x,?_⟩;simp only[ajl];rw[g_,Ε (keep c (by omega) (by omega))];exact hx
 ·have:=z1.free;rw[I] at this;simp only[ajl];rw[g_,Ε (keep e hj (aiq _))];exact this
 ·rw[Fb J.1 N,OD t h0];constructor
  ·rintro(⟨rfl,rfl⟩|⟨_,_,h⟩)
   ·exact⟨_,h0⟩
   ·exact h
  ·rintro⟨i,hi⟩;by_cases hk:k'=k
   ·subst hk;have:=t.dist _ _ _ _ _ h0 hi;rw[<- this,h0] at hi
    cases hi
    exact .inl ⟨rfl,rfl⟩
   ·exact .inr ⟨hk,hk,i,hi⟩
 ·rw[Je J.1];exact MR h0
end
end Gp.Hash
end
