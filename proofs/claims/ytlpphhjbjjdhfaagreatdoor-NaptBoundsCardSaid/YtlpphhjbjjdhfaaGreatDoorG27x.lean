import Derived.Test.YtlpphhjbjjdhfaaGreatDoorG27
set_option maxRecDepth 100000
set_option maxHeartbeats 4000000
namespace Go.Proofs
open Gp
theorem P5 {c d e w K}:gB (qM c d e w K)
 (Ε w [Β c,Β d,Β e] 52 λb a=>fM a b λf=>fM a (b.add 1) λg=>fM a (b.add 2) λh=>Ε a [Β f,Β g,Β h] 3 λi j=>Fh ⟨(some i),3,3⟩ j λk l=>K k l):=χ Tryz.func125
theorem Hq {b c d e w K}:gB (oD b c d e w K)
 (Ε w [Β d,Β e] 98 λf j=>jh b j λk a=>(cond (!k) (K 0 false a) (Pt b λg=>Ld .ptr a.drew (g.add 1) λh=>fM a.drew (f.add 0) λl=>fM a.drew (f.add 1) λm=>uY c l m a.drew λn i=>i.cell? (g.add 1)=some (.pointer h)/\
 oZ h n i λo p q=>K o p q))):=χ Tryz.func126
theorem pO {a b w K}:gB (kK a b w K)
 (lI a b w λc d=>K (decide (c>=0)) d):=χ Tryz.func127
theorem Ou {A0 A1 f0 w K}:gB (Pg A0 A1 f0 w K)
 (Ε w [Β A0,Β A1] 98 λb a=>fM a b λc=>fM a f0 λd=>K (c==d) a):=χ Tryz.func128
theorem rE {b c d w K}:gB (lN b c d w K)
 (Ε w [Β c,Β d] 98 λe a=>fM a (e.add 0) λf=>fM a (e.add 1) λg=>mQ b f g a λh i=>K (decide (h>=0)) i):=χ Tryz.func129
theorem Lj {a b w K}:gB (nN a b w K)
 (iI (Value.pointer a)=true/\
 Ε w [.pointer a] 67 λc d=>iI (Β b)=true/\
 Ε d [Β b] 3 λe f=>K (Value.func (.func 221) #[] #[(Value.pointer (some c)),(Value.pointer (some e))]) f):=χ Tryz.func130
theorem Oo {A0 A1 A2 A3 A4 A5 A6 A7 A8 A9 u I J N O R w K}:gB (O9 A0 A1 A2 A3 A4 A5 A6 A7 A8 A9 u I J N O R w K)
 (Ε w (nI A0 A1 A2 A3 A4 A5 A6 A7 A8 A9 u I J N O R) 23 λb a=>uS a b λc d e f g h i j k l m n o p q r=>FV c d e f g h i j k l m n o p q r a λs t=>K (!s) t):=χ Tryz.func131
theorem aac {b c d e f g h i j k l m n o p q w K}:gB (FV b c d e f g h i j k l m n o p q w K)
 (Ε w (nI b c d e f g h i j k l m n o p q) 23 λr t=>Ε t (nI 0 0 0 0 0 0 0 0 0 0 0 0 0 0 0 0) 23 λu a=>let s:Bool->Prop:=λv=>(K v a)
 uS a r λx y z A B C D E F G H I J L M N=>uS a u λO P Q R S T U V W X Y Z aa ab ac ad=>(cond (!((x==O) && ((y==P) && ((z==Q) && ((A==R) && ((B==S) && ((C==T) && ((D==U) && ((E==V) && ((F==W) && ((G==X) && ((H==Y) && ((I==Z) && ((J==aa) && ((L==ab) && ((M==ac) && ((N==ad) && true))))))))))))))))) ((0:Int)<=0/\0<(16:Int)/\
 Ld (.int .u8) a (r.add (Int.toNat 0 * 1)) λae=>s (ae !=255)) (s false))):=χ Tryz.func132
theorem Oq {a0 w K}:gB (O_ a0 w K)
 (r_ a0 w λa b=>K (!a) b):=χ Tryz.func133
theorem Ot {A0 A1 A2 A3 A4 A5 A6 f0 w K}:gB (Pe A0 A1 A2 A3 A4 A5 A6 f0 w K)
 (Ε w [Β A0,Β A1,Β A2,Β A3,Β A4,Β A5,Β A6] 54 λb a=>oN a f0 λc d e f g h i j k l m n o p q r s t u v x y z A B C D E F G H I J L M N=>fM a (b.add 0) λO=>fM a (b.add 1) λP=>fM a (b.add 2) λQ=>fM a (b.add 3) λR=>fM a (b.add 4) λS=>fM a (b.add 5) λT=>fM a (b.add 6) λU=>DR c d e f g h i j k l m n o p q r s t u v x y z A B C D E F G H I J L M N O P Q R S T U a λV W=>K (!V) W):=χ Tryz.func134
theorem UH {g h i j k l m n o p q r s t u v x y z A B C D E F G H I J L M N O P Q R S T U V W X Y w K}:gB (DR g h i j k l m n o p q r s t u v x y z A B C D E F G H I J L M N O P Q R S T U V W X Y w K)
 (Ε w (jd g h i j k l m n o p q r s t u v x y z A B C D E F G H I J L M N O P Q R) 28 λZ w3=>Ε w3 [Β S,Β T,Β U,Β V,Β W,Β X,Β Y] 54 λa w5=>let J7:Bool->b_:=λj8 w9=>(let ad:Bool->b_:=λai ae=>(let af:Bool->b_:=λaj b=>(let c:Bool->b_:=λak al=>(K ak al)
 (cond j8 (cond ai (cond aj (fM b a λam=>Ld .slice b (Z.add 16) λan=>kN am 0 (ο.wrap ((an.len:Int) - 1)) b λao ap=>c ao ap) (c false b)) (c false b)) (c false b)))
 fM ae (a.add 1) λaq=>Bf aq ae λar d=>(cond ar (fM d (a.add 1) λau=>fM d (a.add 4) λav=>af (au==av) d) (af false d)))
 fM w9 (a.add 2) λaw=>r_ aw w9 λax e=>(cond ax (Ld .slice e (Z.add 17) λay=>fM e ((a.add 4).add 1) λaz=>iR ay az e λaA aB=>ad aA aB) (ad false e)))
 fM w5 (a.add 3) λaC=>kN aC 0 65535 w5 λaD f=>(cond aD (fM f ((a.add 4).add 2) λaE=>kN aE 0 65535 f λaF aG=>J7 aF aG) (J7 false f))):=χ Tryz.func135
theorem sQ {a b w K}:gB (jS a b w K)
 (kH a b w λc d=>K (decide (c>=0)) d):=χ Tryz.func136
theorem yg {a b w K}:gB (jV a b w K)
 (jQ a b w λc d=>K (decide (c>=0)) d):=χ Tryz.func137
theorem pR {a b w K}:gB (jq a b w K)
 (jJ a b w λc d=>K (decide (c>=0)) d):=χ Tryz.func138
theorem xw {b w K}:gB (jR b w K)
 ((cond (Option.isNone b.a) (K ⟨none,0,0⟩ w) (Ε w [] 23 λc d=>mG 23 16 16 (nI 0 0 0 0 0 0 0 0 0 0 0 0 0 0 0 0) ⟨(some c),0,0⟩ b d λe f=>K e f))):=χ Tryz.func139
theorem KI {e f g h i j k w K}:gB (A_ e f g h i j k w K)
 (Ε w [Β e,Β f,Β g,Β h,Β i,Β j,Β k] 54 λd l=>Ε l am2 50 λa b=>fM b (d.add 0) λm=>fM b (d.add 1) λn=>fM b (d.add 2) λo=>fM b (d.add 3) λp=>h_ [Β m,Β n,Β o,Β p] b a 0 λc=>fM c (a.add 0) λq=>fM c (a.add 1) λr=>fM c (a.add 2) λs=>fM c (a.add 3) λt=>K q r s t c):=χ Tryz.func140
theorem KJ {e f g h i j k w K}:gB (Ba e f g h i j k w K)
 (Ε w [Β e,Β f,Β g,Β h,Β i,Β j,Β k] 54 λd l=>Ε l amT 52 λa b=>fM b ((d.add 4).add 0) λm=>fM b ((d.add 4).add 1) λn=>fM b ((d.add 4).add 2) λo=>h_ [Β m,Β n,Β o] b a 0 λc=>fM c (a.add 0) λp=>fM c (a.add 1) λq=>fM c (a.add 2) λr=>K p q r c):=χ Tryz.func141
theorem EH {j w K}:gB (qg j w K)
 (Ε w [.bool false] 4 λe k=>Al k (.map #[] 0) λa5 n=>Ε n [.map none] 353 λf o=>St o f (.map (some k.heap.size)) λd=>xk υ none [.agg SX] j d (λb a l m=>Ε l (nI 0 0 0 0 0 0 0 0 0 0 0 0 0 0 0 0) 23 λg p=>h_ (nI a.1.1 a.1.2.1 a.1.2.2.1 a.1.2.2.2.1 a.1.2.2.2.2.1 a.1.2.2.2.2.2.1 a.1.2.2.2.2.2.2.1 a.1.2.2.2.2.2.2.2.1 a.1.2.2.2.2.2.2.2.2.1 a.1.2.2.2.2.2.2.2.2.2.1 a.1.2.2.2.2.2.2.2.2.2.2.1 a.1.2.2.2.2.2.2.2.2.2.2.2.1 a.1.2.2.2.2.2.2.2.2.2.2.2.2.1 a.1.2.2.2.2.2.2.2.2.2.2.2.2.2.1 a.1.2.2.2.2.2.2.2.2.2.2.2.2.2.2.1 a.1.2.2.2.2.2.2.2.2.2.2.2.2.2.2.2.1) p g 0 λc=>c.heap[b]? =l.heap[b]? /\
 Ld .map (gu c b) f λq=>uS (gu c b) g λr s t u v x y z A B C D E F G H=>pY υ 23 .bool q (Value.agg ⟨nI r s t u v x y z A B C D E F G H⟩) (Value.bool false) (gu c b) λI=>(cond I (St (gu c b) e (Value.bool true) λJ=>m .ret J) (Ld .map (gu c b) f λL=>uS (gu c b) g λM N O P Q R S T U V W X Y Z aa ab=>oK υ 23 L (Value.agg ⟨nI M N O P Q R S T U V W X Y Z aa ab⟩) (Value.bool true) (gu c b) λac=>m .normal ac)))
 (λad=>St ad e (.bool false) λh=>Η h d/\
 Ld .bool (jB h d) e λae=>K ae (jB h d))
 (λi=>Η i d/\
 Ld .bool (jB i d) e λaf=>K af (jB i d))
 []):=χ Tryz.func142 (fQ (fQ (.seq (fQ (.blk (.rng [.agg SX] .leaf .leaf))) .leaf)))
theorem xZ {b c w K}:gB (lY b c w K)
 (iI (Δ b)=true/\
 Ε w [Δ b] 24 λd e=>iI c=true/\
 Ε e [c] 255 λf g=>K (Value.func (.func 226) #[] #[(Value.pointer (some d)),(Value.pointer (some f))]) g):=χ Tryz.func143
theorem Ef {a b c d e f g h i j k l m n o p w K}:gB (vX a b c d e f g h i j k l m n o p w K)
 (Ε w (nI a b c d e f g h i j k l m n o p) 23 λt u=>Ε u (nI 0 0 0 0 0 0 0 0 0 0 0 0 0 0 0 0) 23 λq r=>uS r t λv x y z A B C D E F G H I J L M=>h_ (nI v x y z A B C D E F G H I J L M) r q 0 λs=>uS s q λN O P Q R S T U V W X Y Z aa ab ac=>K N O P Q R S T U V W X Y Z aa ab ac s):=χ Tryz.func144
theorem KN {h w K}:gB (vI h w K)
 (Ε w [.bool false] 4 λd i=>Al i (.map #[] 0) λv l=>Ε l [.map none] 354 λe m=>St m e (.map (some i.heap.size)) λa=>xk υ none [.one ν] h a (λb j c k=>c.heap[b]? =c.heap[b]? /\
 Ld .map (gu c b) e λn=>pY υ 3 .bool n (Β j.1) (Value.bool false) (gu c b) λo=>(cond o (St (gu c b) d (Value.bool true) λp=>k .ret p) (Ld .map (gu c b) e λq=>oK υ 3 q (Β j.1) (Value.bool true) (gu c b) λr=>k .normal r)))
 (λs=>St s d (.bool false) λf=>Η f a/\
 Ld .bool (jB f a) d λt=>K t (jB f a))
 (λg=>Η g a/\
 Ld .bool (jB g a) d λu=>K u (jB g a))
 []):=χ Tryz.func145 (fQ (fQ (.seq (fQ (.blk (.rng [.one ν] .leaf .leaf))) .leaf)))
theorem Gj {b c w K}:gB (qY b c w K)
 (iI (Δ b)=true/\
 Ε w [Δ b] 25 λd e=>iI c=true/\
 Ε e [c] 85 λf g=>K (Value.func (.func 227) #[] #[(Value.pointer (some d)),(Value.pointer (some f))]) g):=χ Tryz.func146
theorem IZ {a0 w K}:gB (Ky a0 w K)
 (K a0 w):=χ Tryz.func147
theorem CO {j w K}:gB (oL j w K)
 (Ε w [.bool false] 4 λe k=>Al k (.map #[] 0) λH n=>Ε n [.map none] 355 λg o=>St o g (.map (some k.heap.size)) λd=>xk υ none [.agg [ν,ν,ν,ν]] j d (λa f l m=>Ε l am2 50 λc p=>h_ [Β f.1.1,Β f.1.2.1,Β f.1.2.2.1,Β f.1.2.2.2.1] p c 0 λb=>b.heap[a]? =l.heap[a]? /\
 Ld .map (gu b a) g λq=>fM (gu b a) (c.add 0) λr=>fM (gu b a) (c.add 1) λs=>fM (gu b a) (c.add 2) λt=>fM (gu b a) (c.add 3) λu=>pY υ 50 .bool q (Value.agg ⟨[Β r,Β s,Β t,Β u]⟩) (Value.bool false) (gu b a) λv=>(cond v (St (gu b a) e (Value.bool true) λx=>m .ret x) (Ld .map (gu b a) g λy=>fM (gu b a) (c.add 0) λz=>fM (gu b a) (c.add 1) λA=>fM (gu b a) (c.add 2) λB=>fM (gu b a) (c.add 3) λC=>oK υ 50 y (Value.agg ⟨[Β z,Β A,Β B,Β C]⟩) (Value.bool true) (gu b a) λD=>m .normal D)))
 (λE=>St E e (.bool false) λh=>Η h d/\
 Ld .bool (jB h d) e λF=>K F (jB h d))
 (λi=>Η i d/\
 Ld .bool (jB i d) e λG=>K G (jB i d))
 []):=χ Tryz.func148 (fQ (fQ (.seq (fQ (.blk (.rng [.agg [ν,ν,ν,ν]] .leaf .leaf))) .leaf)))
theorem vg {b c w K}:gB (kD b c w K)
 (iI (Δ b)=true/\
 Ε w [Δ b] 26 λd e=>iI c=true/\
 Ε e [c] 249 λf g=>K (Value.func (.func 228) #[] #[(Value.pointer (some d)),(Value.pointer (some f))]) g):=χ Tryz.func149
theorem CP {j w K}:gB (oM j w K)
 (Ε w [.bool false] 4 λe k=>Al k (.map #[] 0) λF n=>Ε n [.map none] 151 λf o=>St o f (.map (some k.heap.size)) λc=>xk υ none [.agg [ν,ν,ν]] j c (λa g l m=>Ε l amT 52 λd p=>h_ [Β g.1.1,Β g.1.2.1,Β g.1.2.2.1] p d 0 λb=>b.heap[a]? =l.heap[a]? /\
 Ld .map (gu b a) f λq=>fM (gu b a) (d.add 0) λr=>fM (gu b a) (d.add 1) λs=>fM (gu b a) (d.add 2) λt=>pY υ 52 .bool q (Value.agg ⟨[Β r,Β s,Β t]⟩) (Value.bool false) (gu b a) λu=>(cond u (St (gu b a) e (Value.bool true) λv=>m .ret v) (Ld .map (gu b a) f λx=>fM (gu b a) (d.add 0) λy=>fM (gu b a) (d.add 1) λz=>fM (gu b a) (d.add 2) λA=>oK υ 52 x (Value.agg ⟨[Β y,Β z,Β A]⟩) (Value.bool true) (gu b a) λB=>m .normal B)))
 (λC=>St C e (.bool false) λh=>Η h c/\
 Ld .bool (jB h c) e λD=>K D (jB h c))
 (λi=>Η i c/\
 Ld .bool (jB i c) e λE=>K E (jB i c))
 []):=χ Tryz.func150 (fQ (fQ (.seq (fQ (.blk (.rng [.agg [ν,ν,ν]] .leaf .leaf))) .leaf)))
theorem vk {b c w K}:gB (kF b c w K)
 (iI (Δ b)=true/\
 Ε w [Δ b] 26 λd e=>iI c=true/\
 Ε e [c] 250 λf g=>K (Value.func (.func 229) #[] #[(Value.pointer (some d)),(Value.pointer (some f))]) g):=χ Tryz.func151
theorem KL {a0 f0 w K}:gB (Me a0 f0 w K)
 (fM w (f0.add 20) λa=>K (decide (a0>a)) w):=χ Tryz.func152
theorem LM {a w K}:gB (lS a w K)
 (let b:Bool->Prop:=λc=>(K c w)
 (cond (decide (a>=0)) (b (decide (a<4294967296))) (b false))):=χ Tryz.func153
theorem QH {f b w K}:gB (TD f b w K)
 (iH (S:=Int×Unit) (λc a i=>(cond (decide (c.1<(b.len:Int))) (iE b 2 c.1 λg=>fM a (g.add 0) λj=>fM a (g.add 1) λk=>Ε a amS 270 λd l=>h_ [Β j,Β k] l d 0 λe=>fM e (d.add 0) λm=>fM e (d.add 1) λn=>xH m n f e λo h=>(cond o (K true h) (i ((ο.wrap (c.1+1)),()) h))) (K false a))) (0,()) w):=χ Tryz.func154 (fQ (.seq (fQ (.blk (.loop [(9,ν)] .leaf))) .leaf))
theorem wo {c d w K}:gB (nC c d w K)
 (iH (S:=Int×Unit) (λa b e=>(cond (decide (a.1<(c.len:Int))) (iE c 1 a.1 λf=>fM b f λg=>(cond (d==g) (K a.1 b) (e ((ο.wrap (a.1+1)),()) b))) (K (-1) b))) (0,()) w):=χ Tryz.func155 (fQ (.seq (fQ (.blk (.loop [(8,ν)] .leaf))) .leaf))
theorem P8 {a c w K}:gB (vG a c w K)
 (let d:Bool->b_:=λe f=>(K e f)
 jU a w λg b=>(cond g (Pt a λh=>Ld .slice b (h.add 2) λi=>iR i c b λj k=>d j k) (d false b))):=χ Tryz.func156
theorem Zb {a w K}:gB (CZ a w K)
 (let b:Bool->Prop:=λc=>(K c w)
 (cond (decide (a>=0)) (b (decide (a<=65535))) (b false))):=χ Tryz.func157
theorem PZ {c d e f w K}:gB (qL c d e f w K)
 (Ε w [Β c,Β d,Β e,Β f] 50 λb a=>fM a b λg=>fM a (b.add 1) λh=>fM a (b.add 2) λi=>fM a (b.add 3) λj=>Ε a [Β g,Β h,Β i,Β j] 3 λk l=>Fh ⟨(some k),4,4⟩ l λm n=>K m n):=χ Tryz.func158
theorem OJ {b c w K}:gB (pz b c w K)
 (let d:Bool->Prop:=λf=>((cond f (K none 2 w) (let e:Bool->Prop:=λg=>((cond g (K none 1 w) (Pt b λh=>Ld .slice w h λi=>iE i 2 c λj=>K (some j) 0 w)))
 (cond (decide (c<0)) (e true) (Pt b λk=>Ld .slice w k λl=>e (decide (c>=(l.len:Int))))))))
 (cond (Option.isNone b) (d true) (Pt b λm=>Ld .slice w m λn=>d (Option.isNone n.a)))):=χ Tryz.func159
theorem UE {a w K}:gB (DL a w K)
 (lD a w λc b=>(cond (!c) (K 0 b) (Pt a λd=>fM b (d.add 3) λe=>K e b))):=χ Tryz.func160
theorem Le {b c w K}:gB (vO b c w K)
 (Ε w [Β b,Β c] 158 λd a=>fM a d λe=>fM a (d.add 1) λf=>K (decide (e>=f)) a):=χ Tryz.func161
theorem BZ {a w K}:gB (jU a w K)
 (let b:Bool->Prop:=λc=>(K c w)
 (cond (!(Option.isNone a)) (Pt a λd=>Ld .map w (d.add 3) λe=>b (!(Option.isNone e))) (b false))):=χ Tryz.func162
theorem LP {a w K}:gB (tC a w K)
 (let b:Bool->Prop:=λc=>((cond c (K true w) (K false w)))
 (cond (a==1) (b (a==1)) (cond (a==6) (b (a==6)) (b (a==17))))):=χ Tryz.func163
theorem Rh {c w K}:gB (AX c w K)
 (Pt c λd=>Ld .slice w d λe=>iH (S:=Int×Unit) (λb a f=>(cond (decide (b.1<(e.len:Int))) (Pt c λg=>Ld .slice a g λh=>iE h 9 b.1 λi=>Ld .bool a (i.add 8) λj=>(cond (!j) (K b.1 true a) (f ((ο.wrap (b.1+1)),()) a))) (K 0 false a))) (0,()) w):=χ Tryz.func164 (fQ (.seq (fQ (.blk (.loop [(10,ν)] .leaf))) .leaf))
theorem Oz {a c d w K}:gB (o9 a c d w K)
 (nK a w λh e=>(cond (!h) (K 2 e) (jo a c e λi j b=>(cond j (Pt a λk=>Ld .slice b k λl=>iE l 3 i λm=>St b (m.add 1) (Β d) λn=>K 0 n) (Pt a λo=>fM b.drew (o.add 1) λp=>Pt a λq=>fM b.drew (q.add 2) λr=>(cond (decide (p>=r)) (K 7 b.drew) (wG a b.drew λs=>jo a c s λt C f=>Pt a λu=>Ld .slice f u λv=>iE v 3 t λx=>h_ [.string c,Β d,.bool true] f x 0 λg=>Pt a λy=>fM g (y.add 1) λz=>Pt a λA=>St g (A.add 1) (Β (ο.wrap (z+1))) λB=>K 0 B))))))):=χ Tryz.func165
theorem Lp {d w K}:gB (vS d w K)
 (iH (S:=Int×Unit) (λa e g=>(cond (decide (a.1<7)) (Pt d λh=>fM e (h.add 449) λi=>0<=(ο.wrap (6 * a.1))/\
 iH (S:=Int×Unit) (λb c j=>(cond (decide (b.1<64)) (Pt d λk=>(0:Int)<=a.1/\a.1<(7:Int)/\
 (0:Int)<=b.1/\b.1<(64:Int)/\
 Ld .slice c ((k.add (Int.toNat a.1 * 64)).add (Int.toNat b.1 * 1)) λf=>(cond (decide ((f.len:Int)>0)) (jK f (Value.func (.func 233) #[] #[]) c λn l o m=>K l true m) (j ((ο.wrap (b.1+1)),()) c))) (g ((ο.wrap (a.1+1)),()) c))) ((lu .i64 (jE .i64 i (ο.wrap (6 * a.1))) 63),()) e) (K 0 false e))) (0,()) w):=χ Tryz.func166 (fQ (.seq (fQ (.blk (.loop [(8,ν)] (fQ (fQ (.seq (.blk (fQ (fQ (fQ (.blk (.loop [(6,ν)] .leaf)))))) .leaf)))))) .leaf))
theorem Hw {c b w K}:gB (oH c b w K)
 (Pt c λk=>fM w (k.add 449) λl=>yM l b w λm n=>iH (S:=fU×Int×Unit) (λa g o=>(cond (decide (a.2.1>0)) (0<=(ο.wrap (6 * a.2.1))/\
 Pt c λj=>(0:Int)<=a.2.1/\a.2.1<(7:Int)/\
 (0:Int)<=(lu .i64 (jE .i64 b (ο.wrap (6 * a.2.1))) 63)/\(lu .i64 (jE .i64 b (ο.wrap (6 * a.2.1))) 63)<(64:Int)/\
 Pt (some ((j.add (Int.toNat a.2.1 * 64)).add (Int.toNat (lu .i64 (jE .i64 b (ο.wrap (6 * a.2.1))) 63) * 1))) λp=>Ld .slice g.drew p λq=>mG 335 3 24 [(Β 0),(Β 0),(Β 0)] a.1 q g.drew λr s=>Pt (some ((j.add (Int.toNat a.2.1 * 64)).add (Int.toNat (lu .i64 (jE .i64 b (ο.wrap (6 * a.2.1))) 63) * 1))) λt=>St s t (.slice none 0 0) λu=>o (r,(ο.wrap (a.2.1 - 1)),()) u) (Pt c λv=>St g (v.add 449) (Β b) λx=>iH (S:=Int×Unit) (λh d y=>(cond (decide (h.1<(a.1.len:Int))) (iE a.1 3 h.1 λi=>fM d (i.add 0) λz=>fM d (i.add 1) λA=>fM d (i.add 2) λB=>Ε d amT 335 λe C=>h_ [Β z,Β A,Β B] C e 0 λf=>fM f (e.add 0) λD=>fM f (e.add 1) λE=>fM f (e.add 2) λF=>rP c D E F f λG=>y ((ο.wrap (h.1+1)),()) G) (K d))) (0,()) x))) (⟨none,0,0⟩,m,()) n):=χ Tryz.func167 (fQ (.seq (fQ (.blk (.loop [(4,.slice),(5,ν)] .leaf))) (fQ (fQ (.blk (.loop [(43,ν)] .leaf))))))
theorem Nr {g w K}:gB (wO g w K)
 (iI (Value.pointer g)=true/\
 Ε w [.pointer g] 68 λb e=>Ld .ptr e.drew b λp=>Ld .ptr e.drew b λq=>Pt q λr=>fM e.drew (r.add 449) λs=>nO p s e.drew λh m=>Pt h λt=>Ld .slice m t λu=>jP u m λv x=>iJ v (Value.func (.func 239) #[] #[(Value.pointer (some b))]) x λi n=>Pt h λy=>Ld .slice n y λz=>iJ z (Value.func (.func 240) #[] #[(Value.pointer (some b))]) n λj A=>Pt h λB=>St A B (Δ j) λC=>iW i (Value.func (.func 242) #[] #[]) C λD=>iH (S:=fU×Int×Unit) (λc d E=>(cond (decide (c.2.1<(i.len:Int))) (iE i 3 c.2.1 λk=>fM d (k.add 0) λF=>fM d (k.add 1) λG=>fM d (k.add 2) λH=>Ε d amT 335 λl I=>h_ [Β F,Β G,Β H] I l 0 λf=>Ld .ptr f.drew b λJ=>Pt J λL=>Ld .map f.drew (L.add 448) λM=>fM f.drew l λN=>E5 υ 3 M (Β N) f.drew λo=>fM o l λO=>Ε o [Β O] 3 λP Q=>mG 3 1 8 [(Β 0)] c.1 ⟨(some P),1,1⟩ Q λR T=>E (R,(ο.wrap (c.2.1+1)),()) T) (K c.1 d))) (⟨none,0,0⟩,0,()) D):=χ Tryz.func168 (fQ (fQ (fQ (fQ (fQ (fQ (.seq (fQ (.blk (.loop [(5,.slice),(31,ν)] .leaf))) .leaf)))))))
theorem Jm {b c w K}:gB (mP b c w K)
 (let d:Bool->b_:=λe f=>(K e f)
 jh b w λg a=>(cond g (cond (decide (c>=0)) (Pt b λh=>Ld .slice a h λi=>(cond (decide (c<(i.len:Int))) (Pt b λj=>Ld .slice a j λk=>iE k 6 c λl=>Ld .bool a (l.add 5) λm=>d m a) (d false a))) (d false a)) (d false a))):=χ Tryz.func169
theorem I4 {j o w K}:gB (mJ j o w K)
 (iI (Value.pointer j)=true/\
 Ε w [.pointer j] 159 λa p=>Ld .ptr p a λy=>nK y p λz k=>(cond (!z) (K false k) (Ld .ptr k a λA=>jo A o k λq B h=>(cond (!B) (K false h) (Ld .ptr h a λC=>Pt C λD=>Ld .slice h D λE=>iE E 3 q λF=>h_ [.string (bs []),Β 0,.bool false] h F 0 λl=>Ld .ptr l a λr=>Pt r λG=>fM l (G.add 1) λH=>Pt r λI=>St l (I.add 1) (Β (ο.wrap (H - 1))) λi=>let s:List Nat->b_:=λJ L=>(wE J L λM=>K true M)
 Ld .ptr i.drew a λN=>Ld .ptr i.drew a λO=>Pt O λP=>Ld .slice i.drew P λt=>(t.len:Int)≠0/\
 rG N (Int.tmod (ο.wrap (q+1)) (t.len:Int)) i.drew λQ f=>xk υ none [.one ν] Q f (λb u c v=>c.heap[b]? =c.heap[b]? /\
 Ld .ptr (gu c b) a λR=>Pt R λS=>Ld .slice (gu c b) S λT=>iE T 3 u.1 λm=>Ld .str (gu c b) (m.add 0) λU=>fM (gu c b) (m.add 1) λV=>Ld .bool (gu c b) (m.add 2) λW=>Al (gu c b) (.cells ⟨[.string (bs []),Β 0,.bool false]⟩ 346) λd X=>h_ [.string U,Β V,.bool W] X d 0 λg=>Ld .bool g (d.add 2) λY=>(cond (!Y) (v (.exit 0) g) (Ld .ptr g a λZ=>Pt Z λaa=>Ld .slice g aa λab=>iE ab 3 u.1 λac=>h_ [.string (bs []),Β 0,.bool false] g ac 0 λn=>Ld .ptr n a λad=>Ld .str n d λae=>jo ad ae n λaf aq e=>Ld .ptr e.drew a λag=>Pt ag λah=>Ld .slice e.drew ah λai=>Ld .str e.drew (d.add 0) λaj=>fM e.drew (d.add 1) λak=>Ld .bool e.drew (d.add 2) λal=>iE ai 3 af λam=>h_ [.string aj,Β ak,.bool al] e.drew am 0 λan=>v .normal an)))
 (λao=>s (f.heap.size::[]) ao)
 (λx=>Η x f/\
 K false (jB x f))
 [(0,(λap=>s (f.heap.size::[]) ap))]))))):=χ Tryz.func170 (fQ (fQ (fQ (fQ (fQ (fQ (fQ (.seq (fQ (.blk (.rng [.one ν] .leaf .leaf))) .leaf))))))))
theorem U9 {d e f w K}:gB (uY d e f w K)
 (Ε w [Β e,Β f] 98 λg c=>fM c g λi=>fM c (g.add 1) λj=>Ε c [Β d,Β i,Β j] 3 λk l=>iH (S:=fU×Int×Unit) (λa b m=>(cond (decide (a.2.1<(3:Int))) (iE ⟨(some k),3,3⟩ 1 a.2.1 λn=>fM b n λh=>0<=(32:Int)/\
 ou a.1 (lu .i64 (jE .i64 h 32) 4294967295) 4 b λo p=>ou o (lu .i64 h 4294967295) 4 p λq r=>m (q,(ο.wrap (a.2.1+1)),()) r) (Hy b a.1 λs=>K s b))) (⟨none,0,0⟩,0,()) l):=χ Tryz.func171 (fQ (fQ (.seq (fQ (.blk (.loop [(5,.slice),(15,ν)] .leaf))) .leaf)))
theorem zS {a c w K}:gB (ny a c w K)
 (jQ a c w λd f=>(cond (d==(-1)) (K a f) (iH (S:=Int×Int×Unit) (λb e k=>(cond (decide (b.2.1<(a.len:Int))) (let g:Int->b_:=λl m=>(k (l,(ο.wrap (b.2.1+1)),()) m)
 iE a 1 b.2.1 λn=>fM e n λh=>jy υ [.one .bool] c [(Β h)] e λo i=>∃j:Bool,o=(Value.bool j)/\
 (cond (!j) (iE a 1 b.1 λp=>St i p (Β h) λq=>g (ο.wrap (b.1+1)) q) (g b.1 i))) (kM a 1 b.1 (a.len:Int) λr=>JE [(Β 0)] r e λs=>kM a 1 0 b.1 λt=>K t s))) (d,(ο.wrap (d+1)),()) f))):=χ Tryz.func172 (fQ (fQ (fQ (.seq (fQ (.blk (.loop [(5,ν),(6,ν)] .leaf))) .leaf))))
theorem CQ {a b w K}:gB (uX a b w K)
 (fM w b λc=>K (a==c) w):=χ Tryz.func173
theorem Ol {a e w K}:gB (xE a e w K)
 (yE a e w λo f=>(cond (!o) (K false f) (Pt a λp=>Ld .slice f p λq=>iE q 9 e λr=>aj2 f r λs t u v x y z A B=>Ε f (aa4 0 0 0 0 0 0 0 false false) 192 λb C=>h_ (aa4 s t u v x y z A B) C b 0 λc=>Pt a λg=>Ld .ptr c.drew (g.add 1) λh=>fM c.drew (b.add 0) λD=>fM c.drew (b.add 1) λE=>fM c.drew (b.add 2) λF=>fM c.drew (b.add 3) λG=>qL D E F G c.drew λH i=>i.cell? (g.add 1)=some (.pointer h)/\
 mJ h H i λU d=>Pt a λj=>Ld .ptr d.drew (j.add 2) λk=>fM d.drew ((b.add 4).add 0) λI=>fM d.drew ((b.add 4).add 1) λJ=>fM d.drew ((b.add 4).add 2) λL=>qM I J L d.drew λM l=>l.cell? (j.add 2)=some (.pointer k)/\
 mJ k M l λV m=>Pt a λN=>Ld .slice m N λO=>iE O 9 e λP=>h_ (aa4 0 0 0 0 0 0 0 false false) m P 0 λn=>Pt a λQ=>fM n (Q.add 3) λR=>Pt a λS=>St n (S.add 3) (Β (ο.wrap (R - 1))) λT=>K true T))):=χ Tryz.func174
theorem OE {d e f g w K}:gB (xK d e f g w K)
 (Ε w [Β e,Β f,Β g] 52 λb i=>let h:Bool->b_:=λj c=>((cond j (K false c) (Pt d λk=>Ld .map c.drew (k.add 3) λl=>fM c.drew (b.add 0) λm=>fM c.drew (b.add 1) λn=>fM c.drew (b.add 2) λo=>E5 υ 52 l (Value.agg ⟨[Β m,Β n,Β o]⟩) c.drew λp=>K true p)))
 jU d i.drew λq a=>(cond (!q) (h true a) (Pt d λr=>Ld .map a (r.add 3) λs=>fM a (b.add 0) λt=>fM a (b.add 1) λu=>fM a (b.add 2) λv=>pY υ 52 .bool s (Value.agg ⟨[Β t,Β u,Β v]⟩) (Value.bool false) a λx=>h (!x) a))):=χ Tryz.func175
theorem K_ {c d w K}:gB (vN c d w K)
 (pz c d w λb e a=>(cond (e !=0) (K e a) (Pt b λf=>fM a f λg=>(cond (g==0) (K 8 a) (Pt b λh=>fM a h λi=>Pt b λj=>St a j (Β (ο.wrap (i - 1))) λk=>K 0 k))))):=χ Tryz.func176
theorem KX {a0 f0 f1 w K}:gB (MB a0 f0 f1 w K)
 (iI a0=true/\
 Ε w [a0] 190 λn f=>Ld .ptr f f0 λo=>Pt o λp=>Ld .ptr f (p.add 2) λq=>yC q f λr e=>xk υ none [.one ν,.agg [ν,ν,ν,ν,ν,ν,ν,.bool]] r e (λa d g h=>Ε g amV 93 λc s=>h_ [Β d.2.1.1,Β d.2.1.2.1,Β d.2.1.2.2.1,Β d.2.1.2.2.2.1,Β d.2.1.2.2.2.2.1,Β d.2.1.2.2.2.2.2.1,Β d.2.1.2.2.2.2.2.2.1,.bool d.2.1.2.2.2.2.2.2.2.1] s c 0 λb=>b.heap[a]? =g.heap[a]? /\
 let i:Bool->b_:=λt j=>((cond t (h .ret j) (h .normal j)))
 fM (gu b a) c λu=>fM (gu b a) f1 λv=>(cond (u==v) (Ld .any (gu b a) n λx=>fM (gu b a) (c.add 0) λy=>fM (gu b a) (c.add 1) λz=>fM (gu b a) (c.add 2) λA=>fM (gu b a) (c.add 3) λB=>fM (gu b a) (c.add 4) λC=>fM (gu b a) (c.add 5) λD=>fM (gu b a) (c.add 6) λE=>Ld .bool (gu b a) (c.add 7) λF=>jy υ [.one .bool] x [(Β d.1),(Value.agg ⟨[Β y,Β z,Β A,Β B,Β C,Β D,Β E,.bool F]⟩)] (gu b a) λG H=>∃k:Bool,G=(Value.bool k)/\
 i (!k) H) (i false (gu b a))))
 (λl=>Η l e/\
 K (jB l e))
 (λm=>Η m e/\
 K (jB m e))
 []):=χ Tryz.func177 (fQ (fQ (.blk (.rng [.one ν,.agg [ν,ν,ν,ν,ν,ν,ν,.bool]] .leaf .leaf))))
theorem He {a b w K}:gB (oC a b w K)
 (Pt a λd=>Ld .ptr w (d.add 3) λe=>mZ e b w λi c=>Pt a λf=>Ld .ptr c (f.add 4) λg=>sK g b c λj h=>K h):=χ Tryz.func178
theorem W_ {c d e f g h i j k l m n o p q r s t u v x y z A B C D E F G H I J L M N O w K}:gB (FU c d e f g h i j k l m n o p q r s t u v x y z A B C D E F G H I J L M N O w K)
 (Ε w (jd c d e f g h i j k l m n o p q r s t u v x y z A B C D E F G H I J L M N) 28 λP Q=>iH (S:=Int×Unit) (λb a R=>Ld .slice a (P.add 17) λT=>(cond (decide (b.1<(T.len:Int))) (Ld .slice a (P.add 17) λU=>iE U 1 b.1 λV=>fM a V λW=>(cond (W==O) (K true a) (R ((ο.wrap (b.1+1)),()) a))) (K false a))) (0,()) Q):=χ Tryz.func179 (fQ (.seq (fQ (.blk (.loop [(5,ν)] .leaf))) .leaf))
theorem ad9 {a w K}:gB (zn a w K)
 (rM a false w λb c=>K (!b) c):=χ Tryz.func180
theorem abS {b a w K}:gB (kW b a w K)
 (let c:Bool->b_:=λe f=>(K e f)
 Fg a w λg d=>(cond g (cond (decide (b>=0)) (0<=(ο.wrap (8 * a))/\
 c ((jE .i64 b (ο.wrap (8 * a)))==0) d) (c false d)) (c false d))):=χ Tryz.func181
theorem abX {e f g h i j k l m n o w K}:gB (Ph e f g h i j k l m n o w K)
 (Ε w (gQ e f g h i j k l m n o) 48 λc d=>iq d.drew c λq r s t u v x y z A B=>Ld .slice d.drew (c.add 10) λb=>JI q r s t u v x y z A B d.drew λC p=>p.cell? (c.add 10)=some (Δ b)/\
 K (ο.wrap (C+(b.len:Int))) p):=χ Tryz.func182
theorem Zn {a w K}:gB (zl a w K)
 (JH a w λb c=>K (b==65535) c):=χ Tryz.func183
theorem ad5 {c d e w K}:gB (yZ c d e w K)
 (CY c d e w λf g h=>iH (S:=Int×Int×Unit) (λa b i=>(cond (decide (a.2.1<(f.len:Int))) (iE f 1 a.2.1 λj=>Ld (.int .u8) b j λk=>0<=(8:Int)/\
 i ((orI .i64 (Lu .i64 a.1 8) (ο.wrap k)),(ο.wrap (a.2.1+1)),()) b) (K a.1 g b))) (0,0,()) h):=χ Tryz.func184 (fQ (fQ (fQ (.seq (fQ (.blk (.loop [(10,ν),(22,ν)] .leaf))) .leaf))))
theorem CS {b w K}:gB (g_ b w K)
 ((cond (Option.isNone b.a) (K ⟨none,0,0⟩ w) (Ε w [] 5 λc d=>mG 5 1 1 [(Value.int .u8 0)] ⟨(some c),0,0⟩ b d λe f=>K e f))):=χ Tryz.func185
theorem ϰ {a b w K}:gB (Fq a b w K)
 (iR b a w λc d=>K c d):=χ Tryz.func186
theorem WJ {d w K}:gB (wK d w K)
 (Ε w (nV ⟨none,0,0⟩ 0 0 0 0 0 0 0 false false ⟨none,0,0⟩ ⟨none,0,0⟩ 0) 294 λa v=>Ip d v λx y z A B C D E F G H e I=>Ε I ξ 48 λc J=>h_ (gQ x y z A B C D E F G H) J c 0 λb=>(cond (e !=0) (h_ (nV ⟨none,0,0⟩ 0 0 0 0 0 0 0 false false ⟨none,0,0⟩ ⟨none,0,0⟩ 0) b a 0 λf=>uf f a λL M N O P Q R S T U V W X=>K L M N O P Q R S T U V W X e f) (fM b (c.add 2) λY=>(cond (decide (Y>0)) (h_ (nV ⟨none,0,0⟩ 0 0 0 0 0 0 0 false false ⟨none,0,0⟩ ⟨none,0,0⟩ 0) b a 0 λg=>uf g a λZ aa ab ac ad ae af ag ah ai aj ak al=>K Z aa ab ac ad ae af ag ah ai aj ak al 4 g) (Ld .slice b (c.add 10) λam=>(cond (decide ((am.len:Int)<8)) (h_ (nV ⟨none,0,0⟩ 0 0 0 0 0 0 0 false false ⟨none,0,0⟩ ⟨none,0,0⟩ 0) b a 0 λh=>uf h a λan ao ap aq ar au av aw ax ay az aA aB=>K an ao ap aq ar au av aw ax ay az aA aB 3 h) (iq b.drew c λi j k l m n o p q r s=>iq b.drew c λaC aD aE aF aG aH aI aJ aK aL aM=>JI aC aD aE aF aG aH aI aJ aK aL aM b.drew λaN t=>VJ (gQ i j k l m n o p q r s) t c 0 (
 h_ (nV d i j k l m n o p q r s aN) t a 0 λu=>uf u a λaO aP aQ aR aS aT aU aV aW aX aY aZ a1=>K aO aP aQ aR aS aT aU aV aW aX aY aZ a1 0 u)))))))):=χ Tryz.func187
theorem Hl {k l m n o p q r s t u v x w K}:gB (sH k l m n o p q r s t u v x w K)
 (Ε w (nV k l m n o p q r s t u v x) 294 λb w2=>Ε w2 amT 110 λa c=>let y:b_:=λw7=>(h_ amT w7 a 0 λd=>fM d (a.add 0) λy9=>fM d (a.add 1) λag=>fM d (a.add 2) λah=>K y9 ag ah 8 d)
 fM c ((b.add 1).add 4) λe=>let z:Bool->Prop:=λai=>((cond ai (fM c.drew ((b.add 1).add 4) λi=>uf c.drew b λaj ak al am an ao ap aq ar au av aw ax=>uf c.drew b λA B C D E F G H I J L M N=>jO aj ak al am an ao ap aq ar au av aw ax 0 c.drew λay j=>VJ (nV A B C D E F G H I J L M N) j b 0 (
 j.cell? ((b.add 1).add 4)=some (Β i)/\
 jO A B C D E F G H I J L M N 2 j λaz O=>O.cell? ((b.add 1).add 4)=some (Β i)/\
 h_ [Β i,Β ay,Β az] O a 0 λf=>fM f (a.add 0) λaA=>fM f (a.add 1) λaB=>fM f (a.add 2) λaC=>K aA aB aC 0 f)) (cond (e==1) (Ld .slice c ((b.add 1).add 10) λaD=>iE aD 1 0 λaE=>Ld (.int .u8) c aE λaF=>Ac (ο.wrap aF) c λaG g=>(cond aG (uf g.drew b λaH aI aJ aK aL aM aN aO aP aQ aR aS aT=>uf g.drew b λP Q R S T U V W X Y Z aa ab=>jO aH aI aJ aK aL aM aN aO aP aQ aR aS aT 4 g.drew λaU ac=>VJ (nV P Q R S T U V W X Y Z aa ab) ac b 0 (
 jO P Q R S T U V W X Y Z aa ab 4 ac λaV aW=>h_ [Β 1,Β aU,Β aV] aW a 0 λh=>fM h (a.add 0) λaX=>fM h (a.add 1) λaY=>fM h (a.add 2) λaZ=>K aX aY aZ 0 h)) (y g))) (y c))))
 (cond (e==6) (z (e==6)) (z (e==17)))):=χ Tryz.func188
theorem P_ {l m n h o p q w K}:gB (zM l m n h o p q w K)
 (Ε w [Β l,Β m,Β n,Δ h] 105 λc u=>Ε u amU 105 λb r=>let s:Value->Prop:=λv=>(Ld .slice r (c.add 3) λi=>jy υ [.one .slice,.one ν] v [(Δ i),(Β p),(Β q)] r λx t=>∃d:fU,∃j:Int,x=(Value.tuple ⟨[Δ d,Β j]⟩)/\
 (cond (j !=0) (h_ amU t b 0 λe=>fM e (b.add 0) λy=>fM e (b.add 1) λz=>fM e (b.add 2) λA=>Ld .slice e (b.add 3) λB=>K y z A B j e) (St t (c.add 3) (Δ d) λf=>fM f (c.add 0) λC=>fM f (c.add 1) λD=>fM f (c.add 2) λE=>Ld .slice f (c.add 3) λk=>h_ [Β C,Β D,Β E,Δ k] f b 0 λg=>fM g (b.add 0) λF=>fM g (b.add 1) λG=>fM g (b.add 2) λH=>Ld .slice g (b.add 3) λI=>K F G H I 0 g)))
 (cond o (s (Value.func (.func 254) #[] #[])) (s (Value.func (.func 253) #[] #[])))):=χ Tryz.func189
theorem Wn {g h i d w K}:gB (z_ g h i d w K)
 (Ε w [Β g,Β h,Β i,Δ d] 105 λb c=>fM c (b.add 0) λm=>fM c (b.add 1) λn=>fM c (b.add 2) λo=>Ld .slice c (b.add 3) λp=>Fj m n o p c λj e=>(cond (j !=0) (K ⟨none,0,0⟩ j e) (fM e b λq=>fM e (b.add 1) λr=>Ε e [.int .u8 (IntKind.u8.wrap q),.int .u8 (IntKind.u8.wrap r),.int .u8 0,.int .u8 0] 5 λs k=>fM k (b.add 2) λt=>ou ⟨(some s),4,4⟩ t 4 k λu l=>Ld .slice l (b.add 3) λv=>mG 5 1 1 [(Value.int .u8 0)] u v l λf x=>Ε x [Δ f] 46 λy z=>Ig ⟨(some y),1,1⟩ z λA B=>zi f 2 A 2 B λC D E=>K C D E))):=χ Tryz.func190
theorem Zv {v x d w K}:gB (Io v x d w K)
 (Ε w amY 133 λc y=>(cond (decide ((d.len:Int)<8)) (h_ amY y c 0 λm=>fM m (c.add 0) λD=>fM m (c.add 1) λE=>Ld .bool m (c.add 2) λF=>Ld .slice m (c.add 3) λG=>K D E F G 3 m) (Ε y am2 374 λe H=>kM d 1 0 8 λI=>Fe I H λJ b=>xk υ none [.one ν,.one ν] J b (λq n r L=>r.heap[q]? =r.heap[q]? /\
 (2:Int)≠0/\
 (0:Int)<=(ο.wrap (Int.tdiv n.1 2))/\(ο.wrap (Int.tdiv n.1 2))<(4:Int)/\
 St (gu r q) (e.add (Int.toNat (ο.wrap (Int.tdiv n.1 2)) * 1)) (Β n.2.1) λM=>L .normal M)
 (λf=>(0:Int)<=2/\2<(4:Int)/\
 fM f.drew (e.add (Int.toNat 2 * 1)) λo=>(0:Int)<=3/\3<(4:Int)/\
 fM f.drew (e.add (Int.toNat 3 * 1)) λz=>(cond (decide (o<8)) (h_ amY f.drew c 0 λg=>Η g b/\
 fM (jB g b) (c.add 0) λN=>fM (jB g b) (c.add 1) λO=>Ld .bool (jB g b) (c.add 2) λP=>Ld .slice (jB g b) (c.add 3) λQ=>K N O P Q 4 (jB g b)) (cond (decide (o>(d.len:Int))) (h_ amY f.drew c 0 λh=>Η h b/\
 fM (jB h b) (c.add 0) λR=>fM (jB h b) (c.add 1) λS=>Ld .bool (jB h b) (c.add 2) λT=>Ld .slice (jB h b) (c.add 3) λU=>K R S T U 3 (jB h b)) (cond (decide (o<(d.len:Int))) (h_ amY f.drew c 0 λi=>Η i b/\
 fM (jB i b) (c.add 0) λV=>fM (jB i b) (c.add 1) λW=>Ld .bool (jB i b) (c.add 2) λX=>Ld .slice (jB i b) (c.add 3) λY=>K V W X Y 4 (jB i b)) (let A:Bool->b_:=λZ p=>((cond Z (h_ amY p c 0 λj=>Η j b/\
 fM (jB j b) (c.add 0) λaa=>fM (jB j b) (c.add 1) λab=>Ld .bool (jB j b) (c.add 2) λac=>Ld .slice (jB j b) (c.add 3) λad=>K aa ab ac ad 5 (jB j b)) ((0:Int)<=0/\0<(4:Int)/\
 fM p.drew (e.add (Int.toNat 0 * 1)) λB=>(0:Int)<=1/\1<(4:Int)/\
 fM p.drew (e.add (Int.toNat 1 * 1)) λC=>kM d 1 8 (d.len:Int) λae=>g_ ae p.drew λs t=>t.cell? (e.add (Int.toNat 1 * 1))=some (Β C)/\
 t.cell? (e.add (Int.toNat 0 * 1))=some (Β B)/\
 h_ [Β B,Β C,.bool (z==0),Δ s] t c 0 λk=>Η k b/\
 fM (jB k b) (c.add 0) λaf=>fM (jB k b) (c.add 1) λag=>Ld .bool (jB k b) (c.add 2) λah=>Ld .slice (jB k b) (c.add 3) λai=>K af ag ah ai 0 (jB k b))))
 (cond (z !=0) (tJ v x 17 o f.drew λu aj=>Ε aj [Δ u,Δ d] 46 λak al=>zl ⟨(some ak),2,2⟩ al λam an=>A (!am) an) (A false f.drew)))))))
 (λl=>Η l b/\
 fM (jB l b) (c.add 0) λao=>fM (jB l b) (c.add 1) λap=>Ld .bool (jB l b) (c.add 2) λaq=>Ld .slice (jB l b) (c.add 3) λar=>K ao ap aq ar 0 (jB l b))
 []))):=χ Tryz.func191 (fQ (fQ (fQ (.seq (fQ (.blk (.rng [.one ν,.one ν] .leaf .leaf))) .leaf))))
theorem Zr {y z g w K}:gB (Ij y z g w K)
 (iI (Δ g)=true/\
 Ε w [Δ g] 46 λb R=>Ε R (lM 0 0 0 0 0 0 0 0 ⟨none,0,0⟩ ⟨none,0,0⟩) 305 λc d=>Ld .slice d b λS=>(cond (decide ((S.len:Int)<20)) (h_ (lM 0 0 0 0 0 0 0 0 ⟨none,0,0⟩ ⟨none,0,0⟩) d c 0 λA=>AV A c λT U V W X Y Z aa ab ac=>K T U V W X Y Z aa ab ac 3 A) (Ld .slice d b λad=>iE ad 1 12 λae=>Ld (.int .u8) d ae λn=>0<=(4:Int)/\
 (cond (decide ((ο.wrap ((ο.wrap (jE .u8 n 4)) * 4))<20)) (h_ (lM 0 0 0 0 0 0 0 0 ⟨none,0,0⟩ ⟨none,0,0⟩) d c 0 λB=>AV B c λaf ag ah ai aj ak al am an ao=>K af ag ah ai aj ak al am an ao 4 B) (Ld .slice d b λap=>(cond (decide ((ο.wrap ((ο.wrap (jE .u8 n 4)) * 4))>(ap.len:Int))) (h_ (lM 0 0 0 0 0 0 0 0 ⟨none,0,0⟩ ⟨none,0,0⟩) d c 0 λC=>AV C c λaq ar au av aw ax ay az aA aB=>K aq ar au av aw ax ay az aA aB 3 C) (Ld .slice d b λaC=>(cond (decide ((aC.len:Int)>65535)) (h_ (lM 0 0 0 0 0 0 0 0 ⟨none,0,0⟩ ⟨none,0,0⟩) d c 0 λD=>AV D c λaD aE aF aG aH aI aJ aK aL aM=>K aD aE aF aG aH aI aJ aK aL aM 6 D) (Ld .slice d.drew b λaN=>Ld .slice d.drew b λi=>tJ y z 6 (aN.len:Int) d.drew λq E=>Cw E b (Δ i)<|Ε E [Δ q,Δ i] 46 λaO aP=>zl ⟨(some aO),2,2⟩ aP λaQ F=>(cond (!aQ) (h_ (lM 0 0 0 0 0 0 0 0 ⟨none,0,0⟩ ⟨none,0,0⟩) F c 0 λG=>AV G c λaR aS aT aU aV aW aX aY aZ a3=>K aR aS aT aU aV aW aX aY aZ a3 5 G) (jy υ [.one ν] (Value.func (.func 260) #[] #[(Value.pointer (some b))]) [(Β 0),(Β 2)] F λa4 a6=>∃H:Int,a4=(Β H)/\
 jy υ [.one ν] (Value.func (.func 260) #[] #[(Value.pointer (some b))]) [(Β 2),(Β 2)] a6 λa8 a9=>∃I:Int,a8=(Β I)/\
 jy υ [.one ν] (Value.func (.func 260) #[] #[(Value.pointer (some b))]) [(Β 4),(Β 4)] a9 λba bb=>∃J:Int,ba=(Β J)/\
 jy υ [.one ν] (Value.func (.func 260) #[] #[(Value.pointer (some b))]) [(Β 8),(Β 4)] bb λbc bd=>∃L:Int,bc=(Β L)/\
 Ε bd (lM 0 0 0 0 0 0 0 0 ⟨none,0,0⟩ ⟨none,0,0⟩) 305 λf be=>h_ (lM H I J L 0 0 0 0 ⟨none,0,0⟩ ⟨none,0,0⟩) be f 0 λj=>Ld .slice j.drew b λh=>iE h 1 12 λr=>Ld (.int .u8) j.drew r λs=>Ld .slice j.drew b λe=>iE e 1 13 λo=>Ld (.int .u8) j.drew o λp=>jy υ [.one ν] (Value.func (.func 260) #[] #[(Value.pointer (some b))]) [(Β 14),(Β 2)] j.drew λbf k=>∃M:Int,bf=(Β M)/\
 k.cell? o=some (.int .u8 p)/\
 k.cell? b=some (Δ e)/\
 k.cell? r=some (.int .u8 s)/\
 k.cell? b=some (Δ h)/\
 jy υ [.one ν] (Value.func (.func 260) #[] #[(Value.pointer (some b))]) [(Β 18),(Β 2)] k λbg l=>∃N:Int,bg=(Β N)/\
 l.cell? o=some (.int .u8 p)/\
 l.cell? b=some (Δ e)/\
 l.cell? r=some (.int .u8 s)/\
 l.cell? b=some (Δ h)/\
 St l (f.add 4) (Β (ο.wrap (lu .u8 s 15))) λt=>Cw t o (.int .u8 p)<|Cw t b (Δ e)<|St t (f.add 5) (Β (ο.wrap p)) λbh=>St bh (f.add 6) (Β M) λbi=>St bi (f.add 7) (Β N) λu=>Ld .slice u.drew b λbj=>kM bj 1 20 (ο.wrap ((ο.wrap (jE .u8 n 4)) * 4)) λbk=>Ld .slice u.drew b λm=>kM m 1 (ο.wrap ((ο.wrap (jE .u8 n 4)) * 4)) (m.len:Int) λbl=>g_ bk u.drew λv O=>Cw O b (Δ m)<|g_ bl O λx bm=>St bm (f.add 8) (Δ v) λbn=>St bn (f.add 9) (Δ x) λP=>AV P f λbo bp bq br bs bt bu bv bw bx=>h_ (lM bo bp bq br bs bt bu bv bw bx) P c 0 λQ=>AV Q c λbz bA bB bC bD bE bF bG bH bI=>K bz bA bB bC bD bE bF bG bH bI 0 Q))))))))))):=χ Tryz.func192
theorem Wu {a w K}:gB (Ac a w K)
 (Ε w [Β 0,Β 8] 3 λb c=>Fq a ⟨(some b),2,2⟩ c λd e=>K d e):=χ Tryz.func193
theorem Xb {a c b w K}:gB (FW a c b w K)
 (let e:Bool->Prop:=λl=>((cond l (K 0 false w) (let f:Bool->b_:=λm d=>((cond m (K 0 false d) (cond ((lu .i64 b 4) !=0) (K 6 true d) (let g:b_:=λh=>((cond ((lu .i64 b 1) !=0) (BI a c h λn o=>K n true o) (K a true h)))
 BH b d λp i=>(cond p (D_ a c i λj k=>(cond (j !=a) (K j true k) (g k))) (g i))))))
 (cond (a==0) (BH b w λq r=>f (!q) r) (f false w)))))
 (cond (decide (a<0)) (e (decide (a<0))) (e (decide (a>6))))):=χ Tryz.func194
theorem UQ {b c d e f g h i j k l w K}:gB (DW b c d e f g h i j k l w K)
 (Ε w (gQ b c d e f g h i j k l) 48 λp m=>iq m p λq r s t u v x y z A B=>sG q r s t u v x y z A B m λC D a=>(cond (D !=0) (K 0 a) (AsT 309 C (λE=>Ε a (lM 0 0 0 0 0 0 0 0 ⟨none,0,0⟩ ⟨none,0,0⟩) 309 λn F=>StA 10 E F n λo=>fM o (n.add 5) λG=>K G o) (
 Ε a (lM 0 0 0 0 0 0 0 0 ⟨none,0,0⟩ ⟨none,0,0⟩) 309 λH I=>h_ (lM 0 0 0 0 0 0 0 0 ⟨none,0,0⟩ ⟨none,0,0⟩) I H 0 λJ=>K 0 J)))):=χ Tryz.func195
theorem Jk {a w K}:gB (uH a w K)
 (jh a w λc b=>(cond (!c) (K 0 b) (Pt a λd=>fM b (d.add 3) λe=>K e b))):=χ Tryz.func196
theorem OH {t o v x w K}:gB (sV t o v x w K)
 (iI (Value.pointer t)=true/\
 Ε w [.pointer t] 64 λh H=>Ε H amT 52 λb I=>Ε I [Β 0] 34 λf y=>Ld .ptr y h λJ=>jU J y λL z=>(cond (!L) (h_ amT z b 0 λM=>St M f (Β 2) λj=>fM j (b.add 0) λN=>fM j (b.add 1) λO=>fM j (b.add 2) λP=>fM j f λQ=>K N O P Q j) (tC o z λR p=>(cond (!R) (h_ amT p b 0 λT=>St T f (Β 1) λk=>fM k (b.add 0) λU=>fM k (b.add 1) λV=>fM k (b.add 2) λW=>fM k f λX=>K U V W X k) (Ld .ptr p h λY=>Pt Y λZ=>Ld .slice p (Z.add 2) λg=>(g.len:Int)≠0/\
 (g.len:Int)≠0/\
 iH (S:=(Int×Unit)×List Nat) (λi l aa=>(cond (decide (i.1.1<(g.len:Int))) (Ld .ptr l.drew h λA=>Pt A λB=>Ld .slice l.drew (B.add 2) λq=>(g.len:Int)≠0/\
 iE q 1 (Int.tmod (ο.wrap ((Int.tmod (ο.wrap ((Int.tmod x (g.len:Int))+(g.len:Int))) (g.len:Int))+i.1.1)) (g.len:Int)) λC=>fM l.drew C λD=>Ε l.drew amT 52 λe r=>r.cell? C=some (Β D)/\
 r.cell? (B.add 2)=some (Δ q)/\
 r.cell? h=some (.pointer A)/\
 h_ [Β o,Β D,Β 0] r e 0 λE=>Ld .ptr E h λab=>wJ ab o v E λac u=>xk υ none [.one ν] ac u (λc ad F G=>St F (e.add 2) (Β ad.1) λd=>d.heap[c]? =F.heap[c]? /\
 Ld .ptr (gu d c).drew h λae=>Pt ae λaf=>Ld .map (gu d c).drew (af.add 3) λag=>fM (gu d c).drew (e.add 0) λah=>fM (gu d c).drew (e.add 1) λai=>fM (gu d c).drew (e.add 2) λaj=>pY υ 52 .bool ag (Value.agg ⟨[Β ah,Β ai,Β aj]⟩) (Value.bool false) (gu d c).drew λak=>(cond ak (G .normal (gu d c).drew) (Ld .ptr (gu d c).drew.drew h λal=>Pt al λam=>Ld .map (gu d c).drew.drew (am.add 3) λan=>fM (gu d c).drew.drew (e.add 0) λao=>fM (gu d c).drew.drew (e.add 1) λap=>fM (gu d c).drew.drew (e.add 2) λaq=>oK υ 52 an (Value.agg ⟨[Β ao,Β ap,Β aq]⟩) (Value.bool true) (gu d c).drew.drew λs=>fM s (e.add 0) λar=>fM s (e.add 1) λau=>fM s (e.add 2) λav=>h_ [Β ar,Β au,Β av] s b 0 λaw=>St aw f (Β 0) λax=>G .ret ax)))
 (λay=>aa (((ο.wrap (i.1.1+1)),()),(u.heap.size::i.2)) ay)
 (λaz=>wE (u.heap.size::i.2) az λm=>fM m (b.add 0) λaA=>fM m (b.add 1) λaB=>fM m (b.add 2) λaC=>fM m f λaD=>K aA aB aC aD m)
 [(3,(λaK=>False))]) (h_ amT l b 0 λaE=>St aE f (Β 12) λaF=>wE i.2 aF λn=>fM n (b.add 0) λaG=>fM n (b.add 1) λaH=>fM n (b.add 2) λaI=>fM n f λaJ=>K aG aH aI aJ n))) ((0,()),[]) p))))):=χ Tryz.func197 (fQ (fQ (fQ (fQ (fQ (.seq (fQ (.blk (.loop [(34,ν)] (fQ (fQ (.seq (.blk (fQ (fQ (fQ (fQ (.blk (.rng [.one ν] .leaf .leaf))))))) .leaf)))))) .leaf))))))
theorem oO {d e w K}:gB (jl d e w K)
 (iH (S:=Int×Unit) (λc a h=>(cond (decide (c.1<(d.len:Int))) (iE d 6 c.1 λb=>fM a (b.add 0) λi=>fM a (b.add 1) λj=>fM a (b.add 2) λk=>fM a (b.add 3) λl=>fM a (b.add 4) λm=>Ld .bool a (b.add 5) λn=>jy υ [.one .bool] e [(Value.agg ⟨[Β i,Β j,Β k,Β l,Β m,.bool n]⟩)] a λo f=>∃g:Bool,o=(Value.bool g)/\
 (cond g (K c.1 f) (h ((ο.wrap (c.1+1)),()) f))) (K (-1) a))) (0,()) w):=χ Tryz.func201 (fQ (.seq (fQ (.blk (.loop [(8,ν)] .leaf))) .leaf))
theorem Gv {a b c d e f w K}:gB (xA a b c d e f w K)
 (Ε w [Β a,Β b,Β c,Β d,Β e,.bool f] 195 λh g=>Ld .bool g (h.add 5) λi=>K (!i) g):=χ Tryz.func202
theorem yc {c d w K}:gB (lZ c d w K)
 (iH (S:=Int×Int×Unit) (λa b f=>(cond (decide (a.1<a.2.1)) (0<=(1:Int)/\
 iE c 1 (ο.wrap (jE .u64 (IntKind.u64.wrap (ο.wrap (a.1+a.2.1))) 1)) λi=>fM b i λj=>AY j d b λk g=>(cond k (f ((ο.wrap ((ο.wrap (jE .u64 (IntKind.u64.wrap (ο.wrap (a.1+a.2.1))) 1))+1)),a.2.1,()) g) (f (a.1,(ο.wrap (jE .u64 (IntKind.u64.wrap (ο.wrap (a.1+a.2.1))) 1)),()) g))) (let e:Int->Bool->b_:=λl m n=>(K l m n)
 (cond (decide (a.1<(c.len:Int))) (iE c 1 a.1 λo=>fM b o λp=>(cond (p==d) (e a.1 true b) (iE c 1 a.1 λq=>fM b q λr=>qy r b λs h=>(cond s (qy d h λt u=>e a.1 t u) (e a.1 false h))))) (e a.1 false b))))) (0,(c.len:Int),()) w):=χ Tryz.func203 (fQ (fQ (fQ (.seq (.blk (.loop [(7,ν),(8,ν)] .leaf)) .leaf))))
theorem Ei {c e b w K}:gB (pG c e b w K)
 (kM c 1 e (c.len:Int) λD=>(cond ((b.len:Int)==0) (K c w) (cond (e==(c.len:Int)) (mG 3 1 8 [(Β 0)] c b w λj k=>K j k) (cond (decide ((ο.wrap ((c.len:Int)+(b.len:Int)))>(c.cap:Int))) (kM c 1 0 e λl=>Xk 3 1 8 [(Β 0)] l (ο.wrap ((ο.wrap ((c.len:Int)+(b.len:Int))) - e)) w λf m=>kM f 1 e (f.len:Int) λn=>AQ 1 n b m λE o=>kM f 1 (ο.wrap (e+(b.len:Int))) (f.len:Int) λp=>kM c 1 e (c.len:Int) λq=>AQ 1 p q o.drew λF r=>K f r) (kM c 1 0 (ο.wrap ((c.len:Int)+(b.len:Int))) λd=>kM d 1 (ο.wrap (e+(b.len:Int))) (d.len:Int) λg=>aiL υ 267 [(Δ b),(Δ g)] w λs h=>∃i:Bool,s=(Value.bool i)/\
 (cond (!i) (kM d 1 (ο.wrap (e+(b.len:Int))) (d.len:Int) λt=>kM d 1 e (d.len:Int) λu=>AQ 1 t u h.drew λG v=>kM d 1 e (d.len:Int) λx=>AQ 1 x b v λH y=>K d y) (kM d 1 (c.len:Int) (d.len:Int) λz=>AQ 1 z b h λI A=>kM d 1 e (d.len:Int) λB=>D9 B (b.len:Int) A λC=>K d C))))))):=χ Tryz.func204
theorem Ls {c d e f w K}:gB (qB c d e f w K)
 (Ε w [Β d,Β e,Β f] 335 λg h=>fM h (g.add 1) λk=>nO c k h λi j=>Pt i λl=>Ld .slice j l λm=>iJ m (Value.func (.func 269) #[] #[(Value.pointer (some g))]) j λb n=>Pt i λo=>St n o (Δ b) λp=>K p):=χ Tryz.func205
theorem Ns {f g h i w K}:gB (rP f g h i w K)
 (Ε w [Β g,Β h,Β i] 335 λc j=>fM j (c.add 1) λn=>nO f n j λk b=>Pt k λl=>Ld .slice b.drew l λd=>fM b.drew (c.add 0) λo=>fM b.drew (c.add 1) λp=>fM b.drew (c.add 2) λq=>Ε b.drew [Β o,Β p,Β q] 335 λr m=>m.cell? l=some (Δ d)/\
 mG 335 3 24 [(Β 0),(Β 0),(Β 0)] d ⟨(some r),1,1⟩ m λe s=>Pt k λt=>St s t (Δ e) λu=>K u):=χ Tryz.func206
theorem Zl {a b c w K}:gB (jG a b c w K)
 (Ic a b c w λd f e=>K d e):=χ Tryz.func207
theorem UW {a w K}:gB (DX a w K)
 (Di a w λb c=>K (b==65535) c):=χ Tryz.func208
theorem Rx {e D w K}:gB (Bz e D w K)
 (Ε w ξ 48 λE F=>iE e 1 0 λO=>Ld (.int .u8) F O λP=>(16:Int)≠0/\
 jG e 6 2 F λi j=>let n:Addr->b_:=λk Q=>((16384:Int)≠0/\
 (2:Int)≠0/\
 (8192:Int)≠0/\
 (2:Int)≠0/\
 St Q (k.add 7) (.bool ((Int.tmod (ο.wrap (Int.tdiv i 16384)) 2)==1)) λR=>St R (k.add 8) (.bool ((Int.tmod (ο.wrap (Int.tdiv i 8192)) 2)==1)) λS=>kM e 1 20 (ο.wrap ((ο.wrap (Int.tmod P 16)) * 4)) λT=>mG 5 1 1 [(Value.int .u8 0)] ⟨none,0,0⟩ T S λA U=>mG 5 1 1 [(Value.int .u8 0)] ⟨none,0,0⟩ D U λB V=>St V (k.add 9) (Δ A) λW=>St W (k.add 10) (Δ B) λG=>iq G k λX Y Z aa ab ac ad ae af ag ah=>h_ (gQ X Y Z aa ab ac ad ae af ag ah) G E 0 λH=>iq H E λai aj ak al am an ao ap aq ar au=>K ai aj ak al am an ao ap aq ar au H)
 iE e 1 1 λf=>Ld (.int .u8) j.drew f λb=>(8192:Int)≠0/\
 iE e 1 8 λg=>Ld (.int .u8) j.drew g λc=>iE e 1 9 λh=>Ld (.int .u8) j.drew h λd=>(jG e 4 2 j.drew λC l=>Cw l h (.int .u8 d)<|Cw l g (.int .u8 c)<|Cw l f (.int .u8 b)<|(jG e 12 4 l λI m=>Cw m h (.int .u8 d)<|Cw m g (.int .u8 c)<|Cw m f (.int .u8 b)<|(jG e 16 4 m λav o=>Cw o h (.int .u8 d)<|Cw o g (.int .u8 c)<|Cw o f (.int .u8 b)<|Ε o ξ 48 λJ p=>Cw p h (.int .u8 d)<|Cw p g (.int .u8 c)<|Cw p f (.int .u8 b)<|h_ (gQ (ο.wrap b) C (ο.wrap ((Int.tmod i 8192) * 8)) (ο.wrap c) (ο.wrap d) I av false false ⟨none,0,0⟩ ⟨none,0,0⟩) p J 0 λaw=>n J aw)/\
 (Ε m ξ 48 λL q=>Cw q h (.int .u8 d)<|Cw q g (.int .u8 c)<|Cw q f (.int .u8 b)<|jG e 16 4 q λax r=>Cw r h (.int .u8 d)<|Cw r g (.int .u8 c)<|Cw r f (.int .u8 b)<|h_ (gQ (ο.wrap b) C (ο.wrap ((Int.tmod i 8192) * 8)) (ο.wrap c) (ο.wrap d) I ax false false ⟨none,0,0⟩ ⟨none,0,0⟩) r L 0 λay=>n L ay))/\
 (Ε l ξ 48 λM s=>Cw s h (.int .u8 d)<|Cw s g (.int .u8 c)<|Cw s f (.int .u8 b)<|jG e 12 4 s λaz t=>Cw t h (.int .u8 d)<|Cw t g (.int .u8 c)<|Cw t f (.int .u8 b)<|jG e 16 4 t λaA u=>Cw u h (.int .u8 d)<|Cw u g (.int .u8 c)<|Cw u f (.int .u8 b)<|h_ (gQ (ο.wrap b) C (ο.wrap ((Int.tmod i 8192) * 8)) (ο.wrap c) (ο.wrap d) az aA false false ⟨none,0,0⟩ ⟨none,0,0⟩) u M 0 λaB=>n M aB))/\
 (Ε j.drew ξ 48 λN v=>Cw v h (.int .u8 d)<|Cw v g (.int .u8 c)<|Cw v f (.int .u8 b)<|jG e 4 2 v λaC x=>Cw x h (.int .u8 d)<|Cw x g (.int .u8 c)<|Cw x f (.int .u8 b)<|jG e 12 4 x λaD y=>Cw y h (.int .u8 d)<|Cw y g (.int .u8 c)<|Cw y f (.int .u8 b)<|jG e 16 4 y λaE z=>Cw z h (.int .u8 d)<|Cw z g (.int .u8 c)<|Cw z f (.int .u8 b)<|h_ (gQ (ο.wrap b) aC (ο.wrap ((Int.tmod i 8192) * 8)) (ο.wrap c) (ο.wrap d) aD aE false false ⟨none,0,0⟩ ⟨none,0,0⟩) z N 0 λaF=>n N aF)):=χ Tryz.func209
theorem WO {c a w K}:gB (mY c a w K)
 (let b:Bool->b_:=λd e=>(K d e)
 (cond (decide (a>=1)) (cond (decide (a<=4)) (cond (decide (c>=0)) (Dh a w λf g=>b (decide (c<f)) g) (b false w)) (b false w)) (b false w))):=χ Tryz.func210
theorem Zk {c w K}:gB (Di c w K)
 (iH (S:=Int×Int×Unit) (λa e f=>(cond (decide (a.2.1<(c.len:Int))) (iH (S:=Int×Int×Unit) (λb d g=>iE c 1 a.2.1 λh=>Ld .slice d h λi=>(cond (decide (b.2.1<(i.len:Int))) (iE c 1 a.2.1 λj=>Ld .slice d j λk=>FM k b.2.1 d λl m=>g ((ο.wrap (b.1+l)),(ο.wrap (b.2.1+2)),()) m) (f (b.1,(ο.wrap (a.2.1+1)),()) d))) (a.1,0,()) e) (FN a.1 e λn o=>K n o))) (0,0,()) w):=χ Tryz.func212 (fQ (fQ (.seq (fQ (.blk (.loop [(3,ν),(4,ν)] (fQ (.seq (.blk (fQ (.blk (.loop [(3,ν),(5,ν)] .leaf)))) .leaf))))) .leaf)))
theorem UY {a w K}:gB (yG a w K)
 (let b:Bool->Prop:=λc=>(K c w)
 (cond (decide (a>=0)) (b (decide (a<4294967296))) (b false))):=χ Tryz.func214
theorem WV {a b c d e f g h i j k w K}:gB (Ah a b c d e f g h i j k w K)
 (Ε w (gQ a b c d e f g h i j k) 48 λm l=>Ld .slice l (m.add 9) λn=>K (ο.wrap (20+(n.len:Int))) l):=χ Tryz.func215
theorem KO {a w K}:gB (nK a w K)
 (let b:Bool->Prop:=λc=>(K c w)
 (cond (!(Option.isNone a)) (Pt a λd=>Ld .bool w (d.add 3) λe=>b e) (b false))):=χ Tryz.func216
theorem BX {k l w K}:gB (jo k l w K)
 (iI (Value.pointer k)=true/\
 Ε w [.pointer k] 159 λh u=>iI (Value.string l)=true/\
 Ε u [.string l] 9 λr v=>Ε v [Β 0] 3 λe x=>Ε x [.bool false] 4 λf b=>Ld .ptr b h λy=>Pt y λz=>Ld .slice b z λA=>(cond ((A.len:Int)==0) (St b e (Β 0) λB=>St B f (.bool false) λm=>fM m e λC=>Ld .bool m f λD=>K C D m) (Ld .ptr b.drew h λs=>Ld .str b.drew r λE=>Ld .ptr b.drew h λF=>Pt F λG=>Ld .slice b.drew G λH=>H9 E (H.len:Int) b.drew λI t=>t.cell? h=some (.pointer s)/\
 rG s I t λJ a=>xk υ none [.one ν] J a (λc n d o=>d.heap[c]? =d.heap[c]? /\
 Ld .ptr (gu d c) h λL=>Pt L λM=>Ld .slice (gu d c) M λN=>iE N 3 n.1 λp=>Ld .str (gu d c) (p.add 0) λO=>fM (gu d c) (p.add 1) λP=>Ld .bool (gu d c) (p.add 2) λQ=>Al (gu d c) (.cells ⟨[.string (bs []),Β 0,.bool false]⟩ 346) λq R=>h_ [.string O,Β P,.bool Q] R q 0 λg=>Ld .bool g (q.add 2) λS=>(cond (!S) (St g e (Β n.1) λT=>St T f (.bool false) λU=>o .ret U) (Ld .str g q λV=>Ld .str g r λW=>(cond (strEq V W) (St g e (Β n.1) λX=>St X f (.bool true) λY=>o .ret Y) (o .normal g)))))
 (λZ=>St Z e (Β 0) λaa=>St aa f (.bool false) λi=>Η i a/\
 fM (jB i a) e λab=>Ld .bool (jB i a) f λac=>K ab ac (jB i a))
 (λj=>Η j a/\
 fM (jB j a) e λad=>Ld .bool (jB j a) f λae=>K ad ae (jB j a))
 []))):=χ Tryz.func217 (fQ (fQ (.seq (fQ (.blk (.rng [.one ν] .leaf .leaf))) .leaf)))
theorem Ϯ {c w K}:gB (Fh c w K)
 (iH (S:=fU×Int×Unit) (λa b e=>(cond (decide (a.2.1<(c.len:Int))) (iE c 1 a.2.1 λf=>fM b f λd=>0<=(32:Int)/\
 ou a.1 (lu .i64 (jE .i64 d 32) 4294967295) 4 b λg h=>ou g (lu .i64 d 4294967295) 4 h λi j=>e (i,(ο.wrap (a.2.1+1)),()) j) (Hy b a.1 λk=>K k b))) (⟨none,0,0⟩,0,()) w):=χ Tryz.func218 (fQ (fQ (.seq (fQ (.blk (.loop [(3,.slice),(8,ν)] .leaf))) .leaf)))
theorem qO {c d w K}:gB (lI c d w K)
 (iH (S:=Int×Unit) (λa b h=>(cond (decide (a.1<(c.len:Int))) (iE c 2 a.1 λe=>fM b (e.add 0) λi=>fM b (e.add 1) λj=>jy υ [.one .bool] d [(Value.agg ⟨[Β i,Β j]⟩)] b λk f=>∃g:Bool,k=(Value.bool g)/\
 (cond g (K a.1 f) (h ((ο.wrap (a.1+1)),()) f))) (K (-1) b))) (0,()) w):=χ Tryz.func219 (fQ (.seq (fQ (.blk (.loop [(8,ν)] .leaf))) .leaf))
theorem tY {c d e w K}:gB (mQ c d e w K)
 (Ε w [Β d,Β e] 98 λf h=>iH (S:=Int×Unit) (λb a i=>(cond (decide (b.1<(c.len:Int))) (fM a.drew (f.add 0) λj=>fM a.drew (f.add 1) λk=>iE c 2 b.1 λg=>fM a.drew (g.add 0) λl=>fM a.drew (g.add 1) λm=>(cond ((j==l) && ((k==m) && true)) (K b.1 a.drew) (i ((ο.wrap (b.1+1)),()) a.drew))) (K (-1) a))) (0,()) h):=χ Tryz.func220 (fQ (.seq (fQ (.blk (.loop [(8,ν)] .leaf))) .leaf))
theorem xC {a0 f0 f1 w K}:gB (Ie a0 f0 f1 w K)
 (Ld .ptr w f0 λi=>jh i w λj b=>(cond (!j) (K b) (Ld .ptr b.drew f0 λk=>Pt k λl=>Ld .map b.drew (l.add 2) λm=>fM b.drew f1 λn=>pY υ 3 .slice m (Β n) (Value.slice none 0 0) b.drew λo=>ni o b.drew λe p=>iH (S:=Int×Unit) (λd a q=>(cond (decide (d.1<(e.len:Int))) (iE e 1 d.1 λr=>fM a r λf=>Ld .ptr a f0 λs=>Pt s λt=>Ld .slice a t λu=>iE u 6 f λc=>fM a (c.add 0) λv=>fM a (c.add 1) λx=>fM a (c.add 2) λy=>fM a (c.add 3) λz=>fM a (c.add 4) λA=>jy υ [.one .bool] a0 [(Β f),(Value.agg ⟨[Β v,Β x,Β y,Β z,Β A]⟩)] a λB g=>∃h:Bool,B=(Value.bool h)/\
 (cond (!h) (K g) (q ((ο.wrap (d.1+1)),()) g))) (K a))) (0,()) p))):=χ Tryz.func221 (fQ (fQ (.blk (.loop [(17,ν)] .leaf))))
theorem Rl {a w K}:gB (Bf a w K)
 (Ε w [Β 1,Β 6,Β 17] 3 λb c=>iR ⟨(some b),3,3⟩ a c λd e=>K d e):=χ Tryz.func222
theorem vw {b d w K}:gB (kH b d w K)
 (iH (S:=Int×Unit) (λa c g=>(cond (decide (a.1<(b.len:Int))) (iE b 16 a.1 λh=>uS c h λi j k l m n o p q r s t u v x y=>jy υ [.one .bool] d [(Value.agg ⟨nI i j k l m n o p q r s t u v x y⟩)] c λz e=>∃f:Bool,z=(Value.bool f)/\
 (cond f (K a.1 e) (g ((ο.wrap (a.1+1)),()) e))) (K (-1) c))) (0,()) w):=χ Tryz.func223 (fQ (.seq (fQ (.blk (.loop [(8,ν)] .leaf))) .leaf))
theorem rU {b d w K}:gB (jQ b d w K)
 (iH (S:=Int×Unit) (λa c g=>(cond (decide (a.1<(b.len:Int))) (iE b 1 a.1 λh=>fM c h λi=>jy υ [.one .bool] d [(Β i)] c λj e=>∃f:Bool,j=(Value.bool f)/\
 (cond f (K a.1 e) (g ((ο.wrap (a.1+1)),()) e))) (K (-1) c))) (0,()) w):=χ Tryz.func224 (fQ (.seq (fQ (.blk (.loop [(8,ν)] .leaf))) .leaf))
theorem qP {d e w K}:gB (jJ d e w K)
 (iH (S:=Int×Unit) (λc a h=>(cond (decide (c.1<(d.len:Int))) (iE d 7 c.1 λb=>fM a (b.add 0) λi=>fM a (b.add 1) λj=>fM a (b.add 2) λk=>fM a (b.add 3) λl=>fM a (b.add 4) λm=>fM a (b.add 5) λn=>fM a (b.add 6) λo=>jy υ [.one .bool] e [(Value.agg ⟨[Β i,Β j,Β k,Β l,Β m,Β n,Β o]⟩)] a λp f=>∃g:Bool,p=(Value.bool g)/\
 (cond g (K c.1 f) (h ((ο.wrap (c.1+1)),()) f))) (K (-1) a))) (0,()) w):=χ Tryz.func225 (fQ (.seq (fQ (.blk (.loop [(8,ν)] .leaf))) .leaf))
theorem wW {d e f w K}:gB (xq d e f w K)
 (Ld .slice w e λg=>iH (S:=Int×Unit) (λa b B=>(cond (decide (a.1<(g.len:Int))) (iE g 16 a.1 λC=>uS b C λD E F G H I J L M N O P Q R T U=>Ε b (nI 0 0 0 0 0 0 0 0 0 0 0 0 0 0 0 0) 23 λh V=>h_ (nI D E F G H I J L M N O P Q R T U) V h 0 λc=>Ld .any c f λW=>uS c h λX Y Z aa ab ac ad ae af ag ah ai aj ak al am=>jy υ [.agg SX] W [(Value.agg ⟨nI X Y Z aa ab ac ad ae af ag ah ai aj ak al am⟩)] c λan ao=>∃i:Int,∃j:Int,∃k:Int,∃l:Int,∃m:Int,∃n:Int,∃o:Int,∃p:Int,∃q:Int,∃r:Int,∃s:Int,∃t:Int,∃u:Int,∃v:Int,∃x:Int,∃y:Int,an=(Value.agg ⟨nI i j k l m n o p q r s t u v x y⟩)/\
 jy υ [.one .bool] d [(Value.agg ⟨nI i j k l m n o p q r s t u v x y⟩)] ao λap z=>∃A:Bool,ap=(Value.bool A)/\
 (cond (!A) (K z) (B ((ο.wrap (a.1+1)),()) z))) (K b))) (0,()) w):=χ Tryz.func226 (fQ (.blk (.loop [(8,ν)] .leaf)))
theorem Ee {c d e w K}:gB (Ew c d e w K)
 (Ld .slice w d λf=>iH (S:=Int×Unit) (λb a j=>(cond (decide (b.1<(f.len:Int))) (iE f 1 b.1 λk=>fM a k λl=>Ld .any a e λm=>jy υ [.one ν] m [(Β l)] a λn o=>∃g:Int,n=(Β g)/\
 jy υ [.one .bool] c [(Β g)] o λp h=>∃i:Bool,p=(Value.bool i)/\
 (cond (!i) (K h) (j ((ο.wrap (b.1+1)),()) h))) (K a))) (0,()) w):=χ Tryz.func227 (fQ (.blk (.loop [(8,ν)] .leaf)))
theorem tV {f g h w K}:gB (uo f g h w K)
 (Ld .slice w g λi=>iH (S:=Int×Unit) (λe a p=>(cond (decide (e.1<(i.len:Int))) (iE i 7 e.1 λd=>fM a (d.add 0) λq=>fM a (d.add 1) λr=>fM a (d.add 2) λs=>fM a (d.add 3) λt=>fM a (d.add 4) λu=>fM a (d.add 5) λv=>fM a (d.add 6) λx=>Ε a am0 54 λc y=>h_ [Β q,Β r,Β s,Β t,Β u,Β v,Β x] y c 0 λb=>Ld .any b h λz=>fM b (c.add 0) λA=>fM b (c.add 1) λB=>fM b (c.add 2) λC=>fM b (c.add 3) λD=>fM b (c.add 4) λE=>fM b (c.add 5) λF=>fM b (c.add 6) λG=>jy υ [.agg [ν,ν,ν,ν]] z [(Value.agg ⟨[Β A,Β B,Β C,Β D,Β E,Β F,Β G]⟩)] b λH I=>∃j:Int,∃k:Int,∃l:Int,∃m:Int,H=(Value.agg ⟨[Β j,Β k,Β l,Β m]⟩)/\
 jy υ [.one .bool] f [(Value.agg ⟨[Β j,Β k,Β l,Β m]⟩)] I λJ n=>∃o:Bool,J=(Value.bool o)/\
 (cond (!o) (K n) (p ((ο.wrap (e.1+1)),()) n))) (K a))) (0,()) w):=χ Tryz.func228 (fQ (.blk (.loop [(8,ν)] .leaf)))
theorem tX {f g h w K}:gB (uq f g h w K)
 (Ld .slice w g λi=>iH (S:=Int×Unit) (λe a o=>(cond (decide (e.1<(i.len:Int))) (iE i 7 e.1 λd=>fM a (d.add 0) λp=>fM a (d.add 1) λq=>fM a (d.add 2) λr=>fM a (d.add 3) λs=>fM a (d.add 4) λt=>fM a (d.add 5) λu=>fM a (d.add 6) λv=>Ε a am0 54 λc x=>h_ [Β p,Β q,Β r,Β s,Β t,Β u,Β v] x c 0 λb=>Ld .any b h λy=>fM b (c.add 0) λz=>fM b (c.add 1) λA=>fM b (c.add 2) λB=>fM b (c.add 3) λC=>fM b (c.add 4) λD=>fM b (c.add 5) λE=>fM b (c.add 6) λF=>jy υ [.agg [ν,ν,ν]] y [(Value.agg ⟨[Β z,Β A,Β B,Β C,Β D,Β E,Β F]⟩)] b λG H=>∃j:Int,∃k:Int,∃l:Int,G=(Value.agg ⟨[Β j,Β k,Β l]⟩)/\
 jy υ [.one .bool] f [(Value.agg ⟨[Β j,Β k,Β l]⟩)] H λI m=>∃n:Bool,I=(Value.bool n)/\
 (cond (!n) (K m) (o ((ο.wrap (e.1+1)),()) m))) (K a))) (0,()) w):=χ Tryz.func229 (fQ (.blk (.loop [(8,ν)] .leaf)))
theorem Ox {d e b w K}:gB (xH d e b w K)
 (Ε w [Β d,Β e] 270 λf g=>fM g (f.add 1) λa=>let h:Bool->b_:=λi j=>(K i j)
 lS b g.drew λk c=>(cond k (0<=(ο.wrap (32 - a))/\
 fM c f λl=>0<=(ο.wrap (32 - a))/\
 h ((jE .i64 b (ο.wrap (32 - a)))==(jE .i64 l (ο.wrap (32 - a)))) c) (h false c))):=χ Tryz.func230
theorem M_ {b w K}:gB (wG b w K)
 (Pt b λl=>fM w.drew (l.add 1) λm=>Pt b λn=>Ld .slice w.drew n λo=>(cond (decide ((ο.wrap (2 * (ο.wrap (m+1))))<=(o.len:Int))) (K w.drew) (Pt b λp=>Ld .slice w.drew p λc=>Z9 346 3 32 [(Value.string (bs [])),(Β 0),(Value.bool false)] (if (ο.wrap (2 * (c.len:Int)))>8 then (ο.wrap (2 * (c.len:Int))) else 8) (if (ο.wrap (2 * (c.len:Int)))>8 then (ο.wrap (2 * (c.len:Int))) else 8) w.drew λh q=>Pt b λr=>St q r (Δ h) λs=>iH (S:=Int×Unit) (λi e t=>(cond (decide (i.1<(c.len:Int))) (let k:b_:=λu=>(t ((ο.wrap (i.1+1)),()) u)
 iE c 3 i.1 λj=>Ld .str e (j.add 0) λv=>fM e (j.add 1) λx=>Ld .bool e (j.add 2) λy=>Ε e [.string (bs []),Β 0,.bool false] 346 λd z=>h_ [.string v,Β x,.bool y] z d 0 λg=>Ld .bool g (d.add 2) λA=>(cond A (Ld .str g d λB=>jo b B g λC L f=>Pt b λD=>Ld .slice f.drew D λE=>Ld .str f.drew (d.add 0) λF=>fM f.drew (d.add 1) λG=>Ld .bool f.drew (d.add 2) λH=>iE E 3 C λI=>h_ [.string F,Β G,.bool H] f.drew I 0 λJ=>k J) (k g))) (K e))) (0,()) s))):=χ Tryz.func231 (fQ (fQ (fQ (fQ (.blk (.loop [(33,ν)] .leaf))))))
theorem qQ {c l w K}:gB (jK c l w K)
 (Ε w amT 335 λe f=>(cond (decide ((c.len:Int)<1)) False (iE c 3 0 λi=>fM f (i.add 0) λo=>fM f (i.add 1) λp=>fM f (i.add 2) λq=>Ε f amT 335 λb r=>h_ [Β o,Β p,Β q] r b 0 λs=>iH (S:=Int×Unit) (λg a t=>(cond (decide (g.1<(c.len:Int))) (let m:b_:=λu=>(t ((ο.wrap (g.1+1)),()) u)
 iE c 3 g.1 λj=>fM a.drew (j.add 0) λv=>fM a.drew (j.add 1) λx=>fM a.drew (j.add 2) λy=>fM a.drew (b.add 0) λz=>fM a.drew (b.add 1) λA=>fM a.drew (b.add 2) λB=>jy υ [.one ν] l [(Value.agg ⟨[Β v,Β x,Β y]⟩),(Value.agg ⟨[Β z,Β A,Β B]⟩)] a.drew λC d=>∃n:Int,C=(Β n)/\
 (cond (decide (n<0)) (iE c 3 g.1 λk=>fM d (k.add 0) λD=>fM d (k.add 1) λE=>fM d (k.add 2) λF=>h_ [Β D,Β E,Β F] d b 0 λG=>m G) (m d))) (fM a (b.add 0) λH=>fM a (b.add 1) λI=>fM a (b.add 2) λJ=>h_ [Β H,Β I,Β J] a e 0 λh=>fM h (e.add 0) λL=>fM h (e.add 1) λM=>fM h (e.add 2) λN=>K L M N h))) (1,()) s))):=χ Tryz.func232 (fQ (fQ (fQ (.seq (fQ (.blk (.loop [(6,ν)] .leaf))) .leaf))))
theorem Ht {b c d e f g w K}:gB (zu b c d e f g w K)
 (Ε w [Β b,Β c,Β d] 335 λh i=>Ε i [Β e,Β f,Β g] 335 λj a=>fM a (h.add 1) λk=>fM a (j.add 1) λl=>rF k l a λm n=>K m n):=χ Tryz.func233
theorem MX {b c w K}:gB (rF b c w K)
 (mD b w λe f=>mD c f λd a=>(cond e (cond d (K 0 a) (K (-1) a)) (cond d (K 1 a) (cond (decide (b<c)) (K (-1) a) (cond (decide (b>c)) (K 1 a) (K 0 a)))))):=χ Tryz.func234
theorem Vb {b c w K}:gB (yM b c w K)
 (iH (S:=Int×Int×Unit) (λa d e=>(cond (decide (a.2.1>=64)) (0<=(6:Int)/\
 e ((ο.wrap (a.1+1)),(jE .i64 a.2.1 6),()) d) (K a.1 d))) (0,(VG .i64 b c),()) w):=χ Tryz.func235 (fQ (fQ (.seq (fQ (.blk (.loop [(5,ν),(6,ν)] .leaf))) .leaf)))
theorem Lr {c b w K}:gB (nO c b w K)
 (Pt c λd=>fM w (d.add 449) λe=>yM e b w λa f=>0<=(ο.wrap (6 * a))/\
 Pt c λg=>(0:Int)<=a/\a<(7:Int)/\
 (0:Int)<=(lu .i64 (jE .i64 b (ο.wrap (6 * a))) 63)/\(lu .i64 (jE .i64 b (ο.wrap (6 * a))) 63)<(64:Int)/\
 K (some ((g.add (Int.toNat a * 64)).add (Int.toNat (lu .i64 (jE .i64 b (ο.wrap (6 * a))) 63) * 1))) f.drew):=χ Tryz.func236
theorem pU {a g w K}:gB (iJ a g w K)
 (jA a g w λh j=>(cond (h==(-1)) (K a j) (iH (S:=Int×Int×Unit) (λb d m=>(cond (decide (b.2.1<(a.len:Int))) (let k:Int->b_:=λn o=>(m (n,(ο.wrap (b.2.1+1)),()) o)
 iE a 3 b.2.1 λi=>fM d (i.add 0) λp=>fM d (i.add 1) λq=>fM d (i.add 2) λr=>Ε d amT 335 λc s=>h_ [Β p,Β q,Β r] s c 0 λf=>fM f (c.add 0) λt=>fM f (c.add 1) λu=>fM f (c.add 2) λv=>jy υ [.one .bool] g [(Value.agg ⟨[Β t,Β u,Β v]⟩)] f λx e=>∃l:Bool,x=(Value.bool l)/\
 (cond (!l) (fM e (c.add 0) λy=>fM e (c.add 1) λz=>fM e (c.add 2) λA=>iE a 3 b.1 λB=>h_ [Β y,Β z,Β A] e B 0 λC=>k (ο.wrap (b.1+1)) C) (k b.1 e))) (kM a 3 b.1 (a.len:Int) λD=>JE [(Β 0),(Β 0),(Β 0)] D d λE=>kM a 3 0 b.1 λF=>K F E))) (h,(ο.wrap (h+1)),()) j))):=χ Tryz.func237 (fQ (fQ (fQ (.seq (fQ (.blk (.loop [(5,ν),(6,ν)] .leaf))) .leaf))))
theorem rX {b w K}:gB (jP b w K)
 ((cond (Option.isNone b.a) (K ⟨none,0,0⟩ w) (Ε w [] 335 λc d=>mG 335 3 24 [(Β 0),(Β 0),(Β 0)] ⟨(some c),0,0⟩ b d λe f=>K e f))):=χ Tryz.func238
theorem Jo {b c d e w K}:gB (zU b c d e w K)
 (Ε w [Β b,Β c,Β d] 335 λf a=>fM a.drew (f.add 1) λg=>Ld .ptr a.drew e λh=>Pt h λi=>fM a.drew (i.add 449) λj=>K (g !=j) a.drew):=χ Tryz.func239
theorem Jp {b c d e w K}:gB (zX b c d e w K)
 (Ε w [Β b,Β c,Β d] 335 λf a=>fM a.drew (f.add 1) λg=>Ld .ptr a.drew e λh=>Pt h λi=>fM a.drew (i.add 449) λj=>K (g==j) a.drew):=χ Tryz.func240
theorem qI {a b w K}:gB (iW a b w K)
 (zK (IntKind.u64.wrap (a.len:Int)) w λc d=>iV a 0 (a.len:Int) c b d λe=>K e):=χ Tryz.func241
theorem Jq {b c d e f g w K}:gB (uK b c d e f g w K)
 (Ε w [Β b,Β c,Β d] 335 λh i=>Ε i [Β e,Β f,Β g] 335 λj a=>fM a (h.add 2) λk=>fM a (j.add 2) λl=>rF k l a λm n=>K m n):=χ Tryz.func242
theorem Na {a b w K}:gB (rG a b w K)
 (iI (Value.pointer a)=true/\
 Ε w [.pointer a] 159 λc d=>iI (Β b)=true/\
 Ε d [Β b] 3 λe f=>K (Value.func (.func 279) #[] #[(Value.pointer (some c)),(Value.pointer (some e))]) f):=χ Tryz.func243
theorem ad6 {c a b w K}:gB (ou c a b w K)
 (g_ c w λd f=>kW a b f λg e=>(cond (!g) (K d e) (CX a b e λh i=>jC d h i λj k=>K j k))):=χ Tryz.func244
theorem Hr {a e w K}:gB (sK a e w K)
 (kX a w λj c=>(cond (!j) (K false c) (Pt a λk=>Ld .map c (k.add 448) λl=>E8 υ 3 l (Β e) (Value.agg ⟨amT⟩) c λm n=>∃f:Int,∃g:Int,∃h:Int,m=(Value.agg ⟨[Β f,Β g,Β h]⟩)/\
 Ε c amT 335 λd o=>h_ [Β f,Β g,Β h] o d 0 λb=>(cond (!n) (K false b) (fM b (d.add 0) λp=>fM b (d.add 1) λq=>fM b (d.add 2) λr=>qB a p q r b λi=>Pt a λs=>Ld .map i (s.add 448) λt=>E5 υ 3 t (Β e) i λu=>K true u))))):=χ Tryz.func245
theorem zQ {a b w K}:gB (rM a b w K)
 (uZ a b w λc d=>K (decide (c>=0)) d):=χ Tryz.func246
theorem Ϭ {a w K}:gB (Fg a w K)
 (let b:Bool->Prop:=λc=>(K c w)
 (cond (decide (a>=1)) (b (decide (a<=4))) (b false))):=χ Tryz.func247
theorem abW {a b c d e f g h i j k w K}:gB (JI a b c d e f g h i j k w K)
 (Ε w (gQ a b c d e f g h i j k) 48 λm l=>Ld .slice l (m.add 9) λn=>K (ο.wrap (20+(n.len:Int))) l):=χ Tryz.func248
theorem abU {a w K}:gB (JH a w K)
 (Dj a w λb c=>FY b c λd e=>K d e):=χ Tryz.func249
theorem Y9 {c a b w K}:gB (CY c a b w K)
 (let e:Bool->b_:=λh d=>((cond h (K ⟨none,0,0⟩ 1 d) (let f:Bool->Prop:=λi=>((cond i (K ⟨none,0,0⟩ 3 d) (Tf c 1 a (ο.wrap (a+b)) (ο.wrap (a+b)) λj=>K j 0 d)))
 (cond (decide ((c.len:Int)<b)) (f true) (f (decide (a>(ο.wrap ((c.len:Int) - b)))))))))
 Fg b w λk g=>(cond (!k) (e true g) (e (decide (a<0)) g))):=χ Tryz.func250
theorem Zw {f w K}:gB (Ip f w K)
 (Ε w ξ 48 λc j=>Pj f true j λe k l g m=>Ε m amZ 394 λd n=>h_ [Δ e,Β k,Β l] n d 0 λb=>(cond (g !=0) (h_ ξ b c 0 λh=>iq h c λo p q r s t u v x y z=>K o p q r s t u v x y z g h) (Ld .slice b (d.add 0) λA=>fM b (d.add 1) λB=>fM b (d.add 2) λC=>vP A B C b λD E F G H I J L M N O P=>h_ (gQ D E F G H I J L M N O) P c 0 λi=>iq i c λQ R S T U V W X Y Z aa=>K Q R S T U V W X Y Z aa 0 i))):=χ Tryz.func251
theorem Lh {a b c d e f g h i j k l m n w K}:gB (jO a b c d e f g h i j k l m n w K)
 (Ε w (nV a b c d e f g h i j k l m) 294 λp o=>Ld .slice o ((p.add 1).add 10) λq=>yZ q n 2 o λr t s=>K r s):=χ Tryz.func252
theorem Ϸ {d a b w K}:gB (TF d a b w K)
 (Df d a b w λg h i j k l m n o p q r s e t=>Ε t (nV ⟨none,0,0⟩ 0 0 0 0 0 0 0 false false ⟨none,0,0⟩ ⟨none,0,0⟩ 0) 294 λf u=>h_ (nV g h i j k l m n o p q r s) u f 0 λc=>(cond (e !=0) (K ⟨none,0,0⟩ e c) (uf c f λv x y z A B C D E F G H I=>oQ v x y z A B C D E F G H I 16 2 a b c λJ L=>K J 0 L))):=χ Tryz.func253
theorem WH {d a b w K}:gB (NP d a b w K)
 (Df d a b w λg h i j k l m n o p q r s e t=>Ε t (nV ⟨none,0,0⟩ 0 0 0 0 0 0 0 false false ⟨none,0,0⟩ ⟨none,0,0⟩ 0) 294 λf u=>h_ (nV g h i j k l m n o p q r s) u f 0 λc=>(cond (e !=0) (K ⟨none,0,0⟩ e c) (uf c f λv x y z A B C D E F G H I=>oQ v x y z A B C D E F G H I 12 0 a b c λJ L=>K J 0 L))):=χ Tryz.func254
theorem Wp {h i j b w K}:gB (Fj h i j b w K)
 (Ε w [Β h,Β i,Β j,Δ b] 105 λc k=>let e:Bool->b_:=λl d=>((cond l (K 1 d) (Ld .slice d (c.add 3) λm=>(cond (decide ((m.len:Int)>65527)) (K 6 d) (K 0 d)))))
 fM k c λn=>kW n 1 k λo f=>(cond (!o) (e true f) (fM f (c.add 1) λp=>kW p 1 f λq g=>(cond (!q) (e true g) (fM g (c.add 2) λr=>kW r 4 g λs t=>e (!s) t))))):=χ Tryz.func255
theorem ad7 {e f c a w K}:gB (zi e f c a w K)
 (kW c a w λl g=>(cond (!l) (K ⟨none,0,0⟩ 1 g) (g_ e g λh m=>CY h f a m λn i j=>(cond (i !=0) (K ⟨none,0,0⟩ i j) (CX c a j λo p=>ru o p λk q=>iH (S:=Int×Unit) (λb d r=>(cond (decide (b.1<(k.len:Int))) (iE k 1 b.1 λs=>Ld (.int .u8) d s λt=>iE n 1 b.1 λu=>St d u (.int .u8 t) λv=>r ((ο.wrap (b.1+1)),()) v) (K h 0 d))) (0,()) q))))):=χ Tryz.func256 (fQ (fQ (fQ (fQ (fQ (.seq (fQ (.blk (.loop [(36,ν)] .leaf))) .leaf))))))
theorem ad8 {a w K}:gB (Ig a w K)
 (JH a w λb c=>K (ο.wrap (65535 - b)) c):=χ Tryz.func257
theorem IY {b w K}:gB (Fe b w K)
 (iI (Δ b)=true/\
 Ε w [Δ b] 46 λc d=>K (Value.func (.func 290) #[] #[(Value.pointer (some c))]) d):=χ Tryz.func258
theorem Xe {a b c d w K}:gB (tJ a b c d w K)
 (AA a 4 w λe f=>ou ⟨none,0,0⟩ e 4 f λg h=>AA b 4 h λi j=>ou g i 4 j λk l=>AA c 1 l λm n=>ou k m 2 n λo p=>AA d 2 p λq r=>ou o q 2 r λs t=>K s t):=χ Tryz.func259
theorem Va {a0 a1 f0 w K}:gB (VW a0 a1 f0 w K)
 (Ld .slice w f0 λa=>yZ a a0 a1 w λb d c=>K b c):=χ Tryz.func260
theorem GU {a w K}:gB (BH a w K)
 (K ((lu .i64 a 6)==2) w):=χ Tryz.func261
theorem U_ {a b w K}:gB (D_ a b w K)
 (let c:Bool->Prop:=λd=>((cond d (lF 1 2 b w λe f=>K e f) (cond (a==1) (lF 1 3 b w λg h=>K g h) (cond (a==2) (lF 3 2 b w λi j=>K i j) (K a w)))))
 (cond (a==0) (c (a==0)) (c (a==6)))):=χ Tryz.func262
theorem RG {a b w K}:gB (BI a b w K)
 ((cond (a==3) (lF 4 5 b w λc d=>K c d) (cond (a==4) (lF 4 6 b w λe f=>K e f) (cond (a==5) (lF 6 5 b w λg h=>K g h) (K a w))))):=χ Tryz.func263
theorem Nk {a b c w K}:gB (wJ a b c w K)
 (iI (Value.pointer a)=true/\
 Ε w [.pointer a] 64 λd e=>iI (Β b)=true/\
 Ε e [Β b] 3 λf g=>iI (Β c)=true/\
 Ε g [Β c] 3 λh i=>K (Value.func (.func 293) #[] #[(Value.pointer (some d)),(Value.pointer (some f)),(Value.pointer (some h))]) i):=χ Tryz.func264
theorem Ri {a b w K}:gB (AY a b w K)
 (let c:Bool->b_:=λf g=>(K f g)
 mD a w λh d=>(cond h (mD b d λi e=>(cond (!i) (c true e) (c (decide (a<b)) e))) (c (decide (a<b)) d))):=χ Tryz.func265
theorem Ll {a w K}:gB (qy a w K)
 (K (a !=a) w):=χ Tryz.func266
theorem Hu {b c d e w K}:gB (zA b c d e w K)
 (Ε w [Β b,Β c,Β d] 335 λf a=>fM a f λg=>fM a e λh=>K (g==h) a):=χ Tryz.func269
theorem Zh {d c a w K}:gB (Ic d c a w K)
 (let e:Bool->Prop:=λg=>((cond g (K 0 1 w) (cond (decide (c>(ο.wrap ((d.len:Int) - a)))) (K 0 3 w) (iH (S:=Int×Int×Unit) (λb f h=>(cond (decide (b.2.1<a)) (iE d 1 (ο.wrap (c+b.2.1)) λi=>Ld (.int .u8) f i λj=>h ((ο.wrap ((ο.wrap (b.1 * 256))+(ο.wrap j))),(ο.wrap (b.2.1+1)),()) f) (K b.1 0 f))) (0,0,()) w))))
 (cond (decide (a<1)) (e true) (cond (decide (a>4)) (e true) (e (decide (c<0)))))):=χ Tryz.func270 (fQ (fQ (fQ (fQ (.seq (fQ (.blk (.loop [(8,ν),(9,ν)] .leaf))) .leaf)))))
theorem Zj {b w K}:gB (Dh b w K)
 (iH (S:=Int×Int×Unit) (λa c d=>(cond (decide (a.2.1<b)) (d ((ο.wrap (a.1 * 256)),(ο.wrap (a.2.1+1)),()) c) (K a.1 c))) (1,0,()) w):=χ Tryz.func271 (fQ (fQ (.seq (fQ (.blk (.loop [(3,ν),(4,ν)] .leaf))) .leaf)))
theorem WQ {a b w K}:gB (FM a b w K)
 ((cond (decide ((ο.wrap (b+1))<(a.len:Int))) (iE a 1 b λc=>Ld (.int .u8) w.drew c λd=>iE a 1 (ο.wrap (b+1)) λe=>Ld (.int .u8) w.drew e λf=>K (ο.wrap ((ο.wrap ((ο.wrap d) * 256))+(ο.wrap f))) w.drew) (iE a 1 b λg=>Ld (.int .u8) w g λh=>K (ο.wrap ((ο.wrap h) * 256)) w))):=χ Tryz.func272
theorem WR {b w K}:gB (FN b w K)
 ((cond (decide (b<0)) (K 0 w) (iH (S:=Int×Unit) (λa c d=>(cond (decide (a.1>65535)) ((65536:Int)≠0/\
 (65536:Int)≠0/\
 d ((ο.wrap ((Int.tmod a.1 65536)+(ο.wrap (Int.tdiv a.1 65536)))),()) c) (K a.1 c))) (b,()) w))):=χ Tryz.func273 (fQ (fQ (.seq (.blk (.loop [(0,ν)] .leaf)) .leaf)))
theorem Y_ {b c w K}:gB (H9 b c w K)
 (iH (S:=Int×Int×Unit) (λa d e=>(cond (decide (a.2.1<(b.size:Int))) (aeU b a.2.1 λf=>e ((IntKind.u32.wrap ((VG .u32 a.1 (IntKind.u32.wrap f)) * 16777619)),(ο.wrap (a.2.1+1)),()) d) ((IntKind.u32.wrap c)≠0/\
 K (ο.wrap (Int.tmod a.1 (IntKind.u32.wrap c))) d))) (2166136261,0,()) w):=χ Tryz.func274 (fQ (fQ (.seq (fQ (.blk (.loop [(5,(.int .u32)),(9,ν)] .leaf))) .leaf)))
theorem EG {a w K}:gB (mD a w K)
 (K (a !=a) w):=χ Tryz.func275
theorem pV {c e w K}:gB (jA c e w K)
 (iH (S:=Int×Unit) (λb a h=>(cond (decide (b.1<(c.len:Int))) (iE c 3 b.1 λd=>fM a (d.add 0) λi=>fM a (d.add 1) λj=>fM a (d.add 2) λk=>jy υ [.one .bool] e [(Value.agg ⟨[Β i,Β j,Β k]⟩)] a λl f=>∃g:Bool,l=(Value.bool g)/\
 (cond g (K b.1 f) (h ((ο.wrap (b.1+1)),()) f))) (K (-1) a))) (0,()) w):=χ Tryz.func276 (fQ (.seq (fQ (.blk (.loop [(8,ν)] .leaf))) .leaf))
theorem uP {b m n o c w K}:gB (iV b m n o c w K)
 (iH (S:=Int×Int×Int×Bool×Bool×Unit) (λa g h=>(cond (decide ((ο.wrap (a.2.1 - a.1))<=12)) (jD b a.1 a.2.1 c g λD=>K D) (cond (a.2.2.1==0) (uJ b a.1 a.2.1 c g λE=>K E) (let p:Int->b_:=λf F=>(rV b a.1 a.2.1 c F λq r s=>let t:Int->Int->b_:=λi G u=>(let v:b_:=λd=>(let x:Bool->b_:=λH y=>((cond H (qA b a.1 a.2.1 i c y λI J=>h (I,a.2.1,f,a.2.2.2.1,a.2.2.2.2.1,()) J) (tH b a.1 a.2.1 i c y λe z A=>(8:Int)≠0/\
 (cond (decide ((ο.wrap (e - a.1))<(ο.wrap (a.2.1 - e)))) (iV b a.1 e f c A λL=>h ((ο.wrap (e+1)),a.2.1,f,(decide ((ο.wrap (e - a.1))>=(ο.wrap (Int.tdiv (ο.wrap (a.2.1 - a.1)) 8)))),z,()) L) (iV b (ο.wrap (e+1)) a.2.1 f c A λM=>h (a.1,e,f,(decide ((ο.wrap (a.2.1 - e))>=(ο.wrap (Int.tdiv (ο.wrap (a.2.1 - a.1)) 8)))),z,()) M)))))
 (cond (decide (a.1>0)) (iE b 3 (ο.wrap (a.1 - 1)) λj=>fM d.drew (j.add 0) λN=>fM d.drew (j.add 1) λO=>fM d.drew (j.add 2) λP=>iE b 3 i λk=>fM d.drew (k.add 0) λQ=>fM d.drew (k.add 1) λR=>fM d.drew (k.add 2) λT=>jy υ [.one ν] c [(Value.agg ⟨[Β N,Β O,Β P]⟩),(Value.agg ⟨[Β Q,Β R,Β T]⟩)] d.drew λU V=>∃B:Int,U=(Β B)/\
 x (!(decide (B<0))) V) (x false d.drew)))
 let l:Bool->Prop:=λW=>((cond W (og b a.1 a.2.1 c u λX C=>(cond X (K C) (v C))) (v u)))
 (cond a.2.2.2.1 (cond a.2.2.2.2.1 (l (G==1)) (l false)) (l false)))
 (cond (r==2) (rC b a.1 a.2.1 c s λY=>t (ο.wrap ((ο.wrap (a.2.1 - 1)) - (ο.wrap (q - a.1)))) 1 Y) (t q r s)))
 (cond (!a.2.2.2.1) (qN b a.1 a.2.1 c g λZ=>p (ο.wrap (a.2.2.1 - 1)) Z) (p a.2.2.1 g)))))) (m,n,o,true,true,()) w):=χ Tryz.func277 (fQ (fQ (.blk (.loop [(1,ν),(2,ν),(3,ν),(10,.bool),(11,.bool)] .leaf))))
theorem P7 {a w K}:gB (zK a w K)
 (wH a w λb c=>K b c):=χ Tryz.func278
theorem I5 {d b e w K}:gB (Kz d b e w K)
 (Ld .ptr w b λi=>Pt i λj=>Ld .slice w j λk=>iH (S:=Int×Unit) (λc a l=>(cond (decide (c.1<(k.len:Int))) (fM a.drew e λm=>Ld .ptr a.drew b λn=>Pt n λo=>Ld .slice a.drew o λf=>(f.len:Int)≠0/\
 jy υ [.one .bool] d [(Β (Int.tmod (ο.wrap (m+c.1)) (f.len:Int)))] a.drew λp g=>∃h:Bool,p=(Value.bool h)/\
 (cond (!h) (K g) (l ((ο.wrap (c.1+1)),()) g))) (K a))) (0,()) w):=χ Tryz.func279 (fQ (.blk (.loop [(10,ν)] .leaf)))
theorem pW {b i w K}:gB (jC b i w K)
 (iI (Δ b)=true/\
 Ε w [Δ b] 46 λf c=>xk υ none [.one (.int .u8)] i c (λd k e l=>e.heap[d]? =e.heap[d]? /\
 Ld .slice (gu e d) f λm=>Al (gu e d) (.cells ⟨[.int .u8 k.1]⟩ 5) λn o=>mG 5 1 1 [(Value.int .u8 0)] m ⟨(some n),1,1⟩ o λg p=>St p f (Δ g) λq=>l .normal q)
 (λh=>Ld .slice h f λr=>Η h c/\
 K r (jB h c))
 (λj=>Η j c/\
 K ⟨none,0,0⟩ (jB j c))
 []):=χ Tryz.func280 (fQ (.seq (fQ (.blk (.rng [.one (.int .u8)] .leaf .leaf))) .leaf))
theorem Y8 {a b w K}:gB (CX a b w K)
 (iI (Β a)=true/\
 Ε w [Β a] 3 λc d=>iI (Β b)=true/\
 Ε d [Β b] 3 λe f=>K (Value.func (.func 307) #[] #[(Value.pointer (some e)),(Value.pointer (some c))]) f):=χ Tryz.func281
theorem CU {c d w K}:gB (uZ c d w K)
 (iH (S:=Int×Unit) (λa b e=>(cond (decide (a.1<(c.len:Int))) (iE c 1 a.1 λf=>Ld .bool b f λg=>(cond ((d:Bool)==g) (K a.1 b) (e ((ο.wrap (a.1+1)),()) b))) (K (-1) b))) (0,()) w):=χ Tryz.func282 (fQ (.seq (fQ (.blk (.loop [(8,ν)] .leaf))) .leaf))
theorem aad {b w K}:gB (FY b w K)
 (iH (S:=Int×Unit) (λa c d=>(cond (decide (a.1>65535)) (0<=(16:Int)/\
 d ((ο.wrap ((lu .i64 a.1 65535)+(jE .i64 a.1 16))),()) c) (K a.1 c))) ((if (0:Int)>b then 0 else b),()) w):=χ Tryz.func283 (fQ (fQ (.seq (.blk (.loop [(0,ν)] .leaf)) .leaf)))
theorem Zo {f w K}:gB (Dj f w K)
 (Ε w [Β 0] 3 λb h=>St h b (Β 0) λi=>iH (S:=(Int×Unit)×List Nat) (λa c j=>(cond (decide (a.1.1<(f.len:Int))) (iE f 1 a.1.1 λk=>Ld .slice c k λl=>Fe l c λm g=>xk υ none [.one ν,.one ν] m g (λd n e o=>e.heap[d]? =e.heap[d]? /\
 fM (gu e d) b λp=>St (gu e d) b (Β (ο.wrap (p+n.2.1))) λq=>o .normal q)
 (λr=>j (((ο.wrap (a.1.1+1)),()),(g.heap.size::a.2)) r)
 (λs=>wE (g.heap.size::a.2) s λt=>K 0 t)
 []) (fM c b λu=>wE a.2 c λv=>K u v))) ((0,()),[]) i):=χ Tryz.func284 (fQ (fQ (.seq (fQ (.blk (.loop [(10,ν)] (fQ (fQ (.seq (.blk (fQ (fQ (.blk (.rng [.one ν,.one ν] .leaf .leaf))))) .leaf)))))) .leaf)))
theorem abY {e p w K}:gB (Pj e p w K)
 (Ε w amZ 394 λb m=>(cond (decide ((e.len:Int)<20)) (h_ amZ m b 0 λg=>Ld .slice g (b.add 0) λx=>fM g (b.add 1) λy=>fM g (b.add 2) λz=>K x y z 3 g) (iE e 1 0 λA=>Ld (.int .u8) m A λB=>Ε m amZ 394 λc C=>h_ [Δ e,Β (ο.wrap ((ο.wrap (lu .u8 B 15)) * 4)),Β 0] C c 0 λh=>Ld .slice h (c.add 0) λD=>fM h (c.add 1) λE=>fM h (c.add 2) λF=>gW D E F 2 2 h λG H=>St H (c.add 2) (Β G) λd=>let q:Bool->Prop:=λI=>((cond I (h_ amZ d b 0 λi=>Ld .slice i (b.add 0) λJ=>fM i (b.add 1) λL=>fM i (b.add 2) λM=>K J L M 4 i) (let n:Bool->Prop:=λN=>((cond N (h_ amZ d b 0 λj=>Ld .slice j (b.add 0) λO=>fM j (b.add 1) λP=>fM j (b.add 2) λQ=>K O P Q 3 j) (let r:Bool->b_:=λR f=>((cond R (h_ amZ f b 0 λk=>Ld .slice k (b.add 0) λS=>fM k (b.add 1) λT=>fM k (b.add 2) λU=>K S T U 4 k) (Ld .slice f (c.add 0) λo=>fM f (c.add 1) λV=>fM f (c.add 2) λW=>h_ [Δ o,Β V,Β W] f b 0 λl=>Ld .slice l (b.add 0) λX=>fM l (b.add 1) λY=>fM l (b.add 2) λZ=>K X Y Z 0 l)))
 fM d (c.add 2) λs=>fM d (c.add 1) λt=>(cond (decide (s<t)) (r (decide (s<t)) d) (Ld .slice d (c.add 0) λaa=>fM d (c.add 1) λab=>fM d (c.add 2) λac=>gW aa ab ac 6 2 d λad ae=>r ((lu .i64 ad 32768) !=0) ae)))))
 fM d (c.add 1) λu=>(cond (decide (u>(e.len:Int))) (n (decide (u>(e.len:Int)))) (fM d (c.add 2) λaf=>(cond (decide (af>(e.len:Int))) (n (!p)) (n false)))))))
 iE e 1 0 λag=>Ld (.int .u8) d ag λv=>0<=(4:Int)/\
 (cond ((jE .u8 v 4) !=4) (q ((jE .u8 v 4) !=4)) (fM d (c.add 1) λah=>q (decide (ah<20))))))):=χ Tryz.func285
theorem Lm {P A1 A2 w K}:gB (vP P A1 A2 w K)
 (Ε w [Δ P,Β A1,Β A2] 394 λb w2=>Ε w2 ξ 48 λa5 Q=>Ld .slice Q (b.add 0) λx6=>fM Q (b.add 1) λx7=>fM Q (b.add 2) λx8=>gW x6 x7 x8 6 2 Q λW l=>let v:Addr->b_:=λF aG=>(St aG (F.add 2) (Β (ο.wrap ((lu .i64 W 8191) * 8))) λaH=>St aH (F.add 7) (.bool ((lu .i64 W 16384) !=0)) λaI=>St aI (F.add 8) (.bool ((lu .i64 W 8192) !=0)) λX=>Ld .slice X b λaJ=>fM X (b.add 1) λaK=>kM aJ 1 20 aK λaL=>g_ aL X λY aM=>St aM (F.add 9) (Δ Y) λJ=>Ld .slice J b λaN=>fM J (b.add 1) λaO=>fM J (b.add 2) λaj=>Ld .slice J b λak=>kM aN 1 aO (if (ak.len:Int)<aj then (ak.len:Int) else aj) λaP=>g_ aP J λZ aQ=>St aQ (F.add 10) (Δ Z) λal=>iq al F λaR aS aT aU aV aW aX aY aZ a0 a1=>h_ (gQ aR aS aT aU aV aW aX aY aZ a0 a1) al a5 0 λam=>iq am a5 λa2 a4 a6 a7 a8 a9 ba bb bc bd be=>K a2 a4 a6 a7 a8 a9 ba bb bc bd be am)
 Ld .slice l.drew (b.add 0) λs=>fM l.drew (b.add 1) λt=>fM l.drew (b.add 2) λu=>Ld .slice l.drew (b.add 0) λp=>fM l.drew (b.add 1) λq=>fM l.drew (b.add 2) λr=>Ld .slice l.drew (b.add 0) λm=>fM l.drew (b.add 1) λn=>fM l.drew (b.add 2) λo=>Ld .slice l.drew (b.add 0) λi=>fM l.drew (b.add 1) λj=>fM l.drew (b.add 2) λk=>Ld .slice l.drew (b.add 0) λf=>fM l.drew (b.add 1) λg=>fM l.drew (b.add 2) λh=>Ld .slice l.drew (b.add 0) λc=>fM l.drew (b.add 1) λd=>fM l.drew (b.add 2) λe=>(gW s t u 1 1 l.drew λG x=>Ct x b c d e<|Ct x b f g h<|Ct x b i j k<|Ct x b m n o<|Ct x b p q r<|(gW p q r 4 2 x λL H=>Ct H b c d e<|Ct H b f g h<|Ct H b i j k<|Ct H b m n o<|(gW m n o 8 1 H λR M=>Ct M b c d e<|Ct M b f g h<|Ct M b i j k<|(gW i j k 9 1 M λaa S=>Ct S b c d e<|Ct S b f g h<|(gW f g h 12 4 S λan ab=>Ct ab b c d e<|(gW c d e 16 4 ab λbf bg=>Ε bg ξ 48 λao y=>Ct y b c d e<|Ct y b f g h<|Ct y b i j k<|Ct y b m n o<|Ct y b p q r<|Ct y b s t u<|h_ (gQ G L 0 R aa an bf false false ⟨none,0,0⟩ ⟨none,0,0⟩) y ao 0 λbh=>v ao bh)/\
 (Ε ab ξ 48 λap z=>Ct z b c d e<|Ct z b f g h<|Ct z b i j k<|Ct z b m n o<|Ct z b p q r<|Ct z b s t u<|gW c d e 16 4 z λbi bj=>h_ (gQ G L 0 R aa an bi false false ⟨none,0,0⟩ ⟨none,0,0⟩) bj ap 0 λbk=>v ap bk))/\
 (Ε S ξ 48 λaq A=>Ct A b c d e<|Ct A b f g h<|Ct A b i j k<|Ct A b m n o<|Ct A b p q r<|Ct A b s t u<|gW f g h 12 4 A λbl ar=>Ct ar b c d e<|gW c d e 16 4 ar λbm bn=>h_ (gQ G L 0 R aa bl bm false false ⟨none,0,0⟩ ⟨none,0,0⟩) bn aq 0 λbo=>v aq bo))/\
 (Ε M ξ 48 λau B=>Ct B b c d e<|Ct B b f g h<|Ct B b i j k<|Ct B b m n o<|Ct B b p q r<|Ct B b s t u<|gW i j k 9 1 B λbp ac=>Ct ac b c d e<|Ct ac b f g h<|gW f g h 12 4 ac λbq av=>Ct av b c d e<|gW c d e 16 4 av λbr bs=>h_ (gQ G L 0 R bp bq br false false ⟨none,0,0⟩ ⟨none,0,0⟩) bs au 0 λbt=>v au bt))/\
 (Ε H ξ 48 λaw C=>Ct C b c d e<|Ct C b f g h<|Ct C b i j k<|Ct C b m n o<|Ct C b p q r<|Ct C b s t u<|gW m n o 8 1 C λbu T=>Ct T b c d e<|Ct T b f g h<|Ct T b i j k<|gW i j k 9 1 T λbv ad=>Ct ad b c d e<|Ct ad b f g h<|gW f g h 12 4 ad λbw ax=>Ct ax b c d e<|gW c d e 16 4 ax λbx bz=>h_ (gQ G L 0 bu bv bw bx false false ⟨none,0,0⟩ ⟨none,0,0⟩) bz aw 0 λbA=>v aw bA))/\
 (Ε x ξ 48 λay D=>Ct D b c d e<|Ct D b f g h<|Ct D b i j k<|Ct D b m n o<|Ct D b p q r<|Ct D b s t u<|gW p q r 4 2 D λbB N=>Ct N b c d e<|Ct N b f g h<|Ct N b i j k<|Ct N b m n o<|gW m n o 8 1 N λbC U=>Ct U b c d e<|Ct U b f g h<|Ct U b i j k<|gW i j k 9 1 U λbD ae=>Ct ae b c d e<|Ct ae b f g h<|gW f g h 12 4 ae λbE az=>Ct az b c d e<|gW c d e 16 4 az λbF bG=>h_ (gQ G bB 0 bC bD bE bF false false ⟨none,0,0⟩ ⟨none,0,0⟩) bG ay 0 λbH=>v ay bH))/\
 (Ε l.drew ξ 48 λaA E=>Ct E b c d e<|Ct E b f g h<|Ct E b i j k<|Ct E b m n o<|Ct E b p q r<|Ct E b s t u<|gW s t u 1 1 E λbI I=>Ct I b c d e<|Ct I b f g h<|Ct I b i j k<|Ct I b m n o<|Ct I b p q r<|gW p q r 4 2 I λbJ O=>Ct O b c d e<|Ct O b f g h<|Ct O b i j k<|Ct O b m n o<|gW m n o 8 1 O λbK V=>Ct V b c d e<|Ct V b f g h<|Ct V b i j k<|gW i j k 9 1 V λbL af=>Ct af b c d e<|Ct af b f g h<|gW f g h 12 4 af λbM aB=>Ct aB b c d e<|gW c d e 16 4 aB λbN bO=>h_ (gQ bI bJ 0 bK bL bM bN false false ⟨none,0,0⟩ ⟨none,0,0⟩) bO aA 0 λbP=>v aA bP)):=χ Tryz.func286
theorem Zg {b c d w K}:gB (Df b c d w K)
 (Ε w (nV ⟨none,0,0⟩ 0 0 0 0 0 0 0 false false ⟨none,0,0⟩ ⟨none,0,0⟩ 0) 294 λa m=>uV b m λn o p q r s t u v x y z A B e C=>Ε C ξ 48 λD E=>Ε E amT 110 λF G=>h_ (gQ n o p q r s t u v x y) G D 0 λH=>h_ [Β z,Β A,Β B] H F 0 λf=>(cond (e !=0) (h_ (nV ⟨none,0,0⟩ 0 0 0 0 0 0 0 false false ⟨none,0,0⟩ ⟨none,0,0⟩ 0) f a 0 λg=>uf g a λI J L M N O P Q R S T U V=>K I J L M N O P Q R S T U V e g) (let h:Bool->b_:=λW i=>((cond W (h_ (nV ⟨none,0,0⟩ 0 0 0 0 0 0 0 false false ⟨none,0,0⟩ ⟨none,0,0⟩ 0) i a 0 λj=>uf j a λX Y Z aa ab ac ad ae af ag ah ai aj=>K X Y Z aa ab ac ad ae af ag ah ai aj 1 j) (wK b i λak al am an ao ap aq ar au av aw ax ay az aA=>h_ (nV ak al am an ao ap aq ar au av aw ax ay) aA a 0 λk=>uf k a λaB aC aD aE aF aG aH aI aJ aK aL aM aN=>K aB aC aD aE aF aG aH aI aJ aK aL aM aN az k)))
 lS c f λaO l=>(cond (!aO) (h true l) (kW d 2 l λaP aQ=>h (!aP) aQ))))):=χ Tryz.func287
theorem Jg {A B C D E F G H I J L M N O P Q R w K}:gB (oQ A B C D E F G H I J L M N O P Q R w K)
 (Ε w (nV A B C D E F G H I J L M N) 294 λc j=>let S:Int->Prop:=λW=>(Ld .slice j c λX=>vH X O Q 4 j λY k l Z=>Ε Z am3 417 λe aa=>h_ [Β Y,Δ k,Δ l] aa e 0 λm=>Ld .slice m c λab=>fM m (c.add 12) λac=>vH ab (ο.wrap (ac+W)) R 2 m λad n o ae=>Ε ae am3 417 λd af=>h_ [Β ad,Δ n,Δ o] af d 0 λf=>Ld .slice f c λag=>fM f (e.add 0) λah=>Ld .slice f (e.add 1) λp=>Ld .slice f (e.add 2) λq=>Ε f [Β ah,Δ p,Δ q] 417 λai aj=>wL ag 10 ⟨(some ai),1,1⟩ aj λg T=>uf T c λak al am an ao ap aq ar au av aw ax ay=>sJ ak al am an ao ap aq ar au av aw ax ay T λh b=>(cond (h==(-1)) (fM b.drew d λaz=>kM g 1 az (g.len:Int) λaA=>Ld .slice b.drew (d.add 2) λaB=>AQ 1 aA aB b.drew λaW aC=>K g aC) (fM b (c.add 12) λi=>fM b ((c.add 1).add 4) λaD=>(cond (aD==1) (fM b (d.add 0) λaE=>Ld .slice b (d.add 1) λr=>Ld .slice b (d.add 2) λs=>Ε b [Β aE,Δ r,Δ s] 417 λaF aG=>wL g (ο.wrap (h+i)) ⟨(some aF),1,1⟩ aG λaH aI=>K aH aI) (fM b (e.add 0) λaJ=>Ld .slice b (e.add 1) λt=>Ld .slice b (e.add 2) λu=>fM b (d.add 0) λaK=>Ld .slice b (d.add 1) λv=>Ld .slice b (d.add 2) λx=>Ε b [Β aJ,Δ t,Δ u,Β aK,Δ v,Δ x] 417 λaL aM=>wL g (ο.wrap (h+i)) ⟨(some aL),2,2⟩ aM λy aN=>let U:fU->b_:=λaO aP=>(K aO aP)
 yZ y (ο.wrap (h+i)) 2 aN λaQ aX z=>let V:Bool->Prop:=λaR=>((cond aR (zi y (ο.wrap (h+i)) 65535 2 z λaS aY aT=>U aS aT) (U y z)))
 (cond (aQ==0) (fM z ((c.add 1).add 4) λaU=>V (aU==17)) (V false)))))))
 fM j ((c.add 1).add 4) λaV=>(cond (aV==1) (S 4) (S P))):=χ Tryz.func288
theorem Gy {a w K}:gB (ru a w K)
 (jC ⟨none,0,0⟩ a w λb c=>K b c):=χ Tryz.func289
theorem Wj {d c w K}:gB (Yq d c w K)
 (iH (S:=Int×Unit) (λb a i=>Ld .slice a c λj=>(cond (decide (b.1<(j.len:Int))) (Ld .slice a c λk=>iE k 1 b.1 λl=>Ld (.int .u8) a l λe=>0<=(8:Int)/\
 let f:Int->Prop:=λm=>(jy υ [.one .bool] d [(Β b.1),(Β m)] a λn g=>∃h:Bool,n=(Value.bool h)/\
 (cond (!h) (K g) (i ((ο.wrap (b.1+2)),()) g)))
 Ld .slice a c λo=>(cond (decide ((ο.wrap (b.1+1))<(o.len:Int))) (Ld .slice a c λp=>iE p 1 (ο.wrap (b.1+1)) λq=>Ld (.int .u8) a q λr=>f (orI .i64 (Lu .i64 (ο.wrap e) 8) (ο.wrap r))) (f (Lu .i64 (ο.wrap e) 8)))) (K a))) (0,()) w):=χ Tryz.func290 (fQ (.blk (.loop [(3,ν)] .leaf)))
theorem abV {b a w K}:gB (AA b a w K)
 (0<=(ο.wrap (8 * a))/\
 K (lu .i64 b (ο.wrap ((Lu .i64 1 (ο.wrap (8 * a))) - 1))) w):=χ Tryz.func291
theorem Qc {b c d w K}:gB (lF b c d w K)
 (Ε w [Β b,Β c] 400 λe a=>(cond d (fM a e λf=>K f a) (fM a (e.add 1) λg=>K g a))):=χ Tryz.func292
theorem Jc {a0 f0 f1 f2 w K}:gB (KA a0 f0 f1 f2 w K)
 (iI a0=true/\
 Ε w [a0] 102 λn o=>let p:Bool->b_:=λz g=>((cond z (K g) (fM g f2 λA=>St g f2 (Β (lu .i64 A 65535)) λd=>let q:Bool->b_:=λB e=>((cond B (K e) (Ld .ptr e f0 λC=>fM e f1 λD=>fM e f2 λE=>sZ C D E e λr F=>iH (S:=(Int×Unit)×List Nat) (λc h G=>(cond (decide (c.1.1<(r.len:Int))) (iE r 1 c.1.1 λH=>Ld .any h H λI=>Ε h [Β 0] 3 λs J=>St J s (Β c.1.1) λi=>xk υ none [.one ν] I i (λa j b k=>b.heap[a]? =b.heap[a]? /\
 let t:Bool->Prop:=λL=>(let l:Bool->Prop:=λM=>((cond M (k .normal (gu b a)) (Ld .any (gu b a) n λN=>jy υ [.one .bool] N [(Β j.1)] (gu b a) λO u=>∃v:Bool,O=(Value.bool v)/\
 (cond (!v) (k .ret u) (k .normal u)))))
 fM (gu b a) f2 λP=>(cond (j.1==P) (l true) (cond L (fM (gu b a) f1 λQ=>l (Q !=1)) (l false))))
 fM (gu b a) s λR=>(cond (R==1) (fM (gu b a) f2 λT=>t (decide (j.1>=T))) (t false)))
 (λU=>G (((ο.wrap (c.1.1+1)),()),(i.heap.size::c.2)) U)
 (λV=>wE (i.heap.size::c.2) V λW=>K W)
 [(3,(λam=>False))]) (wE c.2 h λX=>K X))) ((0,()),[]) F)))
 Ld .ptr d.drew f0 λY=>Pt Y λx=>fM d.drew (x.add 0) λZ=>fM d.drew (x.add 1) λaa=>fM d.drew f2 λab=>zL Z aa ab d.drew λac f=>(cond ac (Ld .any f n λad=>fM f f2 λae=>jy υ [.one .bool] ad [(Β ae)] f λaf ag=>∃y:Bool,af=(Value.bool y)/\
 q (!y) ag) (q false f)))))
 Ld .ptr o f0 λah=>jU ah o λai m=>(cond (!ai) (p true m) (fM m f1 λaj=>tC aj m λak al=>p (!ak) al))):=χ Tryz.func293 (fQ (fQ (fQ (fQ (fQ (.blk (.loop [(36,ν)] (fQ (fQ (.seq (.blk (fQ (fQ (.blk (.rng [.one ν] .leaf .leaf))))) .leaf))))))))))
theorem P9 {c d a w K}:gB (zL c d a w K)
 (Ε w [Β c,Β d] 149 λe b=>let f:Bool->Prop:=λg=>(K g b)
 fM b e λh=>(cond (decide (h<=a)) (fM b (e.add 1) λi=>f (decide (a<=i))) (f false))):=χ Tryz.func294
theorem Dw {u a1 h w K}:gB (sZ u a1 h w K)
 ((cond (a1==1) (Pt u λa4=>fM w.drew (a4.add 0) λx5=>fM w.drew (a4.add 1) λx6=>Pt u λa7=>fM w.drew a7 λx8=>sF x5 x6 x8 1 w.drew λr9 cC=>O5 [r9]/\
 Ε cC [r9] 258 λcD cE=>K ⟨(some cD),1,1⟩ cE) (Qr (S:=(Addr×Addr×Unit)×θ) (λg=>fM g.2.drew (g.1.1.add 0) λbi=>fM g.2.drew (g.1.1.add 1) λbj=>fM g.2.drew (g.1.1.add 0) λcF=>fM g.2.drew (g.1.1.add 1) λcG=>fM g.2.drew (g.1.1.add 0) λN=>fM g.2.drew (g.1.1.add 1) λO=>fM g.2.drew (g.1.1.add 0) λaf=>fM g.2.drew (g.1.1.add 1) λag=>fM g.2.drew (g.1.2.1.add 0) λz=>fM g.2.drew (g.1.2.1.add 1) λA=>fM g.2.drew (g.1.2.1.add 0) λE=>fM g.2.drew (g.1.2.1.add 1) λF=>Pt u λn=>fM g.2.drew (n.add 0) λo=>fM g.2.drew (n.add 1) λp=>Pt u λq=>fM g.2.drew (q.add 0) λv=>fM g.2.drew (q.add 1) λx=>tq cF cG h g.2.drew λbk r=>Cj r q v x<|Cj r n o p<|Cj r g.1.2.1 E F<|Cj r g.1.2.1 z A<|Cj r g.1.1 af ag<|Cj r g.1.1 N O<|Cj r g.1.1 bi bj<|sF bi bj (if bk>(ο.wrap (h+2)) then bk else (ο.wrap (h+2))) 2 r λbl y=>Cj y q v x<|Cj y n o p<|Cj y g.1.2.1 E F<|Cj y g.1.2.1 z A<|Cj y g.1.1 af ag<|Cj y g.1.1 N O<|tq af ag h y λcH B=>Cj B q v x<|Cj B n o p<|Cj B g.1.2.1 E F<|Cj B g.1.2.1 z A<|Cj B g.1.1 N O<|sF N O cH 2 B λbm G=>Cj G q v x<|Cj G n o p<|Cj G g.1.2.1 E F<|Cj G g.1.2.1 z A<|tq E F h G λcI P=>Cj P q v x<|Cj P n o p<|Cj P g.1.2.1 z A<|sF z A cI 2 P λbn ah=>Cj ah q v x<|Cj ah n o p<|tq v x (ο.wrap (h+1)) ah λcJ bo=>Cj bo n o p<|sF o p cJ 2 bo λbp cK=>O5 [bl,bm,bn,bp]/\
 Ε cK [bl,bm,bn,bp] 258 λcL cM=>K ⟨(some cL),4,4⟩ cM) λi=>Pt u λf=>fM w.drew (f.add 0) λd=>fM w.drew (f.add 1) λe=>Pt u λc=>fM w.drew (c.add 0) λa=>fM w.drew (c.add 1) λb=>(kP h w.drew λH I J=>Cj J c a b<|Cj J f d e<|(gG d e H I J λj k Q=>Cj Q c a b<|(iL h Q λL M R=>Cj R c a b<|(gG a b L M R λbq br bs=>(Ε bs amS 149 λbt ai=>Cj ai c a b<|Cj ai f d e<|Ε ai amS 149 λbu aj=>Cj aj c a b<|Cj aj f d e<|h_ [Β j,Β k] aj bt 0 λcN=>h_ [Β bq,Β br] cN bu 0 λcO=>i ((bt,bu,()),cO))/\
 (Ε bs amS 149 λbv ak=>Cj ak c a b<|Cj ak f d e<|Ε ak amS 149 λbw al=>Cj al c a b<|Cj al f d e<|h_ [Β j,Β k] al bw 0 λcP=>h_ [Β bq,Β br] cP bv 0 λcQ=>i ((bw,bv,()),cQ)))/\
 (Ε R amS 149 λT U=>Cj U c a b<|Cj U f d e<|(gG a b L M U λcR cS cT=>Ε cT amS 149 λbx am=>Cj am c a b<|Cj am f d e<|h_ [Β j,Β k] am T 0 λcU=>h_ [Β cR,Β cS] cU bx 0 λcV=>i ((T,bx,()),cV))/\
 (Ε U amS 149 λbz an=>Cj an c a b<|Cj an f d e<|gG a b L M an λcW cX cY=>h_ [Β j,Β k] cY T 0 λcZ=>h_ [Β cW,Β cX] cZ bz 0 λc0=>i ((T,bz,()),c0)))/\
 (Ε R amS 149 λV W=>Cj W c a b<|Cj W f d e<|(gG a b L M W λc1 c2 c3=>Ε c3 amS 149 λbA ao=>Cj ao c a b<|Cj ao f d e<|h_ [Β j,Β k] ao bA 0 λc4=>h_ [Β c1,Β c2] c4 V 0 λc5=>i ((bA,V,()),c5))/\
 (Ε W amS 149 λbB ap=>Cj ap c a b<|Cj ap f d e<|gG a b L M ap λc6 c7 c8=>h_ [Β j,Β k] c8 bB 0 λc9=>h_ [Β c6,Β c7] c9 V 0 λda=>i ((bB,V,()),da))))/\
 (Ε Q amS 149 λC X=>Cj X c a b<|Cj X f d e<|(iL h X λbC bD aq=>Cj aq c a b<|(gG a b bC bD aq λdb dc dd=>Ε dd amS 149 λbE ar=>Cj ar c a b<|Cj ar f d e<|h_ [Β j,Β k] ar C 0 λde=>h_ [Β db,Β dc] de bE 0 λdf=>i ((C,bE,()),df))/\
 (Ε aq amS 149 λbF au=>Cj au c a b<|Cj au f d e<|gG a b bC bD au λdg dh di=>h_ [Β j,Β k] di C 0 λdj=>h_ [Β dg,Β dh] dj bF 0 λdk=>i ((C,bF,()),dk)))/\
 (Ε X amS 149 λbG av=>Cj av c a b<|Cj av f d e<|iL h av λdl dm bH=>Cj bH c a b<|gG a b dl dm bH λdn dp dq=>h_ [Β j,Β k] dq C 0 λdr=>h_ [Β dn,Β dp] dr bG 0 λds=>i ((C,bG,()),ds)))/\
 (Ε Q amS 149 λD Y=>Cj Y c a b<|Cj Y f d e<|(iL h Y λbI bJ aw=>Cj aw c a b<|(gG a b bI bJ aw λdt du dv=>Ε dv amS 149 λbK ax=>Cj ax c a b<|Cj ax f d e<|h_ [Β j,Β k] ax bK 0 λdw=>h_ [Β dt,Β du] dw D 0 λdx=>i ((bK,D,()),dx))/\
 (Ε aw amS 149 λbL ay=>Cj ay c a b<|Cj ay f d e<|gG a b bI bJ ay λdy dz dA=>h_ [Β j,Β k] dA bL 0 λdB=>h_ [Β dy,Β dz] dB D 0 λdC=>i ((bL,D,()),dC)))/\
 (Ε Y amS 149 λbM az=>Cj az c a b<|Cj az f d e<|iL h az λdD dE bN=>Cj bN c a b<|gG a b dD dE bN λdF dG dH=>h_ [Β j,Β k] dH bM 0 λdI=>h_ [Β dF,Β dG] dI D 0 λdJ=>i ((bM,D,()),dJ))))/\
 (Ε J amS 149 λs Z=>Cj Z c a b<|Cj Z f d e<|(gG d e H I Z λaA aB aC=>Cj aC c a b<|(iL h aC λbO bP aD=>Cj aD c a b<|(gG a b bO bP aD λdK dL dM=>Ε dM amS 149 λbQ aE=>Cj aE c a b<|Cj aE f d e<|h_ [Β aA,Β aB] aE s 0 λdN=>h_ [Β dK,Β dL] dN bQ 0 λdO=>i ((s,bQ,()),dO))/\
 (Ε aD amS 149 λbR aF=>Cj aF c a b<|Cj aF f d e<|gG a b bO bP aF λdP dQ dR=>h_ [Β aA,Β aB] dR s 0 λdS=>h_ [Β dP,Β dQ] dS bR 0 λdT=>i ((s,bR,()),dT)))/\
 (Ε aC amS 149 λbS aG=>Cj aG c a b<|Cj aG f d e<|iL h aG λdU dV bT=>Cj bT c a b<|gG a b dU dV bT λdW dX dY=>h_ [Β aA,Β aB] dY s 0 λdZ=>h_ [Β dW,Β dX] dZ bS 0 λd0=>i ((s,bS,()),d0)))/\
 (Ε Z amS 149 λbU aH=>Cj aH c a b<|Cj aH f d e<|gG d e H I aH λd1 d2 bV=>Cj bV c a b<|iL h bV λd3 d4 bW=>Cj bW c a b<|gG a b d3 d4 bW λd5 d6 d7=>h_ [Β d1,Β d2] d7 s 0 λd8=>h_ [Β d5,Β d6] d8 bU 0 λd9=>i ((s,bU,()),d9)))/\
 (Ε J amS 149 λt aa=>Cj aa c a b<|Cj aa f d e<|(gG d e H I aa λaI aJ aK=>Cj aK c a b<|(iL h aK λbX bY aL=>Cj aL c a b<|(gG a b bX bY aL λea eb ec=>Ε ec amS 149 λbZ aM=>Cj aM c a b<|Cj aM f d e<|h_ [Β aI,Β aJ] aM bZ 0 λed=>h_ [Β ea,Β eb] ed t 0 λee=>i ((bZ,t,()),ee))/\
 (Ε aL amS 149 λb0 aN=>Cj aN c a b<|Cj aN f d e<|gG a b bX bY aN λef eg eh=>h_ [Β aI,Β aJ] eh b0 0 λei=>h_ [Β ef,Β eg] ei t 0 λej=>i ((b0,t,()),ej)))/\
 (Ε aK amS 149 λb1 aO=>Cj aO c a b<|Cj aO f d e<|iL h aO λek el b2=>Cj b2 c a b<|gG a b ek el b2 λem en eo=>h_ [Β aI,Β aJ] eo b1 0 λep=>h_ [Β em,Β en] ep t 0 λeq=>i ((b1,t,()),eq)))/\
 (Ε aa amS 149 λb3 aP=>Cj aP c a b<|Cj aP f d e<|gG d e H I aP λer es b4=>Cj b4 c a b<|iL h b4 λet eu b5=>Cj b5 c a b<|gG a b et eu b5 λev ew ex=>h_ [Β er,Β es] ex b3 0 λey=>h_ [Β ev,Β ew] ey t 0 λez=>i ((b3,t,()),ez))))/\
 (Ε w.drew amS 149 λl ab=>Cj ab c a b<|Cj ab f d e<|(kP h ab λb6 b7 ac=>Cj ac c a b<|Cj ac f d e<|(gG d e b6 b7 ac λaQ aR aS=>Cj aS c a b<|(iL h aS λb8 b9 aT=>Cj aT c a b<|(gG a b b8 b9 aT λeA eB eC=>Ε eC amS 149 λca aU=>Cj aU c a b<|Cj aU f d e<|h_ [Β aQ,Β aR] aU l 0 λeD=>h_ [Β eA,Β eB] eD ca 0 λeE=>i ((l,ca,()),eE))/\
 (Ε aT amS 149 λcb aV=>Cj aV c a b<|Cj aV f d e<|gG a b b8 b9 aV λeF eG eH=>h_ [Β aQ,Β aR] eH l 0 λeI=>h_ [Β eF,Β eG] eI cb 0 λeJ=>i ((l,cb,()),eJ)))/\
 (Ε aS amS 149 λcc aW=>Cj aW c a b<|Cj aW f d e<|iL h aW λeK eL cd=>Cj cd c a b<|gG a b eK eL cd λeM eN eO=>h_ [Β aQ,Β aR] eO l 0 λeP=>h_ [Β eM,Β eN] eP cc 0 λeQ=>i ((l,cc,()),eQ)))/\
 (Ε ac amS 149 λce aX=>Cj aX c a b<|Cj aX f d e<|gG d e b6 b7 aX λeR eS cf=>Cj cf c a b<|iL h cf λeT eU cg=>Cj cg c a b<|gG a b eT eU cg λeV eW eX=>h_ [Β eR,Β eS] eX l 0 λeY=>h_ [Β eV,Β eW] eY ce 0 λeZ=>i ((l,ce,()),eZ)))/\
 (Ε ab amS 149 λch aY=>Cj aY c a b<|Cj aY f d e<|kP h aY λe0 e1 aZ=>Cj aZ c a b<|Cj aZ f d e<|gG d e e0 e1 aZ λe2 e3 ci=>Cj ci c a b<|iL h ci λe4 e5 cj=>Cj cj c a b<|gG a b e4 e5 cj λe6 e7 e8=>h_ [Β e2,Β e3] e8 l 0 λe9=>h_ [Β e6,Β e7] e9 ch 0 λfa=>i ((l,ch,()),fa)))/\
 (Ε w.drew amS 149 λm ad=>Cj ad c a b<|Cj ad f d e<|(kP h ad λck cl ae=>Cj ae c a b<|Cj ae f d e<|(gG d e ck cl ae λa3 a5 a6=>Cj a6 c a b<|(iL h a6 λcm cn a8=>Cj a8 c a b<|(gG a b cm cn a8 λfb fc fd=>Ε fd amS 149 λco a9=>Cj a9 c a b<|Cj a9 f d e<|h_ [Β a3,Β a5] a9 co 0 λfe=>h_ [Β fb,Β fc] fe m 0 λff=>i ((co,m,()),ff))/\
 (Ε a8 amS 149 λcp ba=>Cj ba c a b<|Cj ba f d e<|gG a b cm cn ba λfg fh fi=>h_ [Β a3,Β a5] fi cp 0 λfj=>h_ [Β fg,Β fh] fj m 0 λfk=>i ((cp,m,()),fk)))/\
 (Ε a6 amS 149 λcq bb=>Cj bb c a b<|Cj bb f d e<|iL h bb λfl fm cr=>Cj cr c a b<|gG a b fl fm cr λfn fo fp=>h_ [Β a3,Β a5] fp cq 0 λfq=>h_ [Β fn,Β fo] fq m 0 λfr=>i ((cq,m,()),fr)))/\
 (Ε ae amS 149 λcs bc=>Cj bc c a b<|Cj bc f d e<|gG d e ck cl bc λfs ft ct=>Cj ct c a b<|iL h ct λfu fv cu=>Cj cu c a b<|gG a b fu fv cu λfw fx fy=>h_ [Β fs,Β ft] fy cs 0 λfz=>h_ [Β fw,Β fx] fz m 0 λfA=>i ((cs,m,()),fA)))/\
 (Ε ad amS 149 λcv bd=>Cj bd c a b<|Cj bd f d e<|kP h bd λfB fC be=>Cj be c a b<|Cj be f d e<|gG d e fB fC be λfD fE cw=>Cj cw c a b<|iL h cw λfF fG cx=>Cj cx c a b<|gG a b fF fG cx λfH fI fJ=>h_ [Β fD,Β fE] fJ cv 0 λfK=>h_ [Β fH,Β fI] fK m 0 λfL=>i ((cv,m,()),fL)))))):=χ Tryz.func295 (fQ (fQ (.join [(7,.addr),(8,.addr)] .leaf .leaf)))
theorem qJ {d e k l w K}:gB (jD d e k l w K)
 (iH (S:=Int×Unit) (λf m p=>(cond (decide (f.1<k)) (iH (S:=Int×Unit) (λa b q=>let n:Bool->b_:=λr c=>((cond r (iE d 3 (ο.wrap (a.1 - 1)) λg=>fM c.drew (g.add 0) λs=>fM c.drew (g.add 1) λt=>fM c.drew (g.add 2) λu=>iE d 3 a.1 λh=>fM c.drew (h.add 0) λv=>fM c.drew (h.add 1) λx=>fM c.drew (h.add 2) λy=>iE d 3 a.1 λz=>h_ [Β s,Β t,Β u] c.drew z 0 λA=>iE d 3 (ο.wrap (a.1 - 1)) λB=>h_ [Β v,Β x,Β y] A B 0 λC=>q ((ο.wrap (a.1 - 1)),()) C) (p ((ο.wrap (f.1+1)),()) c)))
 (cond (decide (a.1>e)) (iE d 3 a.1 λi=>fM b.drew (i.add 0) λD=>fM b.drew (i.add 1) λE=>fM b.drew (i.add 2) λF=>iE d 3 (ο.wrap (a.1 - 1)) λj=>fM b.drew (j.add 0) λG=>fM b.drew (j.add 1) λH=>fM b.drew (j.add 2) λI=>jy υ [.one ν] l [(Value.agg ⟨[Β D,Β E,Β F]⟩),(Value.agg ⟨[Β G,Β H,Β I]⟩)] b.drew λJ L=>∃o:Int,J=(Β o)/\
 n (decide (o<0)) L) (n false b.drew))) (f.1,()) m) (K m))) ((ο.wrap (e+1)),()) w):=χ Tryz.func297 (fQ (.blk (.loop [(8,ν)] (fQ (.seq (.blk (fQ (.blk (.loop [(9,ν)] .leaf)))) .leaf)))))
theorem Nb {a w K}:gB (wH a w K)
 (let d:Int->Int->Prop:=λb e=>(let f:Int->Int->Prop:=λc g=>(let h:Int->Int->Prop:=λi j=>(aeU (bs [0,1,2,2,3,3,3,3,4,4,4,4,4,4,4,4,5,5,5,5,5,5,5,5,5,5,5,5,5,5,5,5,6,6,6,6,6,6,6,6,6,6,6,6,6,6,6,6,6,6,6,6,6,6,6,6,6,6,6,6,6,6,6,6,7,7,7,7,7,7,7,7,7,7,7,7,7,7,7,7,7,7,7,7,7,7,7,7,7,7,7,7,7,7,7,7,7,7,7,7,7,7,7,7,7,7,7,7,7,7,7,7,7,7,7,7,7,7,7,7,7,7,7,7,7,7,7,7,8,8,8,8,8,8,8,8,8,8,8,8,8,8,8,8,8,8,8,8,8,8,8,8,8,8,8,8,8,8,8,8,8,8,8,8,8,8,8,8,8,8,8,8,8,8,8,8,8,8,8,8,8,8,8,8,8,8,8,8,8,8,8,8,8,8,8,8,8,8,8,8,8,8,8,8,8,8,8,8,8,8,8,8,8,8,8,8,8,8,8,8,8,8,8,8,8,8,8,8,8,8,8,8,8,8,8,8,8,8,8,8,8,8,8,8,8,8,8,8,8,8,8,8,8,8,8,8]) (IntKind.u8.wrap i) λk=>K (ο.wrap (j+(ο.wrap k))) w)
 (cond (decide (c>=256)) (0<=(8:Int)/\
 h (jE .u64 c 8) (ο.wrap (g+8))) (h c g)))
 (cond (decide (b>=65536)) (0<=(16:Int)/\
 f (jE .u64 b 16) (ο.wrap (e+16))) (f b e)))
 (cond (decide (a>=4294967296)) (0<=(32:Int)/\
 d (jE .u64 a 32) 32) (d a 0))):=χ Tryz.func306
theorem Uz {a0 f0 f1 w K}:gB (VT a0 f0 f1 w K)
 (fM w f0 λe=>iH (S:=Int×Unit) (λa b f=>(cond (decide (a.1>=0)) (fM b f1 λg=>0<=(ο.wrap (8 * a.1))/\
 jy υ [.one .bool] a0 [(Value.int .u8 (IntKind.u8.wrap (jE .i64 g (ο.wrap (8 * a.1)))))] b λh c=>∃d:Bool,h=(Value.bool d)/\
 (cond (!d) (K c) (f ((ο.wrap (a.1 - 1)),()) c))) (K b))) ((ο.wrap (e - 1)),()) w):=χ Tryz.func307 (fQ (.blk (.loop [(4,ν)] .leaf)))
theorem Qd {b c d e f w K}:gB (gW b c d e f w K)
 (Ε w [Δ b,Β c,Β d] 394 λh g=>Ld .slice g h λi=>yZ i e f g λj l k=>K j k):=χ Tryz.func308
theorem Qa {h b i e w K}:gB (vH h b i e w K)
 (Ε w am3 417 λc j=>kM h 1 b (ο.wrap (b+e)) λk=>g_ k j λf l=>ou ⟨none,0,0⟩ i e l λg m=>h_ [Β b,Δ f,Δ g] m c 0 λd=>fM d (c.add 0) λn=>Ld .slice d (c.add 1) λo=>Ld .slice d (c.add 2) λp=>K n o p d):=χ Tryz.func309
theorem WL {f g h w K}:gB (wL f g h w K)
 (g_ f w λi p=>iH (S:=fU×fU×Int×Unit) (λb d q=>(cond (decide (b.2.2.1<(h.len:Int))) (iE h 3 b.2.2.1 λj=>fM d (j.add 0) λr=>Ld .slice d (j.add 1) λk=>Ld .slice d (j.add 2) λl=>Ε d am3 417 λc s=>h_ [Β r,Δ k,Δ l] s c 0 λm=>fM m.drew c λt=>kM i 1 t (i.len:Int) λu=>Ld .slice m.drew (c.add 2) λv=>AQ 1 u v m.drew λH n=>Ld .slice n.drew (c.add 1) λx=>Ld .slice n.drew (c.add 2) λe=>mG 5 1 1 [(Value.int .u8 0)] b.1 x n.drew λy o=>o.cell? (c.add 2)=some (Δ e)/\
 mG 5 1 1 [(Value.int .u8 0)] b.2.1 e o λz A=>q (y,z,(ο.wrap (b.2.2.1+1)),()) A) (yZ f g 2 d λB I C=>FX B b.1 b.2.1 C λD E=>zi i g D 2 E λF J G=>K F G))) (⟨none,0,0⟩,⟨none,0,0⟩,0,()) p):=χ Tryz.func310 (fQ (fQ (fQ (.seq (fQ (.blk (.loop [(8,.slice),(9,.slice),(18,ν)] .leaf))) .leaf))))
theorem Ho {f g h i j k l m n o p q r w K}:gB (sJ f g h i j k l m n o p q r w K)
 (Ε w (nV f g h i j k l m n o p q r) 294 λc b=>Al b (.map #[] 0) λR t=>oK υ 3 (some b.heap.size) (Β 17) (Β 6) t λu=>oK υ 3 (some b.heap.size) (Β 6) (Β 16) u λv=>oK υ 3 (some b.heap.size) (Β 1) (Β 2) v λa=>fM a ((c.add 1).add 4) λx=>pY υ 3 ν (some b.heap.size) (Β x) (Β 0) a λd=>let e:Bool->b_:=λy s=>((cond y (K (-1) s) (K d s)))
 Ld .slice a ((c.add 1).add 10) λz=>(cond (decide ((ο.wrap (d+2))>(z.len:Int))) (e true a) (fM a ((c.add 1).add 4) λA=>(cond (A==17) (uf a c λB C D E F G H I J L M N O=>jO B C D E F G H I J L M N O d a λP Q=>e (P==0) Q) (e false a))))):=χ Tryz.func311
theorem Ze {c d a b w K}:gB (sF c d a b w K)
 (Ε w [Β c,Β d] 149 λe f=>iI (Β a)=true/\
 Ε f [Β a] 3 λg h=>iI (Β b)=true/\
 Ε h [Β b] 3 λi j=>K (Value.func (.func 324) #[] #[(Value.pointer (some g)),(Value.pointer (some e)),(Value.pointer (some i))]) j):=χ Tryz.func312
theorem OI {d e f g w K}:gB (gG d e f g w K)
 (Ε w [Β d,Β e] 149 λh n=>Ε n [Β f,Β g] 149 λi o=>Ε o amS 149 λb a=>fM a h λj=>fM a i λk=>fM a (h.add 1) λl=>fM a (i.add 1) λm=>h_ [Β (if k>j then k else j),Β (if m<l then m else l)] a b 0 λc=>fM c (b.add 0) λp=>fM c (b.add 1) λq=>K p q c):=χ Tryz.func313
theorem WB {d w K}:gB (kP d w K)
 (Ε w amS 149 λa e=>(cond (decide (d<1024)) (h_ [Β 0,Β 1023] e a 0 λb=>fM b (a.add 0) λf=>fM b (a.add 1) λg=>K f g b) (h_ [Β 1024,Β 65535] e a 0 λc=>fM c (a.add 0) λh=>fM c (a.add 1) λi=>K h i c))):=χ Tryz.func314
theorem WC {d w K}:gB (iL d w K)
 (Ε w amS 149 λa e=>(cond (decide (d<1024)) (kP 1024 e λf g h=>h_ [Β f,Β g] h a 0 λb=>fM b (a.add 0) λi=>fM b (a.add 1) λj=>K i j b) (kP 0 e λk l m=>h_ [Β k,Β l] m a 0 λc=>fM c (a.add 0) λn=>fM c (a.add 1) λo=>K n o c))):=χ Tryz.func315
theorem WA {b c d w K}:gB (tq b c d w K)
 (Ε w [Β b,Β c] 149 λe a=>fM a e λf=>fM a e λg=>K (ο.wrap (f+(lu .i64 (VG .i64 g d) 1))) a):=χ Tryz.func316
theorem Xc {c h d w K}:gB (FX c h d w K)
 (let i:Bool->Prop:=λm=>((cond m (K 0 w) (Ε w [Δ d] 46 λn o=>Dj ⟨(some n),1,1⟩ o λp q=>Ε q [Β 0] 3 λe r=>St r e (Β (ο.wrap ((ο.wrap (65535 - c))+p))) λs=>Fe h s λt b=>xk υ none [.one ν,.one ν] t b (λf u g v=>g.heap[f]? =g.heap[f]? /\
 fM (gu g f) e λx=>St (gu g f) e (Β (ο.wrap (x+(ο.wrap (65535 - u.2.1))))) λy=>v .normal y)
 (λj=>fM j e λz=>FY z j λA k=>Η k b/\
 K (ο.wrap (65535 - A)) (jB k b))
 (λl=>Η l b/\
 K 0 (jB l b))
 [])))
 (cond (decide (c<0)) (i true) (i (decide (c>65535))))):=χ Tryz.func323 (fQ (fQ (fQ (.seq (fQ (.blk (.rng [.one ν,.one ν] .leaf .leaf))) .leaf))))
theorem UO {d e f g w K}:gB (VU d e f g w K)
 (fM w e λi=>iH (S:=Int×Unit) (λa b j=>fM b (f.add 1) λk=>(cond (decide (a.1<=k)) (jy υ [.one .bool] d [(Β a.1)] b λl c=>∃h:Bool,l=(Value.bool h)/\
 (cond (!h) (K c) (fM c g λm=>j ((ο.wrap (a.1+m)),()) c))) (K b))) (i,()) w):=χ Tryz.func324 (fQ (.blk (.loop [(5,ν)] .leaf)))
end Go.Proofs
