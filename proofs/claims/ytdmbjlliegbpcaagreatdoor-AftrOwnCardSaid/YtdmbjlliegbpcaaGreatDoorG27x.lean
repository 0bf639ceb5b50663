import Derived.Test.YtdmbjlliegbpcaaGreatDoorG27
set_option maxRecDepth 100000
set_option maxHeartbeats 4000000
namespace Go.Proofs
open Gp
theorem Js {d i j k l m n o p f w K}:gI (kW d i j k l m n o p f w K)
 (Ε w [Β i,.bool j,Β k,.bool l,Β m,Β n,Β o] 265 λb g=>Pt d λq=>fM g.drew (q.add 41) λc=>Pt d λs=>uS g.drew (s.add 5) λt u v x y z A B C D E F G H I J L M N O P Q R S T U V W X Y Z aa ab ac ad ae=>BQ t u v x y z A B C D E F G H I J L M N O P Q R S T U V W X Y Z aa ab ac ad ae p f g.drew λe a=>a.cell? (q.add 41)=some (Β c)/\
 let r:b_:=λh=>(Pt d λaf=>Ld .ptr h.drew (af.add 4) λag=>fM h.drew (b.add 2) λah=>qC ag ah (if (1099511627776:Int)<(ο.wrap (c+e)) then 1099511627776 else (ο.wrap (c+e))) h.drew λ _ ai=>K ai)
 Ld .bool a (b.add 3) λaj=>(cond aj (Pt d λak=>Ld .ptr a.drew (ak.add 3) λal=>fM a.drew (b.add 2) λam=>sS al am f (if (1099511627776:Int)<(ο.wrap (c+e)) then 1099511627776 else (ο.wrap (c+e))) a.drew λ _ an=>r an) (Pt d λao=>Ld .ptr a.drew (ao.add 3) λap=>fM a.drew b λaq=>fM a.drew ((b.add 5).add 0) λar=>fM a.drew ((b.add 5).add 1) λau=>sN ap aq f (if (1099511627776:Int)<(ο.wrap (c+e)) then 1099511627776 else (ο.wrap (c+e))) ar au a.drew λav _ aw=>St aw (b.add 2) (Β av) λax=>r ax))):=χ Tryz.func138
theorem SI {f g w K}:gI (nI f g w K)
 (Ε w ac4 58 λa h=>BP f g h λi b=>(cond (!i) (iw ac4 b a 0 λc=>fM c (a.add 0) λj=>fM c (a.add 1) λk=>fM c (a.add 2) λl=>fM c (a.add 3) λm=>fM c (a.add 4) λn=>fM c (a.add 5) λo=>fM c (a.add 6) λp=>Ld .bool c (a.add 7) λq=>K j k l m n o p q false c) (Pt f λr=>Ld .slice b r λs=>iM s 9 g λe=>fM b (e.add 0) λt=>fM b (e.add 1) λu=>fM b (e.add 2) λv=>fM b (e.add 3) λx=>fM b (e.add 4) λy=>fM b (e.add 5) λz=>fM b (e.add 6) λA=>Ld .bool b (e.add 7) λB=>iw [Β t,Β u,Β v,Β x,Β y,Β z,Β A,.bool B] b a 0 λd=>fM d (a.add 0) λC=>fM d (a.add 1) λD=>fM d (a.add 2) λE=>fM d (a.add 3) λF=>fM d (a.add 4) λG=>fM d (a.add 5) λH=>fM d (a.add 6) λI=>Ld .bool d (a.add 7) λJ=>K C D E F G H I J true d))):=χ Tryz.func139
theorem U1 {b c d e f g h i j k l m n w K}:gI (Em b c d e f g h i j k l m n w K)
 (Ε w (gu b c d e f g h i j k l) 43 λo r=>Ε r ξ 43 λp a=>ig a o λs t u v x y z A B C D=>fM a (o.add 6) λE=>xw s t u v x y z A B C D m E n (-1) a λF G H I J L M N O P Q R S=>iw (gu F G H I J L M N O P Q) S p 0 λq=>ig q p λT U V W X Y Z aa ab ac ad=>K T U V W X Y Z aa ab ac ad R q):=χ Tryz.func140
theorem oO {b i w K}:gI (jA b i w K)
 (iL (Δ b)=true/\
 Ε w [Δ b] 23 λf c=>yI υ none [.one (.int .u8)] i c (λd k e l=>e.heap[d]? =e.heap[d]? /\
 Ld .slice (gG e d) f λm=>Al (gG e d) (.cells ⟨[.int .u8 k.1]⟩ 5) λn o=>lK 5 1 1 [(Value.int .u8 0)] m ⟨(some n),1,1⟩ o λg p=>St p f (Δ g) λq=>l .normal q)
 (λh=>Ld .slice h f λr=>Η h c/\
 K r (Ζ h c))
 (λj=>Η j c/\
 K ⟨none,0,0⟩ (Ζ j c))
 []):=χ Tryz.func144 (fQ (.seq (fQ (.blk (.rng [.one (.int .u8)] .leaf .leaf))) .leaf))
theorem XC {a b w K}:gI (A_ a b w K)
 (iL (Β a)=true/\
 Ε w [Β a] 3 λc d=>iL (Β b)=true/\
 Ε d [Β b] 3 λe f=>K (Value.func (.func 251) #[] #[(Value.pointer (some e)),(Value.pointer (some c))]) f):=χ Tryz.func145
theorem tZ {a b w K}:gI (lM a b w K)
 ((cond (decide (b<0)) False (let c:fU->b_:=λd e=>(K d e)
 (cond (decide ((ο.wrap (b - (ο.wrap ((a.cap:Int) - (a.len:Int)))))>0)) (kT a 1 0 (a.cap:Int) λf=>QE 5 1 1 [(Value.int .u8 0)] f (ο.wrap (b - (ο.wrap ((a.cap:Int) - (a.len:Int))))) w λg h=>kT g 1 0 (a.len:Int) λi=>c i h) (c a w))))):=χ Tryz.func146
theorem ZB {b w K}:gI (EC b w K)
 (iW (S:=Int×Unit) (λa c d=>(cond (decide (a.1>65535)) (0<=(16:Int)/\
 d ((ο.wrap ((kF .i64 a.1 65535)+(jH .i64 a.1 16))),()) c) (K a.1 c))) ((if (0:Int)>b then 0 else b),()) w):=χ Tryz.func147 (fQ (fQ (.seq (.blk (.loop [(0,ν)] .leaf)) .leaf)))
theorem XR {f w K}:gI (Bl f w K)
 (Ε w [Β 0] 3 λb h=>St h b (Β 0) λi=>iW (S:=(Int×Unit)×List Nat) (λa c j=>(cond (decide (a.1.1<(f.len:Int))) (iM f 1 a.1.1 λk=>Ld .slice c k λl=>Ea l c λm g=>yI υ none [.one ν,.one ν] m g (λd n e o=>e.heap[d]? =e.heap[d]? /\
 fM (gG e d) b λp=>St (gG e d) b (Β (ο.wrap (p+n.2.1))) λq=>o .normal q)
 (λr=>j (((ο.wrap (a.1.1+1)),()),(g.heap.size::a.2)) r)
 (λs=>yj (g.heap.size::a.2) s λt=>K 0 t)
 []) (fM c b λu=>yj a.2 c λv=>K u v))) ((0,()),[]) i):=χ Tryz.func148 (fQ (fQ (.seq (fQ (.blk (.loop [(10,ν)] (fQ (fQ (.seq (.blk (fQ (fQ (.blk (.rng [.one ν,.one ν] .leaf .leaf))))) .leaf)))))) .leaf)))
theorem yE {a b w K}:gI (qB a b w K)
 (tN a b w λc d=>K (decide (c>=0)) d):=χ Tryz.func149
theorem Zj {a w K}:gI (Eb a w K)
 (let b:Bool->Prop:=λc=>(K c w)
 (cond (decide (a>=1)) (b (decide (a<=4))) (b false))):=χ Tryz.func150
theorem aay {a b c d e f g h i j k w K}:gI (Dn a b c d e f g h i j k w K)
 (Ε w (gu a b c d e f g h i j k) 43 λm l=>Ld .slice l (m.add 9) λn=>K (ο.wrap (20+(n.len:Int))) l):=χ Tryz.func151
theorem Aw {a w K}:gI (kJ a w K)
 (let b:Bool->Prop:=λc=>(K c w)
 (cond (!(Option.isNone a)) (Pt a λd=>Ld .map w (d.add 3) λe=>b (!(Option.isNone e))) (b false))):=χ Tryz.func152
theorem EO {i m n o p q r s t u v x y z A g w K}:gI (qg i m n o p q r s t u v x y z A g w K)
 (Ε w (gu m n o p q r s t u v x) 43 λh H=>Ε H [Β y,Β z,Β A,Δ g] 142 λe I=>Ε I ξ 43 λc B=>Ld .slice B (e.add 3) λJ=>tK J B λL M N O P Q R S T U V W X Y Z aa=>Ε aa ξ 43 λC ab=>Ε ab abH 261 λj ac=>iw (gu L M N O P Q R S T U V) ac C 0 λad=>iw [Β W,Β X,Β Y] ad j 0 λd=>(cond (Z !=0) (iw ξ d c 0 λD=>ig D c λae af ag ah ai aj ak al am an ao=>K 0 ae af ag ah ai aj ak al am an ao 1 D) (Pt i λap=>Ld .ptr d.drew (ap.add 2) λaq=>fM d.drew j λar=>fM d.drew (C.add 5) λau=>fM d.drew (j.add 1) λav=>oq aq ar au av d.drew λaw ax k=>(cond (!ax) (iw ξ k c 0 λE=>ig E c λay az aA aB aC aD aE aF aG aH aI=>K 0 ay az aA aB aC aD aE aF aG aH aI 9 E) (Pt i λaJ=>Ld .ptr k (aJ.add 2) λaK=>nI aK aw k λaL aM aN aO aP aQ aR aS _ aT=>Ε aT ac4 58 λf aU=>iw [Β aL,Β aM,Β aN,Β aO,Β aP,Β aQ,Β aR,.bool aS] aU f 0 λb=>ig b h λaV aW aX aY aZ a1 a2 a3 a4 a6 a8=>fM b (e.add 0) λba=>fM b (e.add 1) λbb=>fM b (e.add 2) λbc=>Ld .slice b (e.add 3) λbd=>fM b (f.add 2) λbe=>fM b (f.add 3) λbf=>Bg aV aW aX aY aZ a1 a2 a3 a4 a6 a8 ba bb bc bd true be bf b λbg bh bi bj bk bl bm bn bo bp bq br=>iw (gu bg bh bi bj bk bl bm bn bo bp bq) br h 0 λF=>fM F (f.add 2) λbs=>St F (h.add 6) (Β bs) λl=>fM l.drew f λbt=>ig l.drew h λbu bv bw bx bz bA bB bC bD bE bF=>iw (gu bu bv bw bx bz bA bB bC bD bE bF) l.drew c 0 λG=>ig G c λbG bH bI bJ bK bL bM bN bO bP bQ=>K bt bG bH bI bJ bK bL bM bN bO bP bQ 0 G))))):=χ Tryz.func153
theorem Jq {j n o p q r s t w K}:gI (pz j n o p q r s t w K)
 (Ε w [Β n,.bool o,Β p,.bool q,Β r,Β s,Β t] 265 λa A=>Ε A abQ 265 λb c=>Ld .bool c (a.add 1) λB=>(cond (!B) (fM c (a.add 0) λC=>Ld .bool c (a.add 1) λD=>fM c (a.add 2) λE=>Ld .bool c (a.add 3) λF=>fM c (a.add 4) λG=>fM c (a.add 5) λH=>fM c (a.add 6) λI=>iw [Β C,.bool D,Β E,.bool F,Β G,Β H,Β I] c b 0 λd=>fM d (b.add 0) λJ=>Ld .bool d (b.add 1) λL=>fM d (b.add 2) λM=>Ld .bool d (b.add 3) λN=>fM d (b.add 4) λO=>fM d (b.add 5) λP=>fM d (b.add 6) λQ=>K J L M N O P Q d) (Pt j λR=>Ld .ptr c.drew (R.add 3) λS=>fM c.drew a λT=>fM c.drew ((a.add 5).add 0) λU=>fM c.drew ((a.add 5).add 1) λV=>mX S T U V c.drew λW X Y=>St Y (a.add 2) (Β W) λZ=>St Z (a.add 3) (.bool X) λg=>let u:b_:=λe=>(fM e (a.add 0) λaa=>Ld .bool e (a.add 1) λab=>fM e (a.add 2) λac=>Ld .bool e (a.add 3) λad=>fM e (a.add 4) λae=>fM e (a.add 5) λaf=>fM e (a.add 6) λag=>iw [Β aa,.bool ab,Β ac,.bool ad,Β ae,Β af,Β ag] e b 0 λf=>fM f (b.add 0) λah=>Ld .bool f (b.add 1) λai=>fM f (b.add 2) λaj=>Ld .bool f (b.add 3) λak=>fM f (b.add 4) λal=>fM f (b.add 5) λam=>fM f (b.add 6) λan=>K ah ai aj ak al am an f)
 Ld .bool g (a.add 3) λao=>(cond ao (let v:Addr->b_:=λap x=>(fM x (ap.add 1) λaq=>St x (a.add 4) (Β aq) λar=>u ar)
 Pt j λk=>Ld .ptr g.drew (k.add 3) λh=>fM g.drew (a.add 2) λi=>(nV h i g.drew λau av aw ax ay _ az=>Ε az ado 195 λy l=>Ci l a 2 i<|Cs l k 3 (.pointer h)<|iw [Β au,Β av,Β aw,Β ax,Β ay] l y 0 λaA=>v y aA)/\
 (Ε g.drew ado 195 λz m=>Ci m a 2 i<|Cs m k 3 (.pointer h)<|nV h i m λaB aC aD aE aF _ aG=>iw [Β aB,Β aC,Β aD,Β aE,Β aF] aG z 0 λaH=>v z aH)) (u g))))):=χ Tryz.func154
theorem Qg {b e f c w K}:gI (zU b e f c w K)
 (Ε w [Β e,Β f] 193 λd a=>(cond (b==0) (K true a) (cond (b==1) (kE c (Value.func (.func 257) #[] #[(Value.pointer (some d))]) a λg h=>K g h) (cond (b==2) (fM a (d.add 0) λi=>fM a (d.add 1) λj=>kZ c i j a λk l=>K k l) (K false a))))):=χ Tryz.func155
theorem Jt {j k w K}:gI (uG j k w K)
 (Ε w [.slice none 0 0] 293 λf l=>Pt j λo=>Ld .ptr l (o.add 3) λp=>uI p k l λq c=>yI υ none [.one ν,.agg [ν,ν,ν,ν,ν]] q c (λb d m r=>Ε m ado 195 λg s=>iw [Β d.2.1.1,Β d.2.1.2.1,Β d.2.1.2.2.1,Β d.2.1.2.2.2.1,Β d.2.1.2.2.2.2.1] s g 0 λe=>e.heap[b]? =m.heap[b]? /\
 Ld .slice (gG e b) f λt=>fM (gG e b) ((g.add 3).add 0) λu=>fM (gG e b) ((g.add 3).add 1) λv=>Al (gG e b) (.cells ⟨[Β u,Β v]⟩ 193) λx y=>lK 193 2 16 [(Β 0),(Β 0)] t ⟨(some x),1,1⟩ y λh z=>St z f (Δ h) λA=>r .normal A)
 (λi=>Ld .slice i f λB=>Η i c/\
 K B (Ζ i c))
 (λn=>Η n c/\
 K ⟨none,0,0⟩ (Ζ n c))
 []):=χ Tryz.func156 (fQ (fQ (.seq (fQ (.blk (.rng [.one ν,.agg [ν,ν,ν,ν,ν]] .leaf .leaf))) .leaf)))
theorem Hf {e g h i j k l m n o p q r s t u v x y w K}:gI (sK e g h i j k l m n o p q r s t u v x y w K)
 (Ε w [Β g,.bool h,Β i,.bool j,Β k,Β l,Β m] 265 λa A=>Ε A (gu n o p q r s t u v x y) 43 λf b=>fM b (f.add 4) λB=>(cond (B !=6) (K 0 b) (fM b (a.add 0) λC=>Ld .bool b (a.add 1) λD=>fM b (a.add 2) λE=>Ld .bool b (a.add 3) λF=>fM b (a.add 4) λG=>fM b (a.add 5) λH=>fM b (a.add 6) λI=>ig b f λJ L M N O P Q R S T U=>Bf C D E F G H I J L M N O P Q R S T U false b λV W d=>(cond (!W) (K 8 d) (let z:Bool->b_:=λX c=>((cond X (K 6 c) (fM c (a.add 0) λY=>Ld .bool c (a.add 1) λZ=>fM c (a.add 2) λaa=>Ld .bool c (a.add 3) λab=>fM c (a.add 4) λac=>fM c (a.add 5) λad=>fM c (a.add 6) λae=>fM c (f.add 4) λaf=>kW e Y Z aa ab ac ad ae af V c λag=>K 0 ag)))
 Ld .bool d (a.add 3) λah=>(cond (!ah) (mM e d λai aj=>z ai aj) (z false d))))))):=χ Tryz.func157
theorem Zw {b c d e f g h i j k l m n w K}:gI (Ku b c d e f g h i j k l m n w K)
 (Ε w (gu b c d e f g h i j k l) 43 λo r=>Ε r ξ 43 λp a=>ig a o λs t u v x y z A B C D=>fM a (o.add 5) λE=>xw s t u v x y z A B C D E m (-1) n a λF G H I J L M N O P Q R S=>iw (gu F G H I J L M N O P Q) S p 0 λq=>ig q p λT U V W X Y Z aa ab ac ad=>K T U V W X Y Z aa ab ac ad R q):=χ Tryz.func158
theorem Zn {G H I J L M N O P Q R S T U V W X Y Z aa ab ac ad ae af ag ah ai aj ak al am an ao ap aq ar p g w K}:gI (J_ G H I J L M N O P Q R S T U V W X Y Z aa ab ac ad ae af ag ah ai aj ak al am an ao ap aq ar p g w K)
 (Ε w (jc G H I J L M N O P Q R S T U V W X Y Z aa ab ac ad ae af ag ah ai aj ak al am an ao ap aq ar) 79 λe w4=>iL (Β p)=true/\
 Ε w4 [Β p] 3 λq w6=>Ε w6 [.slice none 0 0] 296 λb w8=>Ε w8 [Β 0] 34 λc k=>let r:Bool->b_:=λaG s=>((cond aG (St s b (.slice none 0 0) λaH=>St aH c (Β 1) λt=>Ld .slice t b λaI=>fM t c λaJ=>K aI aJ t) (n_ s e λaK aL aM aN aO aP aQ aR aS aT aU aV aW aX aY aZ a0 a3 a4 a6 a8 ba bb bc bd be bf bg bh bi bj bk bl bm bn bo bp=>Ah aK aL aM aN aO aP aQ aR aS aT aU aV aW aX aY aZ a0 a3 a4 a6 a8 ba bb bc bd be bf bg bh bi bj bk bl bm bn bo bp s λau u=>(cond (au !=0) (St u b (.slice none 0 0) λbq=>St bq c (Β au) λv=>Ld .slice v b λbr=>fM v c λbs=>K br bs v) (n_ u e λbt bu bv bw bx bz bA bB bC bD bE bF bG bH bI bJ bK bL bM bN bO bP bQ bR bS bT bU bV bW bX bY bZ b0 b1 b2 b3 b4=>N8 bt bu bv bw bx bz bA bB bC bD bE bF bG bH bI bJ bK bL bM bN bO bP bQ bR bS bT bU bV bW bX bY bZ b0 b1 b2 b3 b4 u λb5 x=>(cond (decide (b5<=g)) (Ld .slice x (e.add 36) λb6=>gK b6 x λy b7=>St b7 (e.add 36) (Δ y) λav=>n_ av e λb8 b9 ca cb cc cd ce cf cg ch ci cj ck cl cm cn co cp cq cr cs ct cu cv cw cx cy cz cA cB cC cD cE cF cG cH cI=>Ε av (jc b8 b9 ca cb cc cd ce cf cg ch ci cj ck cl cm cn co cp cq cr cs ct cu cv cw cx cy cz cA cB cC cD cE cF cG cH cI) 79 λcJ cK=>St cK b (.slice (some cJ) 1 1) λcL=>St cL c (Β 0) λz=>Ld .slice z b λcM=>fM z c λcN=>K cM cN z) (Ε x [.slice none 0 0] 296 λA aw=>Ld .slice aw (e.add 36) λcO=>Uo cO (ο.wrap ((ο.wrap (g - 40)) - 8)) aw λcP d=>yI υ none [.agg [ν,ν,ν,.bool],.one .slice] cP d (λh i ax ay=>Ε ax afj 152 λf cQ=>iw [Β i.1.1,Β i.1.2.1,Β i.1.2.2.1,.bool i.1.2.2.2.1] cQ f 0 λl=>l.heap[h]? =ax.heap[h]? /\
 fM (gG l h).drew (e.add 2) λcR=>fM (gG l h).drew q λaz=>St (gG l h).drew f (Β cR) λaA=>aA.cell? q=some (Β az)/\
 St aA (f.add 2) (Β az) λj=>fM j (f.add 0) λcS=>fM j (f.add 1) λcT=>fM j (f.add 2) λcU=>Ld .bool j (f.add 3) λcV=>Q7 cS cT cU cV j λcW aB B=>(cond (aB !=0) (St B b (.slice none 0 0) λcX=>St cX c (Β aB) λcY=>ay .ret cY) (n_ B e λcZ c0 c1 c2 c3 c4 c5 c6 c7 c8 c9 da db dc dd de df dg dh di dj dk dl dm dn dp dq dr ds dt du dv dw dx dy dz dA=>Ε B (jc 0 0 0 0 0 0 0 0 0 0 0 0 0 0 0 0 0 0 0 0 0 0 0 0 0 0 0 0 0 0 0 0 0 0 0 0 ⟨none,0,0⟩) 79 λm dB=>iw (jc cZ c0 c1 c2 c3 c4 c5 c6 c7 c8 c9 da db dc dd de df dg dh di dj dk dl dm dn dp dq dr ds dt du dv dw dx dy dz dA) dB m 0 λdC=>lK 5 1 1 [(Value.int .u8 0)] cW i.2.1 dC λC dD=>St dD (m.add 2) (Β 44) λdE=>St dE (m.add 36) (Δ C) λD=>Ld .slice D A λdF=>n_ D m λdG dH dI dJ dK dL dM dN dO dP dQ dR dS dT dU dV dW dX dY dZ d0 d1 d2 d3 d4 d5 d6 d7 d8 d9 ea eb ec ed ee ef eg=>Ε D (jc dG dH dI dJ dK dL dM dN dO dP dQ dR dS dT dU dV dW dX dY dZ d0 d1 d2 d3 d4 d5 d6 d7 d8 d9 ea eb ec ed ee ef eg) 79 λeh ei=>lK 79 37 88 (jc 0 0 0 0 0 0 0 0 0 0 0 0 0 0 0 0 0 0 0 0 0 0 0 0 0 0 0 0 0 0 0 0 0 0 0 0 ⟨none,0,0⟩) dF ⟨(some eh),1,1⟩ ei λE ej=>St ej A (Δ E) λek=>ay .normal ek)))
 (λaC=>Ld .slice aC A λF=>St aC b (Δ F) λel=>St el c (Β 0) λn=>Η n d/\
 Ld .slice (Ζ n d) b λem=>fM (Ζ n d) c λen=>K em en (Ζ n d))
 (λo=>Η o d/\
 Ld .slice (Ζ o d) b λeo=>fM (Ζ o d) c λep=>K eo ep (Ζ o d))
 [])))))))
 (cond (decide (g<1280)) (r true k) (cond (decide (g>65535)) (r true k) (fM k q λeq=>jI eq 4 k λer es=>r (!er) es)))):=χ Tryz.func159 (fQ (fQ (fQ (fQ (fQ (.seq (fQ (.blk (.rng [.agg [ν,ν,ν,.bool],.one .slice] .leaf .leaf))) .leaf))))))
theorem H7 {a w K}:gI (nY a w K)
 (let b:Bool->Prop:=λc=>(K c w)
 (cond (!(Option.isNone a)) (Pt a λd=>Ld .map w (d.add 448) λe=>b (!(Option.isNone e))) (b false))):=χ Tryz.func160
theorem OC {a0 f0 w K}:gI (PZ a0 f0 w K)
 (Ld .ptr w f0 λj=>kP j w λk c=>(cond (!k) (K c) (Ld .ptr c f0 λl=>Pt l λm=>Ld .slice c m λf=>iW (S:=Int×Unit) (λd e n=>(cond (decide (d.1<(f.len:Int))) (iM f 9 d.1 λo=>ai7 e o λp q r s t u v x y=>Ε e (afx 0 0 0 0 0 0 0 false false) 301 λb z=>iw (afx p q r s t u v x y) z b 0 λa=>let g:Bool->b_:=λA h=>((cond A (K h) (n ((ο.wrap (d.1+1)),()) h)))
 Ld .bool a (b.add 8) λB=>(cond B (fM a (b.add 0) λC=>fM a (b.add 1) λD=>fM a (b.add 2) λE=>fM a (b.add 3) λF=>fM a (b.add 4) λG=>fM a (b.add 5) λH=>fM a (b.add 6) λI=>Ld .bool a (b.add 7) λJ=>jy υ [.one .bool] a0 [(Β d.1),(Value.agg ⟨[Β C,Β D,Β E,Β F,Β G,Β H,Β I,.bool J]⟩)] a λL M=>∃i:Bool,L=(Value.bool i)/\
 g (!i) M) (g false a))) (K e))) (0,()) c))):=χ Tryz.func161 (fQ (fQ (.blk (.loop [(13,ν)] .leaf))))
theorem OD {a w K}:gI (kP a w K)
 (let b:Bool->Prop:=λc=>(K c w)
 (cond (!(Option.isNone a)) (Pt a λd=>Ld .ptr w (d.add 1) λe=>b (!(Option.isNone e))) (b false))):=χ Tryz.func162
theorem EW {a0 f0 w K}:gI (Fv a0 f0 w K)
 (Ld .ptr w f0 λk=>ji k w λl e=>(cond (!l) (K e) (Ld .ptr e f0 λm=>Pt m λn=>Ld .slice e n λg=>iW (S:=Int×Unit) (λf a o=>(cond (decide (f.1<(g.len:Int))) (iM g 6 f.1 λd=>fM a (d.add 0) λp=>fM a (d.add 1) λq=>fM a (d.add 2) λr=>fM a (d.add 3) λs=>fM a (d.add 4) λt=>Ld .bool a (d.add 5) λu=>Ε a afp 304 λc v=>iw [Β p,Β q,Β r,Β s,Β t,.bool u] v c 0 λb=>let h:Bool->b_:=λx i=>((cond x (K i) (o ((ο.wrap (f.1+1)),()) i)))
 Ld .bool b (c.add 5) λy=>(cond y (fM b (c.add 0) λz=>fM b (c.add 1) λA=>fM b (c.add 2) λB=>fM b (c.add 3) λC=>fM b (c.add 4) λD=>jy υ [.one .bool] a0 [(Β f.1),(Value.agg ⟨[Β z,Β A,Β B,Β C,Β D]⟩)] b λE F=>∃j:Bool,E=(Value.bool j)/\
 h (!j) F) (h false b))) (K a))) (0,()) e))):=χ Tryz.func163 (fQ (fQ (.blk (.loop [(13,ν)] .leaf))))
theorem EX {a w K}:gI (ji a w K)
 (let b:Bool->Prop:=λc=>(K c w)
 (cond (!(Option.isNone a)) (Pt a λd=>Ld .ptr w (d.add 1) λe=>b (!(Option.isNone e))) (b false))):=χ Tryz.func164
theorem MR {A0 A1 A2 A3 A4 A5 A6 A7 A8 A9 u I J N O R w K}:gI (NV A0 A1 A2 A3 A4 A5 A6 A7 A8 A9 u I J N O R w K)
 (Ε w (iZ A0 A1 A2 A3 A4 A5 A6 A7 A8 A9 u I J N O R) 26 λb a=>nM a b λc d e f g h i j k l m n o p q r=>Ew c d e f g h i j k l m n o p q r a λs t=>K (!s) t):=χ Tryz.func166
theorem ZA {b c d e f g h i j k l m n o p q w K}:gI (Ew b c d e f g h i j k l m n o p q w K)
 (Ε w (iZ b c d e f g h i j k l m n o p q) 26 λr t=>Ε t (iZ 0 0 0 0 0 0 0 0 0 0 0 0 0 0 0 0) 26 λu a=>let s:Bool->Prop:=λv=>(K v a)
 nM a r λx y z A B C D E F G H I J L M N=>nM a u λO P Q R S T U V W X Y Z aa ab ac ad=>(cond (!((x==O) && ((y==P) && ((z==Q) && ((A==R) && ((B==S) && ((C==T) && ((D==U) && ((E==V) && ((F==W) && ((G==X) && ((H==Y) && ((I==Z) && ((J==aa) && ((L==ab) && ((M==ac) && ((N==ad) && true))))))))))))))))) ((0:Int)<=0/\0<(16:Int)/\
 Ld (.int .u8) a (r.add (Int.toNat 0 * 1)) λae=>s (ae !=255)) (s false))):=χ Tryz.func167
theorem MS {a0 w K}:gI (NW a0 w K)
 (qJ a0 w λa b=>K (!a) b):=χ Tryz.func168
theorem MV {A0 A1 A2 A3 A4 A5 A6 f0 w K}:gI (NY A0 A1 A2 A3 A4 A5 A6 f0 w K)
 (Ε w [Β A0,Β A1,Β A2,Β A3,Β A4,Β A5,Β A6] 125 λb a=>uS a f0 λc d e f g h i j k l m n o p q r s t u v x y z A B C D E F G H I J L M N=>fM a (b.add 0) λO=>fM a (b.add 1) λP=>fM a (b.add 2) λQ=>fM a (b.add 3) λR=>fM a (b.add 4) λS=>fM a (b.add 5) λT=>fM a (b.add 6) λU=>BR c d e f g h i j k l m n o p q r s t u v x y z A B C D E F G H I J L M N O P Q R S T U a λV W=>K (!V) W):=χ Tryz.func169
theorem SV {g h i j k l m n o p q r s t u v x y z A B C D E F G H I J L M N O P Q R S T U V W X Y w K}:gI (BR g h i j k l m n o p q r s t u v x y z A B C D E F G H I J L M N O P Q R S T U V W X Y w K)
 (Ε w (jO g h i j k l m n o p q r s t u v x y z A B C D E F G H I J L M N O P Q R) 31 λZ w3=>Ε w3 [Β S,Β T,Β U,Β V,Β W,Β X,Β Y] 125 λa w5=>let J7:Bool->b_:=λj8 w9=>(let ad:Bool->b_:=λai ae=>(let af:Bool->b_:=λaj b=>(let c:Bool->b_:=λak al=>(K ak al)
 (cond j8 (cond ai (cond aj (fM b a λam=>Ld .slice b (Z.add 16) λan=>kG am 0 (ο.wrap ((an.len:Int) - 1)) b λao ap=>c ao ap) (c false b)) (c false b)) (c false b)))
 fM ae (a.add 1) λaq=>zS aq ae λar d=>(cond ar (fM d (a.add 1) λau=>fM d (a.add 4) λav=>af (au==av) d) (af false d)))
 fM w9 (a.add 2) λaw=>qJ aw w9 λax e=>(cond ax (Ld .slice e (Z.add 17) λay=>fM e ((a.add 4).add 1) λaz=>iT ay az e λaA aB=>ad aA aB) (ad false e)))
 fM w5 (a.add 3) λaC=>kG aC 0 65535 w5 λaD f=>(cond aD (fM f ((a.add 4).add 2) λaE=>kG aE 0 65535 f λaF aG=>J7 aF aG) (J7 false f))):=χ Tryz.func170
theorem qR {a b w K}:gI (jM a b w K)
 (ku a b w λc d=>K (decide (c>=0)) d):=χ Tryz.func171
theorem w_ {a b w K}:gI (jT a b w K)
 (mG a b w λc d=>K (decide (c>=0)) d):=χ Tryz.func172
theorem oL {a b w K}:gI (jl a b w K)
 (jE a b w λc d=>K (decide (c>=0)) d):=χ Tryz.func173
theorem wH {b w K}:gI (jL b w K)
 ((cond (Option.isNone b.a) (K ⟨none,0,0⟩ w) (Ε w [] 26 λc d=>lK 26 16 16 (iZ 0 0 0 0 0 0 0 0 0 0 0 0 0 0 0 0) ⟨(some c),0,0⟩ b d λe f=>K e f))):=χ Tryz.func174
theorem Jg {e f g h i j k w K}:gI (zN e f g h i j k w K)
 (Ε w [Β e,Β f,Β g,Β h,Β i,Β j,Β k] 125 λd l=>Ε l aew 54 λa b=>fM b (d.add 0) λm=>fM b (d.add 1) λn=>fM b (d.add 2) λo=>fM b (d.add 3) λp=>iw [Β m,Β n,Β o,Β p] b a 0 λc=>fM c (a.add 0) λq=>fM c (a.add 1) λr=>fM c (a.add 2) λs=>fM c (a.add 3) λt=>K q r s t c):=χ Tryz.func175
theorem Jh {e f g h i j k w K}:gI (zO e f g h i j k w K)
 (Ε w [Β e,Β f,Β g,Β h,Β i,Β j,Β k] 125 λd l=>Ε l abH 56 λa b=>fM b ((d.add 4).add 0) λm=>fM b ((d.add 4).add 1) λn=>fM b ((d.add 4).add 2) λo=>iw [Β m,Β n,Β o] b a 0 λc=>fM c (a.add 0) λp=>fM c (a.add 1) λq=>fM c (a.add 2) λr=>K p q r c):=χ Tryz.func176
theorem DI {j w K}:gI (oW j w K)
 (Ε w [.bool false] 4 λe k=>Al k (.map #[] 0) λ _ n=>Ε n [.map none] 426 λf o=>St o f (.map (some k.heap.size)) λd=>yI υ none [.agg QI] j d (λb a l m=>Ε l (iZ 0 0 0 0 0 0 0 0 0 0 0 0 0 0 0 0) 26 λg p=>iw (iZ a.1.1 a.1.2.1 a.1.2.2.1 a.1.2.2.2.1 a.1.2.2.2.2.1 a.1.2.2.2.2.2.1 a.1.2.2.2.2.2.2.1 a.1.2.2.2.2.2.2.2.1 a.1.2.2.2.2.2.2.2.2.1 a.1.2.2.2.2.2.2.2.2.2.1 a.1.2.2.2.2.2.2.2.2.2.2.1 a.1.2.2.2.2.2.2.2.2.2.2.2.1 a.1.2.2.2.2.2.2.2.2.2.2.2.2.1 a.1.2.2.2.2.2.2.2.2.2.2.2.2.2.1 a.1.2.2.2.2.2.2.2.2.2.2.2.2.2.2.1 a.1.2.2.2.2.2.2.2.2.2.2.2.2.2.2.2.1) p g 0 λc=>c.heap[b]? =l.heap[b]? /\
 Ld .map (gG c b) f λq=>nM (gG c b) g λr s t u v x y z A B C D E F G H=>qG υ 26 .bool q (Value.agg ⟨iZ r s t u v x y z A B C D E F G H⟩) (Value.bool false) (gG c b) λI=>(cond I (St (gG c b) e (Value.bool true) λJ=>m .ret J) (Ld .map (gG c b) f λL=>nM (gG c b) g λM N O P Q R S T U V W X Y Z aa ab=>og υ 26 L (Value.agg ⟨iZ M N O P Q R S T U V W X Y Z aa ab⟩) (Value.bool true) (gG c b) λac=>m .normal ac)))
 (λad=>St ad e (.bool false) λh=>Η h d/\
 Ld .bool (Ζ h d) e λae=>K ae (Ζ h d))
 (λi=>Η i d/\
 Ld .bool (Ζ i d) e λaf=>K af (Ζ i d))
 []):=χ Tryz.func177 (fQ (fQ (.seq (fQ (.blk (.rng [.agg QI] .leaf .leaf))) .leaf)))
theorem wY {b c w K}:gI (lH b c w K)
 (iL (Δ b)=true/\
 Ε w [Δ b] 27 λd e=>iL c=true/\
 Ε e [c] 317 λf g=>K (Value.func (.func 267) #[] #[(Value.pointer (some d)),(Value.pointer (some f))]) g):=χ Tryz.func178
theorem CS {a b c d e f g h i j k l m n o p w K}:gI (uT a b c d e f g h i j k l m n o p w K)
 (Ε w (iZ a b c d e f g h i j k l m n o p) 26 λt u=>Ε u (iZ 0 0 0 0 0 0 0 0 0 0 0 0 0 0 0 0) 26 λq r=>nM r t λv x y z A B C D E F G H I J L M=>iw (iZ v x y z A B C D E F G H I J L M) r q 0 λs=>nM s q λN O P Q R S T U V W X Y Z aa ab ac=>K N O P Q R S T U V W X Y Z aa ab ac s):=χ Tryz.func179
theorem Jj {h w K}:gI (uz h w K)
 (Ε w [.bool false] 4 λd i=>Al i (.map #[] 0) λ _ l=>Ε l [.map none] 427 λe m=>St m e (.map (some i.heap.size)) λa=>yI υ none [.one ν] h a (λb j c k=>c.heap[b]? =c.heap[b]? /\
 Ld .map (gG c b) e λn=>qG υ 3 .bool n (Β j.1) (Value.bool false) (gG c b) λo=>(cond o (St (gG c b) d (Value.bool true) λp=>k .ret p) (Ld .map (gG c b) e λq=>og υ 3 q (Β j.1) (Value.bool true) (gG c b) λr=>k .normal r)))
 (λs=>St s d (.bool false) λf=>Η f a/\
 Ld .bool (Ζ f a) d λt=>K t (Ζ f a))
 (λg=>Η g a/\
 Ld .bool (Ζ g a) d λu=>K u (Ζ g a))
 []):=χ Tryz.func180 (fQ (fQ (.seq (fQ (.blk (.rng [.one ν] .leaf .leaf))) .leaf)))
theorem EL {b c w K}:gI (qc b c w K)
 (iL (Δ b)=true/\
 Ε w [Δ b] 28 λd e=>iL c=true/\
 Ε e [c] 233 λf g=>K (Value.func (.func 268) #[] #[(Value.pointer (some d)),(Value.pointer (some f))]) g):=χ Tryz.func181
theorem G7 {a0 w K}:gI (I5 a0 w K)
 (K a0 w):=χ Tryz.func182
theorem AU {j w K}:gI (nJ j w K)
 (Ε w [.bool false] 4 λe k=>Al k (.map #[] 0) λ _ n=>Ε n [.map none] 428 λg o=>St o g (.map (some k.heap.size)) λd=>yI υ none [.agg [ν,ν,ν,ν]] j d (λa f l m=>Ε l aew 54 λc p=>iw [Β f.1.1,Β f.1.2.1,Β f.1.2.2.1,Β f.1.2.2.2.1] p c 0 λb=>b.heap[a]? =l.heap[a]? /\
 Ld .map (gG b a) g λq=>fM (gG b a) (c.add 0) λr=>fM (gG b a) (c.add 1) λs=>fM (gG b a) (c.add 2) λt=>fM (gG b a) (c.add 3) λu=>qG υ 54 .bool q (Value.agg ⟨[Β r,Β s,Β t,Β u]⟩) (Value.bool false) (gG b a) λv=>(cond v (St (gG b a) e (Value.bool true) λx=>m .ret x) (Ld .map (gG b a) g λy=>fM (gG b a) (c.add 0) λz=>fM (gG b a) (c.add 1) λA=>fM (gG b a) (c.add 2) λB=>fM (gG b a) (c.add 3) λC=>og υ 54 y (Value.agg ⟨[Β z,Β A,Β B,Β C]⟩) (Value.bool true) (gG b a) λD=>m .normal D)))
 (λE=>St E e (.bool false) λh=>Η h d/\
 Ld .bool (Ζ h d) e λF=>K F (Ζ h d))
 (λi=>Η i d/\
 Ld .bool (Ζ i d) e λG=>K G (Ζ i d))
 []):=χ Tryz.func183 (fQ (fQ (.seq (fQ (.blk (.rng [.agg [ν,ν,ν,ν]] .leaf .leaf))) .leaf)))
theorem tX {b c w K}:gI (jZ b c w K)
 (iL (Δ b)=true/\
 Ε w [Δ b] 29 λd e=>iL c=true/\
 Ε e [c] 311 λf g=>K (Value.func (.func 269) #[] #[(Value.pointer (some d)),(Value.pointer (some f))]) g):=χ Tryz.func184
theorem AV {j w K}:gI (nK j w K)
 (Ε w [.bool false] 4 λe k=>Al k (.map #[] 0) λ _ n=>Ε n [.map none] 205 λf o=>St o f (.map (some k.heap.size)) λc=>yI υ none [.agg [ν,ν,ν]] j c (λa g l m=>Ε l abH 56 λd p=>iw [Β g.1.1,Β g.1.2.1,Β g.1.2.2.1] p d 0 λb=>b.heap[a]? =l.heap[a]? /\
 Ld .map (gG b a) f λq=>fM (gG b a) (d.add 0) λr=>fM (gG b a) (d.add 1) λs=>fM (gG b a) (d.add 2) λt=>qG υ 56 .bool q (Value.agg ⟨[Β r,Β s,Β t]⟩) (Value.bool false) (gG b a) λu=>(cond u (St (gG b a) e (Value.bool true) λv=>m .ret v) (Ld .map (gG b a) f λx=>fM (gG b a) (d.add 0) λy=>fM (gG b a) (d.add 1) λz=>fM (gG b a) (d.add 2) λA=>og υ 56 x (Value.agg ⟨[Β y,Β z,Β A]⟩) (Value.bool true) (gG b a) λB=>m .normal B)))
 (λC=>St C e (.bool false) λh=>Η h c/\
 Ld .bool (Ζ h c) e λD=>K D (Ζ h c))
 (λi=>Η i c/\
 Ld .bool (Ζ i c) e λE=>K E (Ζ i c))
 []):=χ Tryz.func185 (fQ (fQ (.seq (fQ (.blk (.rng [.agg [ν,ν,ν]] .leaf .leaf))) .leaf)))
theorem tY {b c w K}:gI (j_ b c w K)
 (iL (Δ b)=true/\
 Ε w [Δ b] 29 λd e=>iL c=true/\
 Ε e [c] 312 λf g=>K (Value.func (.func 270) #[] #[(Value.pointer (some d)),(Value.pointer (some f))]) g):=χ Tryz.func186
theorem Ji {a0 f0 w K}:gI (J3 a0 f0 w K)
 (fM w (f0.add 20) λa=>K (decide (a0>a)) w):=χ Tryz.func187
theorem PG {f b w K}:gI (QZ f b w K)
 (iW (S:=Int×Unit) (λc a i=>(cond (decide (c.1<(b.len:Int))) (iM b 2 c.1 λg=>fM a (g.add 0) λj=>fM a (g.add 1) λk=>Ε a aaG 332 λd l=>iw [Β j,Β k] l d 0 λe=>fM e (d.add 0) λm=>fM e (d.add 1) λn=>wQ m n f e λo h=>(cond o (K true h) (i ((ο.wrap (c.1+1)),()) h))) (K false a))) (0,()) w):=χ Tryz.func188 (fQ (.seq (fQ (.blk (.loop [(9,ν)] .leaf))) .leaf))
theorem uX {c d w K}:gI (lZ c d w K)
 (iW (S:=Int×Unit) (λa b e=>(cond (decide (a.1<(c.len:Int))) (iM c 1 a.1 λf=>fM b f λg=>(cond (d==g) (K a.1 b) (e ((ο.wrap (a.1+1)),()) b))) (K (-1) b))) (0,()) w):=χ Tryz.func189 (fQ (.seq (fQ (.blk (.loop [(8,ν)] .leaf))) .leaf))
theorem XF {a w K}:gI (Bc a w K)
 (let b:Bool->Prop:=λc=>(K c w)
 (cond (decide (a>=0)) (b (decide (a<=65535))) (b false))):=χ Tryz.func190
theorem M_ {a c w K}:gI (oz a c w K)
 (oZ a w λe d=>(cond (!e) (K 0 false d) (jS a c d λf g b=>(cond (!g) (K 0 false b) (Pt a λh=>Ld .slice b h λi=>iM i 3 f λj=>fM b (j.add 1) λk=>K k true b))))):=χ Tryz.func191
theorem OE {c d e f w K}:gI (ug c d e f w K)
 (Ε w [Β c,Β d,Β e,Β f] 54 λb a=>fM a b λg=>fM a (b.add 1) λh=>fM a (b.add 2) λi=>fM a (b.add 3) λj=>Ε a [Β g,Β h,Β i,Β j] 3 λk l=>Ec ⟨(some k),4,4⟩ l λm n=>K m n):=χ Tryz.func192
theorem OG {c d e w K}:gI (uh c d e w K)
 (Ε w [Β c,Β d,Β e] 56 λb a=>fM a b λf=>fM a (b.add 1) λg=>fM a (b.add 2) λh=>Ε a [Β f,Β g,Β h] 3 λi j=>Ec ⟨(some i),3,3⟩ j λk l=>K k l):=χ Tryz.func193
theorem Np {b c w K}:gI (rD b c w K)
 (let d:Bool->Prop:=λf=>((cond f (K none 2 w) (let e:Bool->Prop:=λg=>((cond g (K none 1 w) (Pt b λh=>Ld .slice w h λi=>iM i 2 c λj=>K (some j) 0 w)))
 (cond (decide (c<0)) (e true) (Pt b λk=>Ld .slice w k λl=>e (decide (c>=(l.len:Int))))))))
 (cond (Option.isNone b) (d true) (Pt b λm=>Ld .slice w m λn=>d (Option.isNone n.a)))):=χ Tryz.func194
theorem SK {a w K}:gI (BO a w K)
 (kP a w λc b=>(cond (!c) (K 0 b) (Pt a λd=>fM b (d.add 3) λe=>K e b))):=χ Tryz.func195
theorem Jw {b c w K}:gI (uH b c w K)
 (Ε w [Β b,Β c] 212 λd a=>fM a d λe=>fM a (d.add 1) λf=>K (decide (e>=f)) a):=χ Tryz.func196
theorem JK {a w K}:gI (rC a w K)
 (let b:Bool->Prop:=λc=>((cond c (K true w) (K false w)))
 (cond (a==1) (b (a==1)) (cond (a==6) (b (a==6)) (b (a==17))))):=χ Tryz.func197
theorem P_ {c w K}:gI (zK c w K)
 (Pt c λd=>Ld .slice w d λe=>iW (S:=Int×Unit) (λb a f=>(cond (decide (b.1<(e.len:Int))) (Pt c λg=>Ld .slice a g λh=>iM h 9 b.1 λi=>Ld .bool a (i.add 8) λj=>(cond (!j) (K b.1 true a) (f ((ο.wrap (b.1+1)),()) a))) (K 0 false a))) (0,()) w):=χ Tryz.func198 (fQ (.seq (fQ (.blk (.loop [(10,ν)] .leaf))) .leaf))
theorem Na {a c d w K}:gI (oC a c d w K)
 (oZ a w λh e=>(cond (!h) (K 2 e) (jS a c e λi j b=>(cond j (Pt a λk=>Ld .slice b k λl=>iM l 3 i λm=>St b (m.add 1) (Β d) λn=>K 0 n) (Pt a λo=>fM b.drew (o.add 1) λp=>Pt a λq=>fM b.drew (q.add 2) λr=>(cond (decide (p>=r)) (K 7 b.drew) (vJ a b.drew λs=>jS a c s λt _ f=>Pt a λu=>Ld .slice f u λv=>iM v 3 t λx=>iw [.string c,Β d,.bool true] f x 0 λg=>Pt a λy=>fM g (y.add 1) λz=>Pt a λA=>St g (A.add 1) (Β (ο.wrap (z+1))) λB=>K 0 B))))))):=χ Tryz.func199
theorem XM {b w K}:gI (Bj b w K)
 (iW (S:=Int×Int×Unit) (λa c d=>(cond (decide (a.2.1<b)) (d ((ο.wrap (a.1 * 256)),(ο.wrap (a.2.1+1)),()) c) (K a.1 c))) (1,0,()) w):=χ Tryz.func200 (fQ (fQ (.seq (fQ (.blk (.loop [(3,ν),(4,ν)] .leaf))) .leaf)))
theorem U7 {a b w K}:gI (Es a b w K)
 ((cond (decide ((ο.wrap (b+1))<(a.len:Int))) (iM a 1 b λc=>Ld (.int .u8) w.drew c λd=>iM a 1 (ο.wrap (b+1)) λe=>Ld (.int .u8) w.drew e λf=>K (ο.wrap ((ο.wrap ((ο.wrap d) * 256))+(ο.wrap f))) w.drew) (iM a 1 b λg=>Ld (.int .u8) w g λh=>K (ο.wrap ((ο.wrap h) * 256)) w))):=χ Tryz.func201
theorem U8 {b w K}:gI (Et b w K)
 ((cond (decide (b<0)) (K 0 w) (iW (S:=Int×Unit) (λa c d=>(cond (decide (a.1>65535)) ((65536:Int)≠0/\
 (65536:Int)≠0/\
 d ((ο.wrap ((Int.tmod a.1 65536)+(ο.wrap (Int.tdiv a.1 65536)))),()) c) (K a.1 c))) (b,()) w))):=χ Tryz.func202 (fQ (fQ (.seq (.blk (.loop [(0,ν)] .leaf)) .leaf)))
theorem XD {c a b w K}:gI (Ba c a b w K)
 (let e:Bool->b_:=λh d=>((cond h (K ⟨none,0,0⟩ 1 d) (let f:Bool->Prop:=λi=>((cond i (K ⟨none,0,0⟩ 3 d) (QK c 1 a (ο.wrap (a+b)) (ο.wrap (a+b)) λj=>K j 0 d)))
 (cond (decide ((c.len:Int)<b)) (f true) (f (decide (a>(ο.wrap ((c.len:Int) - b)))))))))
 Eb b w λk g=>(cond (!k) (e true g) (e (decide (a<0)) g))):=χ Tryz.func203
theorem X0 {f w K}:gI (Gn f w K)
 (Ε w ξ 43 λc j=>Ir f true j λe k l g m=>Ε m acC 94 λd n=>iw [Δ e,Β k,Β l] n d 0 λb=>(cond (g !=0) (iw ξ b c 0 λh=>ig h c λo p q r s t u v x y z=>K o p q r s t u v x y z g h) (Ld .slice b (d.add 0) λA=>fM b (d.add 1) λB=>fM b (d.add 2) λC=>pK A B C b λD E F G H I J L M N O P=>iw (gu D E F G H I J L M N O) P c 0 λi=>ig i c λQ R S T U V W X Y Z aa=>K Q R S T U V W X Y Z aa 0 i))):=χ Tryz.func207
theorem UK {g h i d w K}:gI (yJ g h i d w K)
 (Ε w [Β g,Β h,Β i,Δ d] 142 λb c=>fM c (b.add 0) λm=>fM c (b.add 1) λn=>fM c (b.add 2) λo=>Ld .slice c (b.add 3) λp=>Ee m n o p c λj e=>(cond (j !=0) (K ⟨none,0,0⟩ j e) (fM e b λq=>fM e (b.add 1) λr=>Ε e [.int .u8 (IntKind.u8.wrap q),.int .u8 (IntKind.u8.wrap r),.int .u8 0,.int .u8 0] 5 λs k=>fM k (b.add 2) λt=>lG ⟨(some s),4,4⟩ t 4 k λu l=>Ld .slice l (b.add 3) λv=>lK 5 1 1 [(Value.int .u8 0)] u v l λf x=>Ε x [Δ f] 23 λy z=>Dl ⟨(some y),1,1⟩ z λA B=>vH f 2 A 2 B λC D E=>K C D E))):=χ Tryz.func210
theorem X3 {x y z A B C D E F G H w K}:gI (Gq x y z A B C D E F G H w K)
 (Ε w (gu x y z A B C D E F G H) 43 λa b=>ig b.drew a λU V W X Y Z aa ab ac ad ae=>fM b.drew a λf=>ig b.drew a λI J L M N O P Q R S T=>fM b.drew (a.add 1) λg=>ig b.drew a λl m n o p q r s t u v=>fM b.drew (a.add 3) λh=>fM b.drew (a.add 4) λi=>fM b.drew (a.add 5) λj=>fM b.drew (a.add 6) λk=>Dn U V W X Y Z aa ab ac ad ae b.drew λaf c=>Ci c a 6 k<|Ci c a 5 j<|Ci c a 4 i<|Ci c a 3 h<|u_ (gu l m n o p q r s t u v) c a 0 (
 Ci c a 1 g<|u_ (gu I J L M N O P Q R S T) c a 0 (
 Cw c a (Β f)<|(4:Int)≠0/\
 Dp I J L M N O P Q R S T c λag d=>Ci d a 6 k<|Ci d a 5 j<|Ci d a 4 i<|Ci d a 3 h<|u_ (gu l m n o p q r s t u v) d a 0 (
 Ci d a 1 g<|Cw d a (Β f)<|Ky l m n o p q r s t u v d λah e=>Ci e a 6 k<|Ci e a 5 j<|Ci e a 4 i<|Ci e a 3 h<|Ci e a 1 g<|Cw e a (Β f)<|Ε e (ahp (Ql .i64 64 (ο.wrap (Int.tdiv af 4))) 1 f 1 ag 2 g 2 ah 2 h 1 i 1 0 2 j 4 k 4) 369 λai aj=>K ⟨(some ai),10,10⟩ aj)))):=χ Tryz.func222
theorem acI {e f c a w K}:gI (vH e f c a w K)
 (jI c a w λl g=>(cond (!l) (K ⟨none,0,0⟩ 1 g) (gK e g λh m=>Ba h f a m λn i j=>(cond (i !=0) (K ⟨none,0,0⟩ i j) (A_ c a j λo p=>qh o p λk q=>iW (S:=Int×Unit) (λb d r=>(cond (decide (b.1<(k.len:Int))) (iM k 1 b.1 λs=>Ld (.int .u8) d s λt=>iM n 1 b.1 λu=>St d u (.int .u8 t) λv=>r ((ο.wrap (b.1+1)),()) v) (K h 0 d))) (0,()) q))))):=χ Tryz.func223 (fQ (fQ (fQ (fQ (fQ (.seq (fQ (.blk (.loop [(36,ν)] .leaf))) .leaf))))))
theorem acJ {a w K}:gI (Dl a w K)
 (Iq a w λb c=>K (ο.wrap (65535 - b)) c):=χ Tryz.func224
theorem UN {c w K}:gI (yL c w K)
 (Ε w abO 142 λb h=>(cond (decide ((c.len:Int)<8)) (iw abO h b 0 λd=>fM d (b.add 0) λq=>fM d (b.add 1) λr=>fM d (b.add 2) λs=>Ld .slice d (b.add 3) λt=>K q r s t 3 d) (cond (decide ((c.len:Int)>65535)) (iw abO h b 0 λe=>fM e (b.add 0) λu=>fM e (b.add 1) λv=>fM e (b.add 2) λx=>Ld .slice e (b.add 3) λy=>K u v x y 6 e) (Ε h [Δ c] 23 λz A=>uV ⟨(some z),1,1⟩ A λB l=>(cond (!B) (iw abO l b 0 λf=>fM f (b.add 0) λC=>fM f (b.add 1) λD=>fM f (b.add 2) λE=>Ld .slice f (b.add 3) λF=>K C D E F 5 f) (tC c 4 4 l λG _ i=>iM c 1 0 λm=>Ld (.int .u8) i.drew m λn=>iM c 1 1 λo=>Ld (.int .u8) i.drew o λp=>kT c 1 8 (c.len:Int) λH=>gK H i.drew λj k=>k.cell? o=some (.int .u8 p)/\
 k.cell? m=some (.int .u8 n)/\
 iw [Β (ο.wrap n),Β (ο.wrap p),Β G,Δ j] k b 0 λg=>fM g (b.add 0) λI=>fM g (b.add 1) λJ=>fM g (b.add 2) λL=>Ld .slice g (b.add 3) λM=>K I J L M 0 g)))))):=χ Tryz.func225
theorem UM {a w K}:gI (Ef a w K)
 (Ε w [Β 3,Β 4,Β 5,Β 11,Β 12] 3 λb c=>Eh a ⟨(some b),5,5⟩ c λd e=>K d e):=χ Tryz.func226
theorem Tf {k w K}:gI (tK k w K)
 (Ε w ξ 43 λc q=>Ε q abH 261 λa r=>vP k r λs t u v x y z A B C D E F l G=>Ε G (mP ⟨none,0,0⟩ 0 0 0 0 0 0 0 false false ⟨none,0,0⟩ ⟨none,0,0⟩ 0) 443 λi H=>iw (mP s t u v x y z A B C D E F) H i 0 λj=>(cond (l !=0) (iw ξ j c 0 λI=>iw abH I a 0 λe=>ig e c λJ L M N O P Q R S T U=>fM e (a.add 0) λV=>fM e (a.add 1) λW=>fM e (a.add 2) λX=>K J L M N O P Q R S T U V W X l e) (rV j i λY Z aa ab ac ad ae af ag ah ai aj ak=>qM Y Z aa ab ac ad ae af ag ah ai aj ak j λal am an m ao=>Ε ao abH 261 λb ap=>iw [Β al,Β am,Β an] ap b 0 λd=>(cond (m !=0) (iw ξ d c 0 λaq=>iw abH aq a 0 λf=>ig f c λar au av aw ax ay az aA aB aC aD=>fM f (a.add 0) λaE=>fM f (a.add 1) λaF=>fM f (a.add 2) λaG=>K ar au av aw ax ay az aA aB aC aD aE aF aG m f) (ig d.drew (i.add 1) λaH aI aJ aK aL aM aN aO aP aQ aR=>fM d.drew (b.add 0) λn=>fM d.drew (b.add 1) λo=>fM d.drew (b.add 2) λp=>iw (gu aH aI aJ aK aL aM aN aO aP aQ aR) d.drew c 0 λh=>h.cell? (b.add 0)=some (Β n)/\
 h.cell? (b.add 1)=some (Β o)/\
 h.cell? (b.add 2)=some (Β p)/\
 iw [Β n,Β o,Β p] h a 0 λg=>ig g c λaS aT aU aV aW aX aY aZ a1 a2 a4=>fM g (a.add 0) λa6=>fM g (a.add 1) λa7=>fM g (a.add 2) λa8=>K aS aT aU aV aW aX aY aZ a1 a2 a4 a6 a7 a8 0 g))))):=χ Tryz.func227
theorem XH {j k l m n o p q r s t u v x e y z A w K}:gI (Bg j k l m n o p q r s t u v x e y z A w K)
 (Ε w (gu j k l m n o p q r s t) 43 λf F=>Ε F [Β u,Β v,Β x,Δ e] 142 λb G=>Ε G ξ 43 λB c=>fM c (b.add 0) λH=>fM c (b.add 1) λI=>fM c (b.add 2) λJ=>Ld .slice c (b.add 3) λL=>yC H I J L y z A c λM N O g _ P=>iw [Β M,Β N,Β O,Δ g] P b 0 λC=>Ld .slice C (f.add 9) λQ=>gK Q C λh R=>St R (f.add 9) (Δ h) λd=>fM d (b.add 0) λS=>fM d (b.add 1) λT=>fM d (b.add 2) λU=>Ld .slice d (b.add 3) λV=>yJ S T U V d λi _ W=>St W (f.add 10) (Δ i) λD=>ig D f λX Y Z aa ab ac ad ae af ag ah=>iw (gu X Y Z aa ab ac ad ae af ag ah) D B 0 λE=>ig E B λai aj ak al am an ao ap aq ar au=>K ai aj ak al am an ao ap aq ar au E):=χ Tryz.func228
theorem Qi {o p q r s t u v x y z w K}:gI (qL o p q r s t u v x y z w K)
 (Ε w (gu o p q r s t u v x y z) 43 λc A=>ig A c λI J L M N O P Q R S T=>qO I J L M N O P Q R S T A λB h=>(cond (B !=0) (K Value.nilIface B h) (ig h c λU V W X Y Z aa ab ac ad ae=>Ag U V W X Y Z aa ab ac ad ae h λaf b=>(cond (!af) (K Value.nilIface 4 b) (fM b (c.add 4) λi=>(cond (i==17) (fM b (c.add 5) λag=>fM b (c.add 6) λah=>Ld .slice b (c.add 10) λai=>Gm ag ah ai b λaj ak al j am an=>Ε an adl 76 λe ao=>iw [Β aj,Β ak,.bool al,Δ j] ao e 0 λf=>fM f (e.add 0) λap=>fM f (e.add 1) λaq=>Ld .bool f (e.add 2) λar=>Ld .slice f (e.add 3) λk=>K (Value.iface 451 (Value.agg ⟨[Β ap,Β aq,.bool ar,Δ k]⟩)) am f) (cond (i==6) (fM b (c.add 5) λau=>fM b (c.add 6) λav=>Ld .slice b (c.add 10) λaw=>Gi au av aw b λax ay az aA aB aC aD aE aF aG aH aI=>Ε aI (kY 0 0 0 0 0 0 0 0 ⟨none,0,0⟩ ⟨none,0,0⟩) 401 λC aJ=>iw (kY ax ay az aA aB aC aD aE aF aG) aJ C 0 λD=>zJ D C λaK aL aM aN aO aP aQ aR aS aT=>K (Value.iface 453 (Value.agg ⟨kY aK aL aM aN aO aP aQ aR aS aT⟩)) aH D) (cond (i==1) (Ld .slice b (c.add 10) λaU=>yL aU b λaV aW aX l E aY=>Ε aY abO 142 λd aZ=>iw [Β aV,Β aW,Β aX,Δ l] aZ d 0 λm=>let F:Int->b_:=λa0 g=>(fM g (d.add 0) λa1=>fM g (d.add 1) λa2=>fM g (d.add 2) λa4=>Ld .slice g (d.add 3) λn=>K (Value.iface 455 (Value.agg ⟨[Β a1,Β a2,Β a4,Δ n]⟩)) a0 g)
 let G:Bool->b_:=λa5 H=>((cond a5 (F 8 H) (F E H)))
 (cond (E==0) (fM m d λa6=>yM a6 m λa7 a8=>G (!a7) a8) (G false m))) (K Value.nilIface 8 b))))))))):=χ Tryz.func229
theorem XG {b c d e f g h i j k l m n o p q r s t w K}:gI (Bf b c d e f g h i j k l m n o p q r s t w K)
 (Ε w [Β b,.bool c,Β d,.bool e,Β f,Β g,Β h] 265 λu z=>Ε z (gu i j k l m n o p q r s) 43 λv a=>fM a (v.add 4) λA=>(cond (A !=6) (K 0 true a) (fM a.drew (u.add 4) λx=>ig a.drew v λB C D E F G H I J L M=>BX B C D E F G H I J L M a.drew λN y=>y.cell? (u.add 4)=some (Β x)/\
 Ey x t N y λO P Q=>K O P Q))):=χ Tryz.func230
theorem Qh {d e f g h i j k l m n w K}:gI (z_ d e f g h i j k l m n w K)
 (Ε w (gu d e f g h i j k l m n) 43 λb a=>let c:Bool->Prop:=λo=>(K o a)
 fM a (b.add 4) λp=>(cond (p==1) (Ld .slice a (b.add 10) λq=>(cond (decide ((q.len:Int)>0)) (Ld .slice a (b.add 10) λr=>iM r 1 0 λs=>Ld (.int .u8) a s λt=>c (t==0)) (c false))) (c false))):=χ Tryz.func231
theorem EM {a w K}:gI (mM a w K)
 (Pt a λe=>Ld .ptr w.drew (e.add 3) λf=>Pt a λb=>fM w.drew ((b.add 5).add 22) λc=>sQ f w.drew λg d=>d.cell? ((b.add 5).add 22)=some (Β c)/\
 K (decide (g>=c)) d):=χ Tryz.func232
theorem Jp {c p q r s w K}:gI (uF c p q r s w K)
 (Ε w [Β p,Β q,Β r,Β s] 54 λa g=>Pt c λz=>Ld .ptr g.drew (z.add 1) λA=>fM g.drew a λB=>Pt c λt=>fM g.drew ((t.add 5).add 20) λu=>nS A B g.drew λC m=>Ci m (t.add 5) 20 u<|(cond (decide (C>=u)) (K 0 (Value.iface 271 (Β 5)) m) (pF c m λD d=>(cond D (K 0 (Value.iface 271 (Β 6)) d) (let v:Addr->Int->b_:=λn E h=>((cond (E !=0) (K 0 (Value.iface 271 (Β 7)) h) (Pt c λF=>Ld .ptr h.drew (F.add 1) λG=>fM h.drew a λH=>pI G H h.drew λ _ b=>Pt c λI=>Ld .ptr b.drew (I.add 2) λJ=>fM b.drew (a.add 0) λL=>fM b.drew (a.add 1) λM=>fM b.drew (a.add 2) λN=>fM b.drew (a.add 3) λO=>fM b.drew (n.add 0) λP=>fM b.drew (n.add 1) λQ=>fM b.drew (n.add 2) λR=>xu J L M N O P Q R false b.drew λS _ T=>K S Value.nilIface T)))
 Pt c λo=>Ld .ptr d.drew o λi=>fM d.drew (a.add 1) λj=>fM d.drew (a.add 3) λk=>fM d.drew a λl=>(qX i j k l d.drew λU V W X Y=>Ε Y abH 56 λx e=>Cw e a (Β l)<|Ci e a 3 k<|Ci e a 1 j<|Cw e o (.pointer i)<|iw [Β U,Β V,Β W] e x 0 λZ=>v x X Z)/\
 (Ε d.drew abH 56 λy f=>Cw f a (Β l)<|Ci f a 3 k<|Ci f a 1 j<|Cw f o (.pointer i)<|qX i j k l f λaa ab ac ad ae=>iw [Β aa,Β ab,Β ac] ae y 0 λaf=>v y ad af)))))):=χ Tryz.func233
theorem SQ {d e f g h i j k l m n o p q r s t u v x y z A B C D E F G H I J L M N O b P w K}:gI (BQ d e f g h i j k l m n o p q r s t u v x y z A B C D E F G H I J L M N O b P w K)
 (Ε w (jO d e f g h i j k l m n o p q r s t u v x y z A B C D E F G H I J L M N O) 31 λc a=>(cond (b==17) (fM a (c.add 30) λQ=>K Q a) (cond (b==1) (fM a (c.add 33) λR=>K R a) (cond (b==6) (cond (P==3) (fM a (c.add 31) λS=>K S a) (fM a (c.add 32) λT=>K T a)) (K 0 a))))):=χ Tryz.func238
theorem HY {a b d e w K}:gI (sS a b d e w K)
 (nX a b w λg c=>(cond (!g) (K false c) (Pt a λh=>Ld .slice c h λi=>iM i 6 b λf=>Pt (some f) λj=>St c (j.add 1) (Β d) λk=>Pt (some f) λl=>St k (l.add 2) (Β e) λm=>K true m))):=χ Tryz.func239
theorem Hu {c q r s t u w K}:gI (sN c q r s t u w K)
 (Ε w [Β q,Β r,Β s,Β t,Β u] 195 λb B=>ji c B λC f=>(cond (!C) (K 0 2 f) (fM f b λD=>fM f ((b.add 3).add 0) λE=>fM f ((b.add 3).add 1) λF=>mX c D E F f λ _ G i=>(cond G (K 0 9 i) (Pt c λH=>Ld .slice i H λI=>jk I (Value.func (.func 304) #[] #[]) i λe d=>(cond (decide (e<0)) (K 0 7 d) (Pt c λJ=>Ld .slice d.drew J λL=>fM d.drew (b.add 0) λM=>fM d.drew (b.add 1) λN=>fM d.drew (b.add 2) λO=>fM d.drew (b.add 3) λP=>fM d.drew (b.add 4) λQ=>iM L 6 e λR=>iw [Β M,Β N,Β O,Β P,Β Q,.bool true] d.drew R 0 λg=>Pt c λv=>Ld .ptr g.drew (v.add 1) λx=>fM g.drew b λS=>fM g.drew ((b.add 3).add 0) λT=>fM g.drew ((b.add 3).add 1) λU=>xC S T U g.drew λV y=>Cs y v 1 (.pointer x)<|oC x V e y λ _ h=>Pt c λW=>Ld .map h.drew (W.add 2) λX=>fM h.drew b λY=>qG υ 3 .slice X (Β Y) (Value.slice none 0 0) h.drew λz=>lI z e h.drew λZ _ j=>Pt c λk=>Ld .map j.drew (k.add 2) λl=>fM j.drew b λm=>Ε j.drew [Β e] 3 λaa n=>Cw n b (Β m)<|Cs n k 2 (.map l)<|oH z Z ⟨(some aa),1,1⟩ n λo p=>Cw p b (Β m)<|Cs p k 2 (.map l)<|og υ 3 l (Β m) (Δ o) p λA=>Pt c λab=>fM A (ab.add 3) λac=>Pt c λad=>St A (ad.add 3) (Β (ο.wrap (ac+1))) λae=>K e 0 ae))))))):=χ Tryz.func240
theorem Le {a b d w K}:gI (qC a b d w K)
 (nY a w λB g=>(cond (!B) (K 2 g) (let i:Bool->Prop:=λC=>((cond C (K 1 g) (Pt a λD=>Ld .map g (D.add 448) λE=>Ik υ 3 E (Β b) (Value.agg ⟨abH⟩) g λF o=>∃p:Int,∃q:Int,∃r:Int,F=(Value.agg ⟨[Β p,Β q,Β r]⟩)/\
 Ε g abH 480 λj G=>iw [Β p,Β q,Β r] G j 0 λe=>let s:Bool->b_:=λH f=>((cond H (K 7 f) (let t:b_:=λu=>(Pt a λI=>fM u (I.add 450) λJ=>Pt a λL=>St u (L.add 450) (Β (ο.wrap (J+1))) λl=>Pt a λv=>fM l.drew (v.add 449) λm=>Pt a λx=>fM l.drew (x.add 450) λy=>Ε l.drew abH 480 λc n=>Ci n x 450 y<|Ci n v 449 m<|iw [Β b,Β (if m>d then m else d),Β y] n c 0 λh=>Pt a λM=>Ld .map h.drew (M.add 448) λN=>fM h.drew (c.add 0) λO=>fM h.drew (c.add 1) λP=>fM h.drew (c.add 2) λQ=>og υ 3 N (Β b) (Value.agg ⟨[Β O,Β P,Β Q]⟩) h.drew λk=>fM k (c.add 0) λR=>fM k (c.add 1) λS=>fM k (c.add 2) λT=>vU a R S T k λU=>K 0 U)
 (cond o (fM f (j.add 0) λV=>fM f (j.add 1) λW=>fM f (j.add 2) λX=>uK a V W X f λY=>t Y) (t f)))))
 (cond (!o) (Pt a λZ=>Ld .map e.drew (Z.add 448) λaa=>Pt a λz=>fM e.drew (z.add 451) λA=>NP e.drew aa λab=>Ci e.drew z 451 A<|s (decide (ab>=A)) e.drew) (s false e.drew)))))
 (cond (decide (b<0)) (i (decide (b<0))) (cond (decide (b>2147483648)) (i (decide (b>2147483648))) (cond (decide (d<0)) (i (decide (d<0))) (i (decide (d>1099511627776))))))))):=χ Tryz.func241
theorem SL {b c w K}:gI (BP b c w K)
 (let d:Bool->b_:=λe f=>(K e f)
 kP b w λg a=>(cond g (cond (decide (c>=0)) (Pt b λh=>Ld .slice a h λi=>(cond (decide (c<(i.len:Int))) (Pt b λj=>Ld .slice a j λk=>iM k 9 c λl=>Ld .bool a (l.add 8) λm=>d m a) (d false a))) (d false a)) (d false a))):=χ Tryz.func242
theorem Td {n o p q r s t u v x y z A B C w K}:gI (xw n o p q r s t u v x y z A B C w K)
 (Ε w (gu n o p q r s t u v x y) 43 λb S=>Ε S [Β z,Β A] 399 λd T=>Ε T [Β B,Β C] 399 λg U=>Ε U ξ 43 λc D=>ig D b λV W X Y Z aa ab ac ad ae af=>qL V W X Y Z aa ab ac ad ae af D λag E e=>(cond (E !=0) (iw ξ e c 0 λF=>ig F c λah ai aj ak al am an ao ap aq ar=>K ah ai aj ak al am an ao ap aq ar E F) ((0:Int)<=0/\0<(2:Int)/\
 fM e (g.add (Int.toNat 0 * 1)) λG=>(0:Int)<=1/\1<(2:Int)/\
 fM e (g.add (Int.toNat 1 * 1)) λH=>let i:Bool->b_:=λau h=>((cond au (iw ξ h c 0 λI=>ig I c λav aw ax ay az aA aB aC aD aE aF=>K av aw ax ay az aA aB aC aD aE aF 1 I) ((0:Int)<=0/\0<(2:Int)/\
 fM h.drew (d.add (Int.toNat 0 * 1)) λaG=>(0:Int)<=1/\1<(2:Int)/\
 fM h.drew (d.add (Int.toNat 1 * 1)) λJ=>St h.drew (b.add 5) (Β aG) λL=>L.cell? (d.add (Int.toNat 1 * 1))=some (Β J)/\
 St L (b.add 6) (Β J) λM=>Ld .slice M (b.add 9) λaH=>gK aH M λj aI=>St aI (b.add 9) (Δ j) λf=>(0:Int)<=0/\0<(2:Int)/\
 fM f.drew (g.add (Int.toNat 0 * 1)) λaJ=>(0:Int)<=1/\1<(2:Int)/\
 fM f.drew (g.add (Int.toNat 1 * 1)) λaK=>fM f.drew (b.add 5) λN=>fM f.drew (b.add 6) λO=>JR υ ag "goosepond/ports.with" [(Β aJ),(Β aK)] [.one .any] f.drew λaL k=>k.cell? (b.add 6)=some (Β O)/\
 k.cell? (b.add 5)=some (Β N)/\
 JR υ aL "goosepond/ports.build" [(Β N),(Β O)] [.one .slice,.one ν] k λl aM aN=>St aN (b.add 10) (Δ l) λP=>ig P b λaO aP aQ aR aS aT aU aV aW aX aY=>iw (gu aO aP aQ aR aS aT aU aV aW aX aY) P c 0 λQ=>ig Q c λaZ a0 a1 a2 a3 a4 a6 a8 ba bb bc=>K aZ a0 a1 a2 a3 a4 a6 a8 ba bb bc aM Q)))
 (0:Int)<=0/\0<(2:Int)/\
 fM e (d.add (Int.toNat 0 * 1)) λbd=>lF bd e λbe m=>(cond (!be) (i true m) ((0:Int)<=1/\1<(2:Int)/\
 fM m (d.add (Int.toNat 1 * 1)) λbf=>lF bf m λbg R=>(cond (!bg) (i true R) (jI (if H>G then H else G) 2 R λbh bi=>i (!bh) bi))))))):=χ Tryz.func243
theorem XV {y z g w K}:gI (Gi y z g w K)
 (iL (Δ g)=true/\
 Ε w [Δ g] 23 λb R=>Ε R (kY 0 0 0 0 0 0 0 0 ⟨none,0,0⟩ ⟨none,0,0⟩) 401 λc d=>Ld .slice d b λS=>(cond (decide ((S.len:Int)<20)) (iw (kY 0 0 0 0 0 0 0 0 ⟨none,0,0⟩ ⟨none,0,0⟩) d c 0 λA=>zJ A c λT U V W X Y Z aa ab ac=>K T U V W X Y Z aa ab ac 3 A) (Ld .slice d b λad=>iM ad 1 12 λae=>Ld (.int .u8) d ae λn=>0<=(4:Int)/\
 (cond (decide ((ο.wrap ((ο.wrap (jH .u8 n 4)) * 4))<20)) (iw (kY 0 0 0 0 0 0 0 0 ⟨none,0,0⟩ ⟨none,0,0⟩) d c 0 λB=>zJ B c λaf ag ah ai aj ak al am an ao=>K af ag ah ai aj ak al am an ao 4 B) (Ld .slice d b λap=>(cond (decide ((ο.wrap ((ο.wrap (jH .u8 n 4)) * 4))>(ap.len:Int))) (iw (kY 0 0 0 0 0 0 0 0 ⟨none,0,0⟩ ⟨none,0,0⟩) d c 0 λC=>zJ C c λaq ar au av aw ax ay az aA aB=>K aq ar au av aw ax ay az aA aB 3 C) (Ld .slice d b λaC=>(cond (decide ((aC.len:Int)>65535)) (iw (kY 0 0 0 0 0 0 0 0 ⟨none,0,0⟩ ⟨none,0,0⟩) d c 0 λD=>zJ D c λaD aE aF aG aH aI aJ aK aL aM=>K aD aE aF aG aH aI aJ aK aL aM 6 D) (Ld .slice d.drew b λaN=>Ld .slice d.drew b λi=>rE y z 6 (aN.len:Int) d.drew λq E=>Cw E b (Δ i)<|Ε E [Δ q,Δ i] 23 λaO aP=>uV ⟨(some aO),2,2⟩ aP λaQ F=>(cond (!aQ) (iw (kY 0 0 0 0 0 0 0 0 ⟨none,0,0⟩ ⟨none,0,0⟩) F c 0 λG=>zJ G c λaR aS aT aU aV aW aX aY aZ a3=>K aR aS aT aU aV aW aX aY aZ a3 5 G) (jy υ [.one ν] (Value.func (.func 311) #[] #[(Value.pointer (some b))]) [(Β 0),(Β 2)] F λa4 a6=>∃H:Int,a4=(Β H)/\
 jy υ [.one ν] (Value.func (.func 311) #[] #[(Value.pointer (some b))]) [(Β 2),(Β 2)] a6 λa8 a9=>∃I:Int,a8=(Β I)/\
 jy υ [.one ν] (Value.func (.func 311) #[] #[(Value.pointer (some b))]) [(Β 4),(Β 4)] a9 λba bb=>∃J:Int,ba=(Β J)/\
 jy υ [.one ν] (Value.func (.func 311) #[] #[(Value.pointer (some b))]) [(Β 8),(Β 4)] bb λbc bd=>∃L:Int,bc=(Β L)/\
 Ε bd (kY 0 0 0 0 0 0 0 0 ⟨none,0,0⟩ ⟨none,0,0⟩) 401 λf be=>iw (kY H I J L 0 0 0 0 ⟨none,0,0⟩ ⟨none,0,0⟩) be f 0 λj=>Ld .slice j.drew b λh=>iM h 1 12 λr=>Ld (.int .u8) j.drew r λs=>Ld .slice j.drew b λe=>iM e 1 13 λo=>Ld (.int .u8) j.drew o λp=>jy υ [.one ν] (Value.func (.func 311) #[] #[(Value.pointer (some b))]) [(Β 14),(Β 2)] j.drew λbf k=>∃M:Int,bf=(Β M)/\
 k.cell? o=some (.int .u8 p)/\
 k.cell? b=some (Δ e)/\
 k.cell? r=some (.int .u8 s)/\
 k.cell? b=some (Δ h)/\
 jy υ [.one ν] (Value.func (.func 311) #[] #[(Value.pointer (some b))]) [(Β 18),(Β 2)] k λbg l=>∃N:Int,bg=(Β N)/\
 l.cell? o=some (.int .u8 p)/\
 l.cell? b=some (Δ e)/\
 l.cell? r=some (.int .u8 s)/\
 l.cell? b=some (Δ h)/\
 St l (f.add 4) (Β (ο.wrap (kF .u8 s 15))) λt=>Cw t o (.int .u8 p)<|Cw t b (Δ e)<|St t (f.add 5) (Β (ο.wrap p)) λbh=>St bh (f.add 6) (Β M) λbi=>St bi (f.add 7) (Β N) λu=>Ld .slice u.drew b λbj=>kT bj 1 20 (ο.wrap ((ο.wrap (jH .u8 n 4)) * 4)) λbk=>Ld .slice u.drew b λm=>kT m 1 (ο.wrap ((ο.wrap (jH .u8 n 4)) * 4)) (m.len:Int) λbl=>gK bk u.drew λv O=>Cw O b (Δ m)<|gK bl O λx bm=>St bm (f.add 8) (Δ v) λbn=>St bn (f.add 9) (Δ x) λP=>zJ P f λbo bp bq br bs bt bu bv bw bx=>iw (kY bo bp bq br bs bt bu bv bw bx) P c 0 λQ=>zJ Q c λbz bA bB bC bD bE bF bG bH bI=>K bz bA bB bC bD bE bF bG bH bI 0 Q))))))))))):=χ Tryz.func244
theorem SE {a0 f0 f1 w K}:gI (Un a0 f0 f1 w K)
 (fM w f0 λe=>iW (S:=Int×Unit) (λa b f=>(cond (decide (a.1>=0)) (fM b f1 λg=>0<=(ο.wrap (8 * a.1))/\
 jy υ [.one .bool] a0 [(Value.int .u8 (IntKind.u8.wrap (jH .i64 g (ο.wrap (8 * a.1)))))] b λh c=>∃d:Bool,h=(Value.bool d)/\
 (cond (!d) (K c) (f ((ο.wrap (a.1 - 1)),()) c))) (K b))) ((ο.wrap (e - 1)),()) w):=χ Tryz.func251 (fQ (.blk (.loop [(4,ν)] .leaf)))
theorem G6 {b w K}:gI (Ea b w K)
 (iL (Δ b)=true/\
 Ε w [Δ b] 23 λc d=>K (Value.func (.func 316) #[] #[(Value.pointer (some c))]) d):=χ Tryz.func252
theorem AY {c d w K}:gI (tN c d w K)
 (iW (S:=Int×Unit) (λa b e=>(cond (decide (a.1<(c.len:Int))) (iM c 1 a.1 λf=>Ld .bool b f λg=>(cond ((d:Bool)==g) (K a.1 b) (e ((ο.wrap (a.1+1)),()) b))) (K (-1) b))) (0,()) w):=χ Tryz.func253 (fQ (.seq (fQ (.blk (.loop [(8,ν)] .leaf))) .leaf))
theorem FP {b c d e w K}:gI (mX b c d e w K)
 (Ε w [Β d,Β e] 193 λf j=>ji b j λk a=>(cond (!k) (K 0 false a) (Pt b λg=>Ld .ptr a.drew (g.add 1) λh=>fM a.drew (f.add 0) λl=>fM a.drew (f.add 1) λm=>xC c l m a.drew λn i=>i.cell? (g.add 1)=some (.pointer h)/\
 oz h n i λo p q=>K o p q))):=χ Tryz.func254
theorem Hy {f g w K}:gI (nV f g w K)
 (Ε w ado 195 λa h=>nX f g h λi b=>(cond (!i) (iw ado b a 0 λc=>fM c (a.add 0) λj=>fM c (a.add 1) λk=>fM c (a.add 2) λl=>fM c (a.add 3) λm=>fM c (a.add 4) λn=>K j k l m n false c) (Pt f λo=>Ld .slice b o λp=>iM p 6 g λe=>fM b (e.add 0) λq=>fM b (e.add 1) λr=>fM b (e.add 2) λs=>fM b (e.add 3) λt=>fM b (e.add 4) λu=>iw [Β q,Β r,Β s,Β t,Β u] b a 0 λd=>fM d (a.add 0) λv=>fM d (a.add 1) λx=>fM d (a.add 2) λy=>fM d (a.add 3) λz=>fM d (a.add 4) λA=>K v x y z A true d))):=χ Tryz.func255
theorem oK {a b w K}:gI (kE a b w K)
 (kU a b w λc d=>K (decide (c>=0)) d):=χ Tryz.func256
theorem MW {A0 A1 f0 w K}:gI (N7 A0 A1 f0 w K)
 (Ε w [Β A0,Β A1] 193 λb a=>fM a b λc=>fM a f0 λd=>K (c==d) a):=χ Tryz.func257
theorem qj {b c d w K}:gI (kZ b c d w K)
 (Ε w [Β c,Β d] 193 λe a=>fM a (e.add 0) λf=>fM a (e.add 1) λg=>lV b f g a λh i=>K (decide (h>=0)) i):=χ Tryz.func258
theorem Jz {a b w K}:gI (uI a b w K)
 (iL (Value.pointer a)=true/\
 Ε w [.pointer a] 108 λc d=>iL (Β b)=true/\
 Ε d [Β b] 3 λe f=>K (Value.func (.func 319) #[] #[(Value.pointer (some c)),(Value.pointer (some e))]) f):=χ Tryz.func259
theorem aaB {a b c d e f g h i j k l m n o p q r s t u v x y z A B C D E F G H I J L M w K}:gI (N8 a b c d e f g h i j k l m n o p q r s t u v x y z A B C D E F G H I J L M w K)
 (Ε w (jc a b c d e f g h i j k l m n o p q r s t u v x y z A B C D E F G H I J L M) 79 λO N=>Ld .slice N (O.add 36) λP=>K (ο.wrap (40+(P.len:Int))) N):=χ Tryz.func260
theorem Qd {a w K}:gI (zS a w K)
 (Ε w [Β 1,Β 6,Β 17] 3 λb c=>iT ⟨(some b),3,3⟩ a c λd e=>K d e):=χ Tryz.func263
theorem t_ {b d w K}:gI (ku b d w K)
 (iW (S:=Int×Unit) (λa c g=>(cond (decide (a.1<(b.len:Int))) (iM b 16 a.1 λh=>nM c h λi j k l m n o p q r s t u v x y=>jy υ [.one .bool] d [(Value.agg ⟨iZ i j k l m n o p q r s t u v x y⟩)] c λz e=>∃f:Bool,z=(Value.bool f)/\
 (cond f (K a.1 e) (g ((ο.wrap (a.1+1)),()) e))) (K (-1) c))) (0,()) w):=χ Tryz.func264 (fQ (.seq (fQ (.blk (.loop [(8,ν)] .leaf))) .leaf))
theorem yZ {b d w K}:gI (mG b d w K)
 (iW (S:=Int×Unit) (λa c g=>(cond (decide (a.1<(b.len:Int))) (iM b 1 a.1 λh=>fM c h λi=>jy υ [.one .bool] d [(Β i)] c λj e=>∃f:Bool,j=(Value.bool f)/\
 (cond f (K a.1 e) (g ((ο.wrap (a.1+1)),()) e))) (K (-1) c))) (0,()) w):=χ Tryz.func265 (fQ (.seq (fQ (.blk (.loop [(8,ν)] .leaf))) .leaf))
theorem pX {d e w K}:gI (jE d e w K)
 (iW (S:=Int×Unit) (λc a h=>(cond (decide (c.1<(d.len:Int))) (iM d 7 c.1 λb=>fM a (b.add 0) λi=>fM a (b.add 1) λj=>fM a (b.add 2) λk=>fM a (b.add 3) λl=>fM a (b.add 4) λm=>fM a (b.add 5) λn=>fM a (b.add 6) λo=>jy υ [.one .bool] e [(Value.agg ⟨[Β i,Β j,Β k,Β l,Β m,Β n,Β o]⟩)] a λp f=>∃g:Bool,p=(Value.bool g)/\
 (cond g (K c.1 f) (h ((ο.wrap (c.1+1)),()) f))) (K (-1) a))) (0,()) w):=χ Tryz.func266 (fQ (.seq (fQ (.blk (.loop [(8,ν)] .leaf))) .leaf))
theorem wo {a0 f0 f1 w K}:gI (wF a0 f0 f1 w K)
 (Ld .slice w f0 λd=>iW (S:=Int×Unit) (λa b y=>(cond (decide (a.1<(d.len:Int))) (iM d 16 a.1 λz=>nM b z λA B C D E F G H I J L M N O P Q=>Ε b (iZ 0 0 0 0 0 0 0 0 0 0 0 0 0 0 0 0) 26 λe R=>iw (iZ A B C D E F G H I J L M N O P Q) R e 0 λc=>Ld .any c f1 λT=>nM c e λU V W X Y Z aa ab ac ad ae af ag ah ai aj=>jy υ [.agg QI] T [(Value.agg ⟨iZ U V W X Y Z aa ab ac ad ae af ag ah ai aj⟩)] c λak al=>∃f:Int,∃g:Int,∃h:Int,∃i:Int,∃j:Int,∃k:Int,∃l:Int,∃m:Int,∃n:Int,∃o:Int,∃p:Int,∃q:Int,∃r:Int,∃s:Int,∃t:Int,∃u:Int,ak=(Value.agg ⟨iZ f g h i j k l m n o p q r s t u⟩)/\
 jy υ [.one .bool] a0 [(Value.agg ⟨iZ f g h i j k l m n o p q r s t u⟩)] al λam v=>∃x:Bool,am=(Value.bool x)/\
 (cond (!x) (K v) (y ((ο.wrap (a.1+1)),()) v))) (K b))) (0,()) w):=χ Tryz.func267 (fQ (.blk (.loop [(8,ν)] .leaf)))
theorem CQ {a0 f0 f1 w K}:gI (Di a0 f0 f1 w K)
 (Ld .slice w f0 λc=>iW (S:=Int×Unit) (λb a g=>(cond (decide (b.1<(c.len:Int))) (iM c 1 b.1 λh=>fM a h λi=>Ld .any a f1 λj=>jy υ [.one ν] j [(Β i)] a λk l=>∃d:Int,k=(Β d)/\
 jy υ [.one .bool] a0 [(Β d)] l λm e=>∃f:Bool,m=(Value.bool f)/\
 (cond (!f) (K e) (g ((ο.wrap (b.1+1)),()) e))) (K a))) (0,()) w):=χ Tryz.func268 (fQ (.blk (.loop [(8,ν)] .leaf)))
theorem rJ {a0 f0 f1 w K}:gI (sF a0 f0 f1 w K)
 (Ld .slice w f0 λf=>iW (S:=Int×Unit) (λe a m=>(cond (decide (e.1<(f.len:Int))) (iM f 7 e.1 λd=>fM a (d.add 0) λn=>fM a (d.add 1) λo=>fM a (d.add 2) λp=>fM a (d.add 3) λq=>fM a (d.add 4) λr=>fM a (d.add 5) λs=>fM a (d.add 6) λt=>Ε a aej 125 λc u=>iw [Β n,Β o,Β p,Β q,Β r,Β s,Β t] u c 0 λb=>Ld .any b f1 λv=>fM b (c.add 0) λx=>fM b (c.add 1) λy=>fM b (c.add 2) λz=>fM b (c.add 3) λA=>fM b (c.add 4) λB=>fM b (c.add 5) λC=>fM b (c.add 6) λD=>jy υ [.agg [ν,ν,ν,ν]] v [(Value.agg ⟨[Β x,Β y,Β z,Β A,Β B,Β C,Β D]⟩)] b λE F=>∃g:Int,∃h:Int,∃i:Int,∃j:Int,E=(Value.agg ⟨[Β g,Β h,Β i,Β j]⟩)/\
 jy υ [.one .bool] a0 [(Value.agg ⟨[Β g,Β h,Β i,Β j]⟩)] F λG k=>∃l:Bool,G=(Value.bool l)/\
 (cond (!l) (K k) (m ((ο.wrap (e.1+1)),()) k))) (K a))) (0,()) w):=χ Tryz.func269 (fQ (.blk (.loop [(8,ν)] .leaf)))
theorem rM {a0 f0 f1 w K}:gI (sG a0 f0 f1 w K)
 (Ld .slice w f0 λf=>iW (S:=Int×Unit) (λe a l=>(cond (decide (e.1<(f.len:Int))) (iM f 7 e.1 λd=>fM a (d.add 0) λm=>fM a (d.add 1) λn=>fM a (d.add 2) λo=>fM a (d.add 3) λp=>fM a (d.add 4) λq=>fM a (d.add 5) λr=>fM a (d.add 6) λs=>Ε a aej 125 λc t=>iw [Β m,Β n,Β o,Β p,Β q,Β r,Β s] t c 0 λb=>Ld .any b f1 λu=>fM b (c.add 0) λv=>fM b (c.add 1) λx=>fM b (c.add 2) λy=>fM b (c.add 3) λz=>fM b (c.add 4) λA=>fM b (c.add 5) λB=>fM b (c.add 6) λC=>jy υ [.agg [ν,ν,ν]] u [(Value.agg ⟨[Β v,Β x,Β y,Β z,Β A,Β B,Β C]⟩)] b λD E=>∃g:Int,∃h:Int,∃i:Int,D=(Value.agg ⟨[Β g,Β h,Β i]⟩)/\
 jy υ [.one .bool] a0 [(Value.agg ⟨[Β g,Β h,Β i]⟩)] E λF j=>∃k:Bool,F=(Value.bool k)/\
 (cond (!k) (K j) (l ((ο.wrap (e.1+1)),()) j))) (K a))) (0,()) w):=χ Tryz.func270 (fQ (.blk (.loop [(8,ν)] .leaf)))
theorem MZ {d e b w K}:gI (wQ d e b w K)
 (Ε w [Β d,Β e] 332 λf g=>fM g (f.add 1) λa=>let h:Bool->b_:=λi j=>(K i j)
 lF b g.drew λk c=>(cond k (0<=(ο.wrap (32 - a))/\
 fM c f λl=>0<=(ο.wrap (32 - a))/\
 h ((jH .i64 b (ο.wrap (32 - a)))==(jH .i64 l (ο.wrap (32 - a)))) c) (h false c))):=χ Tryz.func271
theorem Jk {a w K}:gI (oZ a w K)
 (let b:Bool->Prop:=λc=>(K c w)
 (cond (!(Option.isNone a)) (Pt a λd=>Ld .bool w (d.add 3) λe=>b e) (b false))):=χ Tryz.func272
theorem Au {k l w K}:gI (jS k l w K)
 (iL (Value.pointer k)=true/\
 Ε w [.pointer k] 213 λh u=>iL (Value.string l)=true/\
 Ε u [.string l] 9 λr v=>Ε v [Β 0] 3 λe x=>Ε x [.bool false] 4 λf b=>Ld .ptr b h λy=>Pt y λz=>Ld .slice b z λA=>(cond ((A.len:Int)==0) (St b e (Β 0) λB=>St B f (.bool false) λm=>fM m e λC=>Ld .bool m f λD=>K C D m) (Ld .ptr b.drew h λs=>Ld .str b.drew r λE=>Ld .ptr b.drew h λF=>Pt F λG=>Ld .slice b.drew G λH=>F5 E (H.len:Int) b.drew λI t=>t.cell? h=some (.pointer s)/\
 vK s I t λJ a=>yI υ none [.one ν] J a (λc n d o=>d.heap[c]? =d.heap[c]? /\
 Ld .ptr (gG d c) h λL=>Pt L λM=>Ld .slice (gG d c) M λN=>iM N 3 n.1 λp=>Ld .str (gG d c) (p.add 0) λO=>fM (gG d c) (p.add 1) λP=>Ld .bool (gG d c) (p.add 2) λQ=>Al (gG d c) (.cells ⟨[.string (bs []),Β 0,.bool false]⟩ 433) λq R=>iw [.string O,Β P,.bool Q] R q 0 λg=>Ld .bool g (q.add 2) λS=>(cond (!S) (St g e (Β n.1) λT=>St T f (.bool false) λU=>o .ret U) (Ld .str g q λV=>Ld .str g r λW=>(cond (strEq V W) (St g e (Β n.1) λX=>St X f (.bool true) λY=>o .ret Y) (o .normal g)))))
 (λZ=>St Z e (Β 0) λaa=>St aa f (.bool false) λi=>Η i a/\
 fM (Ζ i a) e λab=>Ld .bool (Ζ i a) f λac=>K ab ac (Ζ i a))
 (λj=>Η j a/\
 fM (Ζ j a) e λad=>Ld .bool (Ζ j a) f λae=>K ad ae (Ζ j a))
 []))):=χ Tryz.func273 (fQ (fQ (.seq (fQ (.blk (.rng [.one ν] .leaf .leaf))) .leaf)))
theorem Zl {c w K}:gI (Ec c w K)
 (iW (S:=fU×Int×Unit) (λa b e=>(cond (decide (a.2.1<(c.len:Int))) (iM c 1 a.2.1 λf=>fM b f λd=>0<=(32:Int)/\
 lG a.1 (kF .i64 (jH .i64 d 32) 4294967295) 4 b λg h=>lG g (kF .i64 d 4294967295) 4 h λi j=>e (i,(ο.wrap (a.2.1+1)),()) j) (vC b a.1 λk=>K k b))) (⟨none,0,0⟩,0,()) w):=χ Tryz.func274 (fQ (fQ (.seq (fQ (.blk (.loop [(3,.slice),(8,ν)] .leaf))) .leaf)))
theorem KU {b w K}:gI (vJ b w K)
 (Pt b λl=>fM w.drew (l.add 1) λm=>Pt b λn=>Ld .slice w.drew n λo=>(cond (decide ((ο.wrap (2 * (ο.wrap (m+1))))<=(o.len:Int))) (K w.drew) (Pt b λp=>Ld .slice w.drew p λc=>Wp 433 3 32 [(Value.string (bs [])),(Β 0),(Value.bool false)] (if (ο.wrap (2 * (c.len:Int)))>8 then (ο.wrap (2 * (c.len:Int))) else 8) (if (ο.wrap (2 * (c.len:Int)))>8 then (ο.wrap (2 * (c.len:Int))) else 8) w.drew λh q=>Pt b λr=>St q r (Δ h) λs=>iW (S:=Int×Unit) (λi e t=>(cond (decide (i.1<(c.len:Int))) (let k:b_:=λu=>(t ((ο.wrap (i.1+1)),()) u)
 iM c 3 i.1 λj=>Ld .str e (j.add 0) λv=>fM e (j.add 1) λx=>Ld .bool e (j.add 2) λy=>Ε e [.string (bs []),Β 0,.bool false] 433 λd z=>iw [.string v,Β x,.bool y] z d 0 λg=>Ld .bool g (d.add 2) λA=>(cond A (Ld .str g d λB=>jS b B g λC _ f=>Pt b λD=>Ld .slice f.drew D λE=>Ld .str f.drew (d.add 0) λF=>fM f.drew (d.add 1) λG=>Ld .bool f.drew (d.add 2) λH=>iM E 3 C λI=>iw [.string F,Β G,.bool H] f.drew I 0 λJ=>k J) (k g))) (K e))) (0,()) s))):=χ Tryz.func275 (fQ (fQ (fQ (fQ (.blk (.loop [(33,ν)] .leaf))))))
theorem UL {h i j b w K}:gI (Ee h i j b w K)
 (Ε w [Β h,Β i,Β j,Δ b] 142 λc k=>let e:Bool->b_:=λl d=>((cond l (K 1 d) (Ld .slice d (c.add 3) λm=>(cond (decide ((m.len:Int)>65527)) (K 6 d) (K 0 d)))))
 fM k c λn=>jI n 1 k λo f=>(cond (!o) (e true f) (fM f (c.add 1) λp=>jI p 1 f λq g=>(cond (!q) (e true g) (fM g (c.add 2) λr=>jI r 4 g λs t=>e (!s) t))))):=χ Tryz.func278
theorem ZH {c d e f g h i j k l m w K}:gI (Ky c d e f g h i j k l m w K)
 (Ε w (gu c d e f g h i j k l m) 43 λb a=>fM a (b.add 2) λn=>(8:Int)≠0/\
 let o:Int->Prop:=λp=>(let q:Int->Prop:=λr=>(K r a)
 Ld .bool a (b.add 8) λs=>(cond s (q (Ql .i64 p 8192)) (q p)))
 Ld .bool a (b.add 7) λt=>(cond t (o (Ql .i64 (ο.wrap (Int.tdiv n 8)) 16384)) (o (ο.wrap (Int.tdiv n 8))))):=χ Tryz.func287
theorem EY {a w K}:gI (qh a w K)
 (jA ⟨none,0,0⟩ a w λb c=>K b c):=χ Tryz.func288
theorem Zp {a b w K}:gI (Eh a b w K)
 (iT b a w λc d=>K c d):=χ Tryz.func289
theorem U4 {d w K}:gI (vP d w K)
 (Ε w (mP ⟨none,0,0⟩ 0 0 0 0 0 0 0 false false ⟨none,0,0⟩ ⟨none,0,0⟩ 0) 443 λa v=>Gn d v λx y z A B C D E F G H e I=>Ε I ξ 43 λc J=>iw (gu x y z A B C D E F G H) J c 0 λb=>(cond (e !=0) (iw (mP ⟨none,0,0⟩ 0 0 0 0 0 0 0 false false ⟨none,0,0⟩ ⟨none,0,0⟩ 0) b a 0 λf=>rV f a λL M N O P Q R S T U V W X=>K L M N O P Q R S T U V W X e f) (fM b (c.add 2) λY=>(cond (decide (Y>0)) (iw (mP ⟨none,0,0⟩ 0 0 0 0 0 0 0 false false ⟨none,0,0⟩ ⟨none,0,0⟩ 0) b a 0 λg=>rV g a λZ aa ab ac ad ae af ag ah ai aj ak al=>K Z aa ab ac ad ae af ag ah ai aj ak al 4 g) (Ld .slice b (c.add 10) λam=>(cond (decide ((am.len:Int)<8)) (iw (mP ⟨none,0,0⟩ 0 0 0 0 0 0 0 false false ⟨none,0,0⟩ ⟨none,0,0⟩ 0) b a 0 λh=>rV h a λan ao ap aq ar au av aw ax ay az aA aB=>K an ao ap aq ar au av aw ax ay az aA aB 3 h) (ig b.drew c λi j k l m n o p q r s=>ig b.drew c λaC aD aE aF aG aH aI aJ aK aL aM=>Dn aC aD aE aF aG aH aI aJ aK aL aM b.drew λaN t=>u_ (gu i j k l m n o p q r s) t c 0 (
 iw (mP d i j k l m n o p q r s aN) t a 0 λu=>rV u a λaO aP aQ aR aS aT aU aV aW aX aY aZ a1=>K aO aP aQ aR aS aT aU aV aW aX aY aZ a1 0 u)))))))):=χ Tryz.func290
theorem FM {k l m n o p q r s t u v x w K}:gI (qM k l m n o p q r s t u v x w K)
 (Ε w (mP k l m n o p q r s t u v x) 443 λb w2=>Ε w2 abH 261 λa c=>let y:b_:=λw7=>(iw abH w7 a 0 λd=>fM d (a.add 0) λy9=>fM d (a.add 1) λag=>fM d (a.add 2) λah=>K y9 ag ah 8 d)
 fM c ((b.add 1).add 4) λe=>let z:Bool->Prop:=λai=>((cond ai (fM c.drew ((b.add 1).add 4) λi=>rV c.drew b λaj ak al am an ao ap aq ar au av aw ax=>rV c.drew b λA B C D E F G H I J L M N=>jJ aj ak al am an ao ap aq ar au av aw ax 0 c.drew λay j=>u_ (mP A B C D E F G H I J L M N) j b 0 (
 j.cell? ((b.add 1).add 4)=some (Β i)/\
 jJ A B C D E F G H I J L M N 2 j λaz O=>O.cell? ((b.add 1).add 4)=some (Β i)/\
 iw [Β i,Β ay,Β az] O a 0 λf=>fM f (a.add 0) λaA=>fM f (a.add 1) λaB=>fM f (a.add 2) λaC=>K aA aB aC 0 f)) (cond (e==1) (Ld .slice c ((b.add 1).add 10) λaD=>iM aD 1 0 λaE=>Ld (.int .u8) c aE λaF=>yM (ο.wrap aF) c λaG g=>(cond aG (rV g.drew b λaH aI aJ aK aL aM aN aO aP aQ aR aS aT=>rV g.drew b λP Q R S T U V W X Y Z aa ab=>jJ aH aI aJ aK aL aM aN aO aP aQ aR aS aT 4 g.drew λaU ac=>u_ (mP P Q R S T U V W X Y Z aa ab) ac b 0 (
 jJ P Q R S T U V W X Y Z aa ab 4 ac λaV aW=>iw [Β 1,Β aU,Β aV] aW a 0 λh=>fM h (a.add 0) λaX=>fM h (a.add 1) λaY=>fM h (a.add 2) λaZ=>K aX aY aZ 0 h)) (y g))) (y c))))
 (cond (e==6) (z (e==6)) (z (e==17)))):=χ Tryz.func291
theorem OQ {l m n h o p q w K}:gI (yC l m n h o p q w K)
 (Ε w [Β l,Β m,Β n,Δ h] 142 λc u=>Ε u abO 142 λb r=>let s:Value->Prop:=λv=>(Ld .slice r (c.add 3) λi=>jy υ [.one .slice,.one ν] v [(Δ i),(Β p),(Β q)] r λx t=>∃d:fU,∃j:Int,x=(Value.tuple ⟨[Δ d,Β j]⟩)/\
 (cond (j !=0) (iw abO t b 0 λe=>fM e (b.add 0) λy=>fM e (b.add 1) λz=>fM e (b.add 2) λA=>Ld .slice e (b.add 3) λB=>K y z A B j e) (St t (c.add 3) (Δ d) λf=>fM f (c.add 0) λC=>fM f (c.add 1) λD=>fM f (c.add 2) λE=>Ld .slice f (c.add 3) λk=>iw [Β C,Β D,Β E,Δ k] f b 0 λg=>fM g (b.add 0) λF=>fM g (b.add 1) λG=>fM g (b.add 2) λH=>Ld .slice g (b.add 3) λI=>K F G H I 0 g)))
 (cond o (s (Value.func (.func 329) #[] #[])) (s (Value.func (.func 328) #[] #[])))):=χ Tryz.func292
theorem XZ {v x d w K}:gI (Gm v x d w K)
 (Ε w adl 76 λc y=>(cond (decide ((d.len:Int)<8)) (iw adl y c 0 λm=>fM m (c.add 0) λD=>fM m (c.add 1) λE=>Ld .bool m (c.add 2) λF=>Ld .slice m (c.add 3) λG=>K D E F G 3 m) (Ε y aew 501 λe H=>kT d 1 0 8 λI=>Ea I H λJ b=>yI υ none [.one ν,.one ν] J b (λq n r L=>r.heap[q]? =r.heap[q]? /\
 (2:Int)≠0/\
 (0:Int)<=(ο.wrap (Int.tdiv n.1 2))/\(ο.wrap (Int.tdiv n.1 2))<(4:Int)/\
 St (gG r q) (e.add (Int.toNat (ο.wrap (Int.tdiv n.1 2)) * 1)) (Β n.2.1) λM=>L .normal M)
 (λf=>(0:Int)<=2/\2<(4:Int)/\
 fM f.drew (e.add (Int.toNat 2 * 1)) λo=>(0:Int)<=3/\3<(4:Int)/\
 fM f.drew (e.add (Int.toNat 3 * 1)) λz=>(cond (decide (o<8)) (iw adl f.drew c 0 λg=>Η g b/\
 fM (Ζ g b) (c.add 0) λN=>fM (Ζ g b) (c.add 1) λO=>Ld .bool (Ζ g b) (c.add 2) λP=>Ld .slice (Ζ g b) (c.add 3) λQ=>K N O P Q 4 (Ζ g b)) (cond (decide (o>(d.len:Int))) (iw adl f.drew c 0 λh=>Η h b/\
 fM (Ζ h b) (c.add 0) λR=>fM (Ζ h b) (c.add 1) λS=>Ld .bool (Ζ h b) (c.add 2) λT=>Ld .slice (Ζ h b) (c.add 3) λU=>K R S T U 3 (Ζ h b)) (cond (decide (o<(d.len:Int))) (iw adl f.drew c 0 λi=>Η i b/\
 fM (Ζ i b) (c.add 0) λV=>fM (Ζ i b) (c.add 1) λW=>Ld .bool (Ζ i b) (c.add 2) λX=>Ld .slice (Ζ i b) (c.add 3) λY=>K V W X Y 4 (Ζ i b)) (let A:Bool->b_:=λZ p=>((cond Z (iw adl p c 0 λj=>Η j b/\
 fM (Ζ j b) (c.add 0) λaa=>fM (Ζ j b) (c.add 1) λab=>Ld .bool (Ζ j b) (c.add 2) λac=>Ld .slice (Ζ j b) (c.add 3) λad=>K aa ab ac ad 5 (Ζ j b)) ((0:Int)<=0/\0<(4:Int)/\
 fM p.drew (e.add (Int.toNat 0 * 1)) λB=>(0:Int)<=1/\1<(4:Int)/\
 fM p.drew (e.add (Int.toNat 1 * 1)) λC=>kT d 1 8 (d.len:Int) λae=>gK ae p.drew λs t=>t.cell? (e.add (Int.toNat 1 * 1))=some (Β C)/\
 t.cell? (e.add (Int.toNat 0 * 1))=some (Β B)/\
 iw [Β B,Β C,.bool (z==0),Δ s] t c 0 λk=>Η k b/\
 fM (Ζ k b) (c.add 0) λaf=>fM (Ζ k b) (c.add 1) λag=>Ld .bool (Ζ k b) (c.add 2) λah=>Ld .slice (Ζ k b) (c.add 3) λai=>K af ag ah ai 0 (Ζ k b))))
 (cond (z !=0) (rE v x 17 o f.drew λu aj=>Ε aj [Δ u,Δ d] 23 λak al=>uV ⟨(some ak),2,2⟩ al λam an=>A (!am) an) (A false f.drew)))))))
 (λl=>Η l b/\
 fM (Ζ l b) (c.add 0) λao=>fM (Ζ l b) (c.add 1) λap=>Ld .bool (Ζ l b) (c.add 2) λaq=>Ld .slice (Ζ l b) (c.add 3) λar=>K ao ap aq ar 0 (Ζ l b))
 []))):=χ Tryz.func293 (fQ (fQ (fQ (.seq (fQ (.blk (.rng [.one ν,.one ν] .leaf .leaf))) .leaf))))
theorem UO {a w K}:gI (yM a w K)
 (Ε w [Β 0,Β 8] 3 λb c=>Eh a ⟨(some b),2,2⟩ c λd e=>K d e):=χ Tryz.func294
theorem Vd {a c b w K}:gI (Ey a c b w K)
 (let e:Bool->Prop:=λl=>((cond l (K 0 false w) (let f:Bool->b_:=λm d=>((cond m (K 0 false d) (cond ((kF .i64 b 4) !=0) (K 6 true d) (let g:b_:=λh=>((cond ((kF .i64 b 1) !=0) (Af a c h λn o=>K n true o) (K a true h)))
 Ad b d λp i=>(cond p (CB a c i λj k=>(cond (j !=a) (K j true k) (g k))) (g i))))))
 (cond (a==0) (Ad b w λq r=>f (!q) r) (f false w)))))
 (cond (decide (a<0)) (e (decide (a<0))) (e (decide (a>6))))):=χ Tryz.func295
theorem Tc {b c d e f g h i j k l w K}:gI (BX b c d e f g h i j k l w K)
 (Ε w (gu b c d e f g h i j k l) 43 λp m=>ig m p λq r s t u v x y z A B=>qL q r s t u v x y z A B m λC D a=>(cond (D !=0) (K 0 a) (AsT 453 C (λE=>Ε a (kY 0 0 0 0 0 0 0 0 ⟨none,0,0⟩ ⟨none,0,0⟩) 453 λn F=>StA 10 E F n λo=>fM o (n.add 5) λG=>K G o) (
 Ε a (kY 0 0 0 0 0 0 0 0 ⟨none,0,0⟩ ⟨none,0,0⟩) 453 λH I=>iw (kY 0 0 0 0 0 0 0 0 ⟨none,0,0⟩ ⟨none,0,0⟩) I H 0 λJ=>K 0 J)))):=χ Tryz.func296
theorem Hz {a w K}:gI (sQ a w K)
 (ji a w λc b=>(cond (!c) (K 0 b) (Pt a λd=>fM b (d.add 3) λe=>K e b))):=χ Tryz.func297
theorem Nk {t o v x w K}:gI (qX t o v x w K)
 (iL (Value.pointer t)=true/\
 Ε w [.pointer t] 105 λh H=>Ε H abH 56 λb I=>Ε I [Β 0] 34 λf y=>Ld .ptr y h λJ=>kJ J y λL z=>(cond (!L) (iw abH z b 0 λM=>St M f (Β 2) λj=>fM j (b.add 0) λN=>fM j (b.add 1) λO=>fM j (b.add 2) λP=>fM j f λQ=>K N O P Q j) (rC o z λR p=>(cond (!R) (iw abH p b 0 λT=>St T f (Β 1) λk=>fM k (b.add 0) λU=>fM k (b.add 1) λV=>fM k (b.add 2) λW=>fM k f λX=>K U V W X k) (Ld .ptr p h λY=>Pt Y λZ=>Ld .slice p (Z.add 2) λg=>(g.len:Int)≠0/\
 (g.len:Int)≠0/\
 iW (S:=(Int×Unit)×List Nat) (λi l aa=>(cond (decide (i.1.1<(g.len:Int))) (Ld .ptr l.drew h λA=>Pt A λB=>Ld .slice l.drew (B.add 2) λq=>(g.len:Int)≠0/\
 iM q 1 (Int.tmod (ο.wrap ((Int.tmod (ο.wrap ((Int.tmod x (g.len:Int))+(g.len:Int))) (g.len:Int))+i.1.1)) (g.len:Int)) λC=>fM l.drew C λD=>Ε l.drew abH 56 λe r=>r.cell? C=some (Β D)/\
 r.cell? (B.add 2)=some (Δ q)/\
 r.cell? h=some (.pointer A)/\
 iw [Β o,Β D,Β 0] r e 0 λE=>Ld .ptr E h λab=>vO ab o v E λac u=>yI υ none [.one ν] ac u (λc ad F G=>St F (e.add 2) (Β ad.1) λd=>d.heap[c]? =F.heap[c]? /\
 Ld .ptr (gG d c).drew h λae=>Pt ae λaf=>Ld .map (gG d c).drew (af.add 3) λag=>fM (gG d c).drew (e.add 0) λah=>fM (gG d c).drew (e.add 1) λai=>fM (gG d c).drew (e.add 2) λaj=>qG υ 56 .bool ag (Value.agg ⟨[Β ah,Β ai,Β aj]⟩) (Value.bool false) (gG d c).drew λak=>(cond ak (G .normal (gG d c).drew) (Ld .ptr (gG d c).drew.drew h λal=>Pt al λam=>Ld .map (gG d c).drew.drew (am.add 3) λan=>fM (gG d c).drew.drew (e.add 0) λao=>fM (gG d c).drew.drew (e.add 1) λap=>fM (gG d c).drew.drew (e.add 2) λaq=>og υ 56 an (Value.agg ⟨[Β ao,Β ap,Β aq]⟩) (Value.bool true) (gG d c).drew.drew λs=>fM s (e.add 0) λar=>fM s (e.add 1) λau=>fM s (e.add 2) λav=>iw [Β ar,Β au,Β av] s b 0 λaw=>St aw f (Β 0) λax=>G .ret ax)))
 (λay=>aa (((ο.wrap (i.1.1+1)),()),(u.heap.size::i.2)) ay)
 (λaz=>yj (u.heap.size::i.2) az λm=>fM m (b.add 0) λaA=>fM m (b.add 1) λaB=>fM m (b.add 2) λaC=>fM m f λaD=>K aA aB aC aD m)
 [(3,(λ _=>False))]) (iw abH l b 0 λaE=>St aE f (Β 12) λaF=>yj i.2 aF λn=>fM n (b.add 0) λaG=>fM n (b.add 1) λaH=>fM n (b.add 2) λaI=>fM n f λaJ=>K aG aH aI aJ n))) ((0,()),[]) p))))):=χ Tryz.func298 (fQ (fQ (fQ (fQ (fQ (.seq (fQ (.blk (.loop [(34,ν)] (fQ (fQ (.seq (.blk (fQ (fQ (fQ (fQ (.blk (.rng [.one ν] .leaf .leaf))))))) .leaf)))))) .leaf))))))
theorem H6 {b c w K}:gI (nX b c w K)
 (let d:Bool->b_:=λe f=>(K e f)
 ji b w λg a=>(cond g (cond (decide (c>=0)) (Pt b λh=>Ld .slice a h λi=>(cond (decide (c<(i.len:Int))) (Pt b λj=>Ld .slice a j λk=>iM k 6 c λl=>Ld .bool a (l.add 5) λm=>d m a) (d false a))) (d false a)) (d false a))):=χ Tryz.func302
theorem nO {d e w K}:gI (jk d e w K)
 (iW (S:=Int×Unit) (λc a h=>(cond (decide (c.1<(d.len:Int))) (iM d 6 c.1 λb=>fM a (b.add 0) λi=>fM a (b.add 1) λj=>fM a (b.add 2) λk=>fM a (b.add 3) λl=>fM a (b.add 4) λm=>Ld .bool a (b.add 5) λn=>jy υ [.one .bool] e [(Value.agg ⟨[Β i,Β j,Β k,Β l,Β m,.bool n]⟩)] a λo f=>∃g:Bool,o=(Value.bool g)/\
 (cond g (K c.1 f) (h ((ο.wrap (c.1+1)),()) f))) (K (-1) a))) (0,()) w):=χ Tryz.func303 (fQ (.seq (fQ (.blk (.loop [(8,ν)] .leaf))) .leaf))
theorem EU {a b c d e f w K}:gI (wJ a b c d e f w K)
 (Ε w [Β a,Β b,Β c,Β d,Β e,.bool f] 304 λh g=>Ld .bool g (h.add 5) λi=>K (!i) g):=χ Tryz.func304
theorem TD {d e f w K}:gI (xC d e f w K)
 (Ε w [Β e,Β f] 193 λg c=>fM c g λi=>fM c (g.add 1) λj=>Ε c [Β d,Β i,Β j] 3 λk l=>iW (S:=fU×Int×Unit) (λa b m=>(cond (decide (a.2.1<(3:Int))) (iM ⟨(some k),3,3⟩ 1 a.2.1 λn=>fM b n λh=>0<=(32:Int)/\
 lG a.1 (kF .i64 (jH .i64 h 32) 4294967295) 4 b λo p=>lG o (kF .i64 h 4294967295) 4 p λq r=>m (q,(ο.wrap (a.2.1+1)),()) r) (vC b a.1 λs=>K s b))) (⟨none,0,0⟩,0,()) l):=χ Tryz.func305 (fQ (fQ (.seq (fQ (.blk (.loop [(5,.slice),(15,ν)] .leaf))) .leaf)))
theorem wZ {c d w K}:gI (lI c d w K)
 (iW (S:=Int×Int×Unit) (λa b f=>(cond (decide (a.1<a.2.1)) (0<=(1:Int)/\
 iM c 1 (ο.wrap (jH .u64 (IntKind.u64.wrap (ο.wrap (a.1+a.2.1))) 1)) λi=>fM b i λj=>zL j d b λk g=>(cond k (f ((ο.wrap ((ο.wrap (jH .u64 (IntKind.u64.wrap (ο.wrap (a.1+a.2.1))) 1))+1)),a.2.1,()) g) (f (a.1,(ο.wrap (jH .u64 (IntKind.u64.wrap (ο.wrap (a.1+a.2.1))) 1)),()) g))) (let e:Int->Bool->b_:=λl m n=>(K l m n)
 (cond (decide (a.1<(c.len:Int))) (iM c 1 a.1 λo=>fM b o λp=>(cond (p==d) (e a.1 true b) (iM c 1 a.1 λq=>fM b q λr=>pJ r b λs h=>(cond s (pJ d h λt u=>e a.1 t u) (e a.1 false h))))) (e a.1 false b))))) (0,(c.len:Int),()) w):=χ Tryz.func306 (fQ (fQ (fQ (.seq (.blk (.loop [(7,ν),(8,ν)] .leaf)) .leaf))))
theorem CU {c e b w K}:gI (oH c e b w K)
 (kT c 1 e (c.len:Int) λ _=>(cond ((b.len:Int)==0) (K c w) (cond (e==(c.len:Int)) (lK 3 1 8 [(Β 0)] c b w λj k=>K j k) (cond (decide ((ο.wrap ((c.len:Int)+(b.len:Int)))>(c.cap:Int))) (kT c 1 0 e λl=>QE 3 1 8 [(Β 0)] l (ο.wrap ((ο.wrap ((c.len:Int)+(b.len:Int))) - e)) w λf m=>kT f 1 e (f.len:Int) λn=>wL 1 n b m λ _ o=>kT f 1 (ο.wrap (e+(b.len:Int))) (f.len:Int) λp=>kT c 1 e (c.len:Int) λq=>wL 1 p q o.drew λ _ r=>K f r) (kT c 1 0 (ο.wrap ((c.len:Int)+(b.len:Int))) λd=>kT d 1 (ο.wrap (e+(b.len:Int))) (d.len:Int) λg=>ahf υ 336 [(Δ b),(Δ g)] w λs h=>∃i:Bool,s=(Value.bool i)/\
 (cond (!i) (kT d 1 (ο.wrap (e+(b.len:Int))) (d.len:Int) λt=>kT d 1 e (d.len:Int) λu=>wL 1 t u h.drew λ _ v=>kT d 1 e (d.len:Int) λx=>wL 1 x b v λ _ y=>K d y) (kT d 1 (c.len:Int) (d.len:Int) λz=>wL 1 z b h λ _ A=>kT d 1 e (d.len:Int) λB=>Cm B (b.len:Int) A λC=>K d C))))))):=χ Tryz.func307
theorem JD {c d e f w K}:gI (uK c d e f w K)
 (Ε w [Β d,Β e,Β f] 480 λg h=>fM h (g.add 1) λk=>pO c k h λi j=>Pt i λl=>Ld .slice j l λm=>jm m (Value.func (.func 340) #[] #[(Value.pointer (some g))]) j λb n=>Pt i λo=>St n o (Δ b) λp=>K p):=χ Tryz.func308
theorem Lj {f g h i w K}:gI (vU f g h i w K)
 (Ε w [Β g,Β h,Β i] 480 λc j=>fM j (c.add 1) λn=>pO f n j λk b=>Pt k λl=>Ld .slice b.drew l λd=>fM b.drew (c.add 0) λo=>fM b.drew (c.add 1) λp=>fM b.drew (c.add 2) λq=>Ε b.drew [Β o,Β p,Β q] 480 λr m=>m.cell? l=some (Δ d)/\
 lK 480 3 24 [(Β 0),(Β 0),(Β 0)] d ⟨(some r),1,1⟩ m λe s=>Pt k λt=>St s t (Δ e) λu=>K u):=χ Tryz.func309
theorem Vg {a b c d w K}:gI (rE a b c d w K)
 (zu a 4 w λe f=>lG ⟨none,0,0⟩ e 4 f λg h=>zu b 4 h λi j=>lG g i 4 j λk l=>zu c 1 l λm n=>lG k m 2 n λo p=>zu d 2 p λq r=>lG o q 2 r λs t=>K s t):=χ Tryz.func310
theorem TG {a0 a1 f0 w K}:gI (Us a0 a1 f0 w K)
 (Ld .slice w f0 λa=>tC a a0 a1 w λb _ c=>K b c):=χ Tryz.func311
theorem UH {a0 f0 w K}:gI (WQ a0 f0 w K)
 (iW (S:=Int×Unit) (λb a g=>Ld .slice a f0 λh=>(cond (decide (b.1<(h.len:Int))) (Ld .slice a f0 λi=>iM i 1 b.1 λj=>Ld (.int .u8) a j λc=>0<=(8:Int)/\
 let d:Int->Prop:=λk=>(jy υ [.one .bool] a0 [(Β b.1),(Β k)] a λl e=>∃f:Bool,l=(Value.bool f)/\
 (cond (!f) (K e) (g ((ο.wrap (b.1+2)),()) e)))
 Ld .slice a f0 λm=>(cond (decide ((ο.wrap (b.1+1))<(m.len:Int))) (Ld .slice a f0 λn=>iM n 1 (ο.wrap (b.1+1)) λo=>Ld (.int .u8) a o λp=>d (Ql .i64 (FU .i64 (ο.wrap c) 8) (ο.wrap p))) (d (FU .i64 (ο.wrap c) 8)))) (K a))) (0,()) w):=χ Tryz.func316 (fQ (.blk (.loop [(3,ν)] .leaf)))
theorem pW {c d w K}:gI (kU c d w K)
 (iW (S:=Int×Unit) (λa b h=>(cond (decide (a.1<(c.len:Int))) (iM c 2 a.1 λe=>fM b (e.add 0) λi=>fM b (e.add 1) λj=>jy υ [.one .bool] d [(Value.agg ⟨[Β i,Β j]⟩)] b λk f=>∃g:Bool,k=(Value.bool g)/\
 (cond g (K a.1 f) (h ((ο.wrap (a.1+1)),()) f))) (K (-1) b))) (0,()) w):=χ Tryz.func317 (fQ (.seq (fQ (.blk (.loop [(8,ν)] .leaf))) .leaf))
theorem rO {c d e w K}:gI (lV c d e w K)
 (Ε w [Β d,Β e] 193 λf h=>iW (S:=Int×Unit) (λb a i=>(cond (decide (b.1<(c.len:Int))) (fM a.drew (f.add 0) λj=>fM a.drew (f.add 1) λk=>iM c 2 b.1 λg=>fM a.drew (g.add 0) λl=>fM a.drew (g.add 1) λm=>(cond ((j==l) && ((k==m) && true)) (K b.1 a.drew) (i ((ο.wrap (b.1+1)),()) a.drew))) (K (-1) a))) (0,()) h):=χ Tryz.func318 (fQ (.seq (fQ (.blk (.loop [(8,ν)] .leaf))) .leaf))
theorem FQ {a0 f0 f1 w K}:gI (Gf a0 f0 f1 w K)
 (Ld .ptr w f0 λi=>ji i w λj b=>(cond (!j) (K b) (Ld .ptr b.drew f0 λk=>Pt k λl=>Ld .map b.drew (l.add 2) λm=>fM b.drew f1 λn=>qG υ 3 .slice m (Β n) (Value.slice none 0 0) b.drew λo=>kL o b.drew λe p=>iW (S:=Int×Unit) (λd a q=>(cond (decide (d.1<(e.len:Int))) (iM e 1 d.1 λr=>fM a r λf=>Ld .ptr a f0 λs=>Pt s λt=>Ld .slice a t λu=>iM u 6 f λc=>fM a (c.add 0) λv=>fM a (c.add 1) λx=>fM a (c.add 2) λy=>fM a (c.add 3) λz=>fM a (c.add 4) λA=>jy υ [.one .bool] a0 [(Β f),(Value.agg ⟨[Β v,Β x,Β y,Β z,Β A]⟩)] a λB g=>∃h:Bool,B=(Value.bool h)/\
 (cond (!h) (K g) (q ((ο.wrap (d.1+1)),()) g))) (K a))) (0,()) p))):=χ Tryz.func319 (fQ (fQ (.blk (.loop [(17,ν)] .leaf))))
theorem KW {a b w K}:gI (vK a b w K)
 (iL (Value.pointer a)=true/\
 Ε w [.pointer a] 213 λc d=>iL (Β b)=true/\
 Ε d [Β b] 3 λe f=>K (Value.func (.func 344) #[] #[(Value.pointer (some c)),(Value.pointer (some e))]) f):=χ Tryz.func321
theorem XE {b c w K}:gI (F5 b c w K)
 (iW (S:=Int×Int×Unit) (λa d e=>(cond (decide (a.2.1<(b.size:Int))) (adA b a.2.1 λf=>e ((IntKind.u32.wrap ((Ue .u32 a.1 (IntKind.u32.wrap f)) * 16777619)),(ο.wrap (a.2.1+1)),()) d) ((IntKind.u32.wrap c)≠0/\
 K (ο.wrap (Int.tmod a.1 (IntKind.u32.wrap c))) d))) (2166136261,0,()) w):=χ Tryz.func322 (fQ (fQ (.seq (fQ (.blk (.loop [(5,(.int .u32)),(9,ν)] .leaf))) .leaf)))
theorem OH {a w K}:gI (uj a w K)
 (K (a !=a) w):=χ Tryz.func325
theorem Jy {a b c d e f g h i j k l m n w K}:gI (jJ a b c d e f g h i j k l m n w K)
 (Ε w (mP a b c d e f g h i j k l m) 443 λp o=>Ld .slice o ((p.add 1).add 10) λq=>tC q n 2 o λr _ s=>K r s):=χ Tryz.func327
theorem Zx {d a b w K}:gI (Q5 d a b w K)
 (Bh d a b w λg h i j k l m n o p q r s e t=>Ε t (mP ⟨none,0,0⟩ 0 0 0 0 0 0 0 false false ⟨none,0,0⟩ ⟨none,0,0⟩ 0) 443 λf u=>iw (mP g h i j k l m n o p q r s) u f 0 λc=>(cond (e !=0) (K ⟨none,0,0⟩ e c) (rV c f λv x y z A B C D E F G H I=>nU v x y z A B C D E F G H I 16 2 a b c λJ L=>K J 0 L))):=χ Tryz.func328
theorem U3 {d a b w K}:gI (LP d a b w K)
 (Bh d a b w λg h i j k l m n o p q r s e t=>Ε t (mP ⟨none,0,0⟩ 0 0 0 0 0 0 0 false false ⟨none,0,0⟩ ⟨none,0,0⟩ 0) 443 λf u=>iw (mP g h i j k l m n o p q r s) u f 0 λc=>(cond (e !=0) (K ⟨none,0,0⟩ e c) (rV c f λv x y z A B C D E F G H I=>nU v x y z A B C D E F G H I 12 0 a b c λJ L=>K J 0 L))):=χ Tryz.func329
theorem Fe {a w K}:gI (Ad a w K)
 (K ((kF .i64 a 6)==2) w):=χ Tryz.func330
theorem TF {a b w K}:gI (CB a b w K)
 (let c:Bool->Prop:=λd=>((cond d (kQ 1 2 b w λe f=>K e f) (cond (a==1) (kQ 1 3 b w λg h=>K g h) (cond (a==2) (kQ 3 2 b w λi j=>K i j) (K a w)))))
 (cond (a==0) (c (a==0)) (c (a==6)))):=χ Tryz.func331
theorem Qk {a b w K}:gI (Af a b w K)
 ((cond (a==3) (kQ 4 5 b w λc d=>K c d) (cond (a==4) (kQ 4 6 b w λe f=>K e f) (cond (a==5) (kQ 6 5 b w λg h=>K g h) (K a w))))):=χ Tryz.func332
theorem Lc {a b c w K}:gI (vO a b c w K)
 (iL (Value.pointer a)=true/\
 Ε w [.pointer a] 105 λd e=>iL (Β b)=true/\
 Ε e [Β b] 3 λf g=>iL (Β c)=true/\
 Ε g [Β c] 3 λh i=>K (Value.func (.func 349) #[] #[(Value.pointer (some d)),(Value.pointer (some f)),(Value.pointer (some h))]) i):=χ Tryz.func333
theorem Qa {a b w K}:gI (zL a b w K)
 (let c:Bool->b_:=λf g=>(K f g)
 uj a w λh d=>(cond h (uj b d λi e=>(cond (!i) (c true e) (c (decide (a<b)) e))) (c (decide (a<b)) d))):=χ Tryz.func334
theorem JA {a w K}:gI (pJ a w K)
 (K (a !=a) w):=χ Tryz.func335
theorem JC {c b w K}:gI (pO c b w K)
 (Pt c λd=>fM w (d.add 449) λe=>CG e b w λa f=>0<=(ο.wrap (6 * a))/\
 Pt c λg=>(0:Int)<=a/\a<(7:Int)/\
 (0:Int)<=(kF .i64 (jH .i64 b (ο.wrap (6 * a))) 63)/\(kF .i64 (jH .i64 b (ο.wrap (6 * a))) 63)<(64:Int)/\
 K (some ((g.add (Int.toNat a * 64)).add (Int.toNat (kF .i64 (jH .i64 b (ο.wrap (6 * a))) 63) * 1))) f.drew):=χ Tryz.func338
theorem oM {a g w K}:gI (jm a g w K)
 (jq a g w λh j=>(cond (h==(-1)) (K a j) (iW (S:=Int×Int×Unit) (λb d m=>(cond (decide (b.2.1<(a.len:Int))) (let k:Int->b_:=λn o=>(m (n,(ο.wrap (b.2.1+1)),()) o)
 iM a 3 b.2.1 λi=>fM d (i.add 0) λp=>fM d (i.add 1) λq=>fM d (i.add 2) λr=>Ε d abH 480 λc s=>iw [Β p,Β q,Β r] s c 0 λf=>fM f (c.add 0) λt=>fM f (c.add 1) λu=>fM f (c.add 2) λv=>jy υ [.one .bool] g [(Value.agg ⟨[Β t,Β u,Β v]⟩)] f λx e=>∃l:Bool,x=(Value.bool l)/\
 (cond (!l) (fM e (c.add 0) λy=>fM e (c.add 1) λz=>fM e (c.add 2) λA=>iM a 3 b.1 λB=>iw [Β y,Β z,Β A] e B 0 λC=>k (ο.wrap (b.1+1)) C) (k b.1 e))) (kT a 3 b.1 (a.len:Int) λD=>Qo [(Β 0),(Β 0),(Β 0)] D d λE=>kT a 3 0 b.1 λF=>K F E))) (h,(ο.wrap (h+1)),()) j))):=χ Tryz.func339 (fQ (fQ (fQ (.seq (fQ (.blk (.loop [(5,ν),(6,ν)] .leaf))) .leaf))))
theorem FT {b c d e w K}:gI (xU b c d e w K)
 (Ε w [Β b,Β c,Β d] 480 λf a=>fM a f λg=>fM a e λh=>K (g==h) a):=χ Tryz.func340
theorem aax {b a w K}:gI (zu b a w K)
 (0<=(ο.wrap (8 * a))/\
 K (kF .i64 b (ο.wrap ((FU .i64 1 (ο.wrap (8 * a))) - 1))) w):=χ Tryz.func341
theorem G_ {a0 f0 f1 w K}:gI (I7 a0 f0 f1 w K)
 (Ld .ptr w f0 λf=>Pt f λg=>Ld .slice w g λh=>iW (S:=Int×Unit) (λb a i=>(cond (decide (b.1<(h.len:Int))) (fM a.drew f1 λj=>Ld .ptr a.drew f0 λk=>Pt k λl=>Ld .slice a.drew l λc=>(c.len:Int)≠0/\
 jy υ [.one .bool] a0 [(Β (Int.tmod (ο.wrap (j+b.1)) (c.len:Int)))] a.drew λm d=>∃e:Bool,m=(Value.bool e)/\
 (cond (!e) (K d) (i ((ο.wrap (b.1+1)),()) d))) (K a))) (0,()) w):=χ Tryz.func344 (fQ (.blk (.loop [(10,ν)] .leaf)))
theorem XK {b c d w K}:gI (Bh b c d w K)
 (Ε w (mP ⟨none,0,0⟩ 0 0 0 0 0 0 0 false false ⟨none,0,0⟩ ⟨none,0,0⟩ 0) 443 λa m=>tK b m λn o p q r s t u v x y z A B e C=>Ε C ξ 43 λD E=>Ε E abH 261 λF G=>iw (gu n o p q r s t u v x y) G D 0 λH=>iw [Β z,Β A,Β B] H F 0 λf=>(cond (e !=0) (iw (mP ⟨none,0,0⟩ 0 0 0 0 0 0 0 false false ⟨none,0,0⟩ ⟨none,0,0⟩ 0) f a 0 λg=>rV g a λI J L M N O P Q R S T U V=>K I J L M N O P Q R S T U V e g) (let h:Bool->b_:=λW i=>((cond W (iw (mP ⟨none,0,0⟩ 0 0 0 0 0 0 0 false false ⟨none,0,0⟩ ⟨none,0,0⟩ 0) i a 0 λj=>rV j a λX Y Z aa ab ac ad ae af ag ah ai aj=>K X Y Z aa ab ac ad ae af ag ah ai aj 1 j) (vP b i λak al am an ao ap aq ar au av aw ax ay az aA=>iw (mP ak al am an ao ap aq ar au av aw ax ay) aA a 0 λk=>rV k a λaB aC aD aE aF aG aH aI aJ aK aL aM aN=>K aB aC aD aE aF aG aH aI aJ aK aL aM aN az k)))
 lF c f λaO l=>(cond (!aO) (h true l) (jI d 2 l λaP aQ=>h (!aP) aQ))))):=χ Tryz.func346
theorem Ht {A B C D E F G H I J L M N O P Q R w K}:gI (nU A B C D E F G H I J L M N O P Q R w K)
 (Ε w (mP A B C D E F G H I J L M N) 443 λc j=>let S:Int->Prop:=λW=>(Ld .slice j c λX=>um X O Q 4 j λY k l Z=>Ε Z aeQ 524 λe aa=>iw [Β Y,Δ k,Δ l] aa e 0 λm=>Ld .slice m c λab=>fM m (c.add 12) λac=>um ab (ο.wrap (ac+W)) R 2 m λad n o ae=>Ε ae aeQ 524 λd af=>iw [Β ad,Δ n,Δ o] af d 0 λf=>Ld .slice f c λag=>fM f (e.add 0) λah=>Ld .slice f (e.add 1) λp=>Ld .slice f (e.add 2) λq=>Ε f [Β ah,Δ p,Δ q] 524 λai aj=>vS ag 10 ⟨(some ai),1,1⟩ aj λg T=>rV T c λak al am an ao ap aq ar au av aw ax ay=>qN ak al am an ao ap aq ar au av aw ax ay T λh b=>(cond (h==(-1)) (fM b.drew d λaz=>kT g 1 az (g.len:Int) λaA=>Ld .slice b.drew (d.add 2) λaB=>wL 1 aA aB b.drew λ _ aC=>K g aC) (fM b (c.add 12) λi=>fM b ((c.add 1).add 4) λaD=>(cond (aD==1) (fM b (d.add 0) λaE=>Ld .slice b (d.add 1) λr=>Ld .slice b (d.add 2) λs=>Ε b [Β aE,Δ r,Δ s] 524 λaF aG=>vS g (ο.wrap (h+i)) ⟨(some aF),1,1⟩ aG λaH aI=>K aH aI) (fM b (e.add 0) λaJ=>Ld .slice b (e.add 1) λt=>Ld .slice b (e.add 2) λu=>fM b (d.add 0) λaK=>Ld .slice b (d.add 1) λv=>Ld .slice b (d.add 2) λx=>Ε b [Β aJ,Δ t,Δ u,Β aK,Δ v,Δ x] 524 λaL aM=>vS g (ο.wrap (h+i)) ⟨(some aL),2,2⟩ aM λy aN=>let U:fU->b_:=λaO aP=>(K aO aP)
 tC y (ο.wrap (h+i)) 2 aN λaQ _ z=>let V:Bool->Prop:=λaR=>((cond aR (vH y (ο.wrap (h+i)) 65535 2 z λaS _ aT=>U aS aT) (U y z)))
 (cond (aQ==0) (fM z ((c.add 1).add 4) λaU=>V (aU==17)) (V false)))))))
 fM j ((c.add 1).add 4) λaV=>(cond (aV==1) (S 4) (S P))):=χ Tryz.func347
theorem OU {b c d w K}:gI (kQ b c d w K)
 (Ε w [Β b,Β c] 518 λe a=>(cond d (fM a e λf=>K f a) (fM a (e.add 1) λg=>K g a))):=χ Tryz.func348
theorem Hl {a0 f0 f1 f2 w K}:gI (I9 a0 f0 f1 f2 w K)
 (iL a0=true/\
 Ε w [a0] 100 λn o=>let p:Bool->b_:=λz g=>((cond z (K g) (fM g f2 λA=>St g f2 (Β (kF .i64 A 65535)) λd=>let q:Bool->b_:=λB e=>((cond B (K e) (Ld .ptr e f0 λC=>fM e f1 λD=>fM e f2 λE=>qY C D E e λr F=>iW (S:=(Int×Unit)×List Nat) (λc h G=>(cond (decide (c.1.1<(r.len:Int))) (iM r 1 c.1.1 λH=>Ld .any h H λI=>Ε h [Β 0] 3 λs J=>St J s (Β c.1.1) λi=>yI υ none [.one ν] I i (λa j b k=>b.heap[a]? =b.heap[a]? /\
 let t:Bool->Prop:=λL=>(let l:Bool->Prop:=λM=>((cond M (k .normal (gG b a)) (Ld .any (gG b a) n λN=>jy υ [.one .bool] N [(Β j.1)] (gG b a) λO u=>∃v:Bool,O=(Value.bool v)/\
 (cond (!v) (k .ret u) (k .normal u)))))
 fM (gG b a) f2 λP=>(cond (j.1==P) (l true) (cond L (fM (gG b a) f1 λQ=>l (Q !=1)) (l false))))
 fM (gG b a) s λR=>(cond (R==1) (fM (gG b a) f2 λT=>t (decide (j.1>=T))) (t false)))
 (λU=>G (((ο.wrap (c.1.1+1)),()),(i.heap.size::c.2)) U)
 (λV=>yj (i.heap.size::c.2) V λW=>K W)
 [(3,(λ _=>False))]) (yj c.2 h λX=>K X))) ((0,()),[]) F)))
 Ld .ptr d.drew f0 λY=>Pt Y λx=>fM d.drew (x.add 0) λZ=>fM d.drew (x.add 1) λaa=>fM d.drew f2 λab=>yA Z aa ab d.drew λac f=>(cond ac (Ld .any f n λad=>fM f f2 λae=>jy υ [.one .bool] ad [(Β ae)] f λaf ag=>∃y:Bool,af=(Value.bool y)/\
 q (!y) ag) (q false f)))))
 Ld .ptr o f0 λah=>kJ ah o λai m=>(cond (!ai) (p true m) (fM m f1 λaj=>rC aj m λak al=>p (!ak) al))):=χ Tryz.func349 (fQ (fQ (fQ (fQ (fQ (.blk (.loop [(36,ν)] (fQ (fQ (.seq (.blk (fQ (fQ (.blk (.rng [.one ν] .leaf .leaf))))) .leaf))))))))))
theorem OO {c d a w K}:gI (yA c d a w K)
 (Ε w [Β c,Β d] 204 λe b=>let f:Bool->Prop:=λg=>(K g b)
 fM b e λh=>(cond (decide (h<=a)) (fM b (e.add 1) λi=>f (decide (a<=i))) (f false))):=χ Tryz.func350
theorem BF {u a1 h w K}:gI (qY u a1 h w K)
 ((cond (a1==1) (Pt u λa4=>fM w.drew (a4.add 0) λx5=>fM w.drew (a4.add 1) λx6=>Pt u λa7=>fM w.drew a7 λx8=>qK x5 x6 x8 1 w.drew λr9 cC=>NR [r9]/\
 Ε cC [r9] 320 λcD cE=>K ⟨(some cD),1,1⟩ cE) (Pe (S:=(Addr×Addr×Unit)×θ) (λg=>fM g.2.drew (g.1.1.add 0) λbi=>fM g.2.drew (g.1.1.add 1) λbj=>fM g.2.drew (g.1.1.add 0) λcF=>fM g.2.drew (g.1.1.add 1) λcG=>fM g.2.drew (g.1.1.add 0) λN=>fM g.2.drew (g.1.1.add 1) λO=>fM g.2.drew (g.1.1.add 0) λaf=>fM g.2.drew (g.1.1.add 1) λag=>fM g.2.drew (g.1.2.1.add 0) λz=>fM g.2.drew (g.1.2.1.add 1) λA=>fM g.2.drew (g.1.2.1.add 0) λE=>fM g.2.drew (g.1.2.1.add 1) λF=>Pt u λn=>fM g.2.drew (n.add 0) λo=>fM g.2.drew (n.add 1) λp=>Pt u λq=>fM g.2.drew (q.add 0) λv=>fM g.2.drew (q.add 1) λx=>qZ cF cG h g.2.drew λbk r=>Cj r q v x<|Cj r n o p<|Cj r g.1.2.1 E F<|Cj r g.1.2.1 z A<|Cj r g.1.1 af ag<|Cj r g.1.1 N O<|Cj r g.1.1 bi bj<|qK bi bj (if bk>(ο.wrap (h+2)) then bk else (ο.wrap (h+2))) 2 r λbl y=>Cj y q v x<|Cj y n o p<|Cj y g.1.2.1 E F<|Cj y g.1.2.1 z A<|Cj y g.1.1 af ag<|Cj y g.1.1 N O<|qZ af ag h y λcH B=>Cj B q v x<|Cj B n o p<|Cj B g.1.2.1 E F<|Cj B g.1.2.1 z A<|Cj B g.1.1 N O<|qK N O cH 2 B λbm G=>Cj G q v x<|Cj G n o p<|Cj G g.1.2.1 E F<|Cj G g.1.2.1 z A<|qZ E F h G λcI P=>Cj P q v x<|Cj P n o p<|Cj P g.1.2.1 z A<|qK z A cI 2 P λbn ah=>Cj ah q v x<|Cj ah n o p<|qZ v x (ο.wrap (h+1)) ah λcJ bo=>Cj bo n o p<|qK o p cJ 2 bo λbp cK=>NR [bl,bm,bn,bp]/\
 Ε cK [bl,bm,bn,bp] 320 λcL cM=>K ⟨(some cL),4,4⟩ cM) λi=>Pt u λf=>fM w.drew (f.add 0) λd=>fM w.drew (f.add 1) λe=>Pt u λc=>fM w.drew (c.add 0) λa=>fM w.drew (c.add 1) λb=>(kK h w.drew λH I J=>Cj J c a b<|Cj J f d e<|(gB d e H I J λj k Q=>Cj Q c a b<|(iJ h Q λL M R=>Cj R c a b<|(gB a b L M R λbq br bs=>(Ε bs aaG 204 λbt ai=>Cj ai c a b<|Cj ai f d e<|Ε ai aaG 204 λbu aj=>Cj aj c a b<|Cj aj f d e<|iw [Β j,Β k] aj bt 0 λcN=>iw [Β bq,Β br] cN bu 0 λcO=>i ((bt,bu,()),cO))/\
 (Ε bs aaG 204 λbv ak=>Cj ak c a b<|Cj ak f d e<|Ε ak aaG 204 λbw al=>Cj al c a b<|Cj al f d e<|iw [Β j,Β k] al bw 0 λcP=>iw [Β bq,Β br] cP bv 0 λcQ=>i ((bw,bv,()),cQ)))/\
 (Ε R aaG 204 λT U=>Cj U c a b<|Cj U f d e<|(gB a b L M U λcR cS cT=>Ε cT aaG 204 λbx am=>Cj am c a b<|Cj am f d e<|iw [Β j,Β k] am T 0 λcU=>iw [Β cR,Β cS] cU bx 0 λcV=>i ((T,bx,()),cV))/\
 (Ε U aaG 204 λbz an=>Cj an c a b<|Cj an f d e<|gB a b L M an λcW cX cY=>iw [Β j,Β k] cY T 0 λcZ=>iw [Β cW,Β cX] cZ bz 0 λc0=>i ((T,bz,()),c0)))/\
 (Ε R aaG 204 λV W=>Cj W c a b<|Cj W f d e<|(gB a b L M W λc1 c2 c3=>Ε c3 aaG 204 λbA ao=>Cj ao c a b<|Cj ao f d e<|iw [Β j,Β k] ao bA 0 λc4=>iw [Β c1,Β c2] c4 V 0 λc5=>i ((bA,V,()),c5))/\
 (Ε W aaG 204 λbB ap=>Cj ap c a b<|Cj ap f d e<|gB a b L M ap λc6 c7 c8=>iw [Β j,Β k] c8 bB 0 λc9=>iw [Β c6,Β c7] c9 V 0 λda=>i ((bB,V,()),da))))/\
 (Ε Q aaG 204 λC X=>Cj X c a b<|Cj X f d e<|(iJ h X λbC bD aq=>Cj aq c a b<|(gB a b bC bD aq λdb dc dd=>Ε dd aaG 204 λbE ar=>Cj ar c a b<|Cj ar f d e<|iw [Β j,Β k] ar C 0 λde=>iw [Β db,Β dc] de bE 0 λdf=>i ((C,bE,()),df))/\
 (Ε aq aaG 204 λbF au=>Cj au c a b<|Cj au f d e<|gB a b bC bD au λdg dh di=>iw [Β j,Β k] di C 0 λdj=>iw [Β dg,Β dh] dj bF 0 λdk=>i ((C,bF,()),dk)))/\
 (Ε X aaG 204 λbG av=>Cj av c a b<|Cj av f d e<|iJ h av λdl dm bH=>Cj bH c a b<|gB a b dl dm bH λdn dp dq=>iw [Β j,Β k] dq C 0 λdr=>iw [Β dn,Β dp] dr bG 0 λds=>i ((C,bG,()),ds)))/\
 (Ε Q aaG 204 λD Y=>Cj Y c a b<|Cj Y f d e<|(iJ h Y λbI bJ aw=>Cj aw c a b<|(gB a b bI bJ aw λdt du dv=>Ε dv aaG 204 λbK ax=>Cj ax c a b<|Cj ax f d e<|iw [Β j,Β k] ax bK 0 λdw=>iw [Β dt,Β du] dw D 0 λdx=>i ((bK,D,()),dx))/\
 (Ε aw aaG 204 λbL ay=>Cj ay c a b<|Cj ay f d e<|gB a b bI bJ ay λdy dz dA=>iw [Β j,Β k] dA bL 0 λdB=>iw [Β dy,Β dz] dB D 0 λdC=>i ((bL,D,()),dC)))/\
 (Ε Y aaG 204 λbM az=>Cj az c a b<|Cj az f d e<|iJ h az λdD dE bN=>Cj bN c a b<|gB a b dD dE bN λdF dG dH=>iw [Β j,Β k] dH bM 0 λdI=>iw [Β dF,Β dG] dI D 0 λdJ=>i ((bM,D,()),dJ))))/\
 (Ε J aaG 204 λs Z=>Cj Z c a b<|Cj Z f d e<|(gB d e H I Z λaA aB aC=>Cj aC c a b<|(iJ h aC λbO bP aD=>Cj aD c a b<|(gB a b bO bP aD λdK dL dM=>Ε dM aaG 204 λbQ aE=>Cj aE c a b<|Cj aE f d e<|iw [Β aA,Β aB] aE s 0 λdN=>iw [Β dK,Β dL] dN bQ 0 λdO=>i ((s,bQ,()),dO))/\
 (Ε aD aaG 204 λbR aF=>Cj aF c a b<|Cj aF f d e<|gB a b bO bP aF λdP dQ dR=>iw [Β aA,Β aB] dR s 0 λdS=>iw [Β dP,Β dQ] dS bR 0 λdT=>i ((s,bR,()),dT)))/\
 (Ε aC aaG 204 λbS aG=>Cj aG c a b<|Cj aG f d e<|iJ h aG λdU dV bT=>Cj bT c a b<|gB a b dU dV bT λdW dX dY=>iw [Β aA,Β aB] dY s 0 λdZ=>iw [Β dW,Β dX] dZ bS 0 λd0=>i ((s,bS,()),d0)))/\
 (Ε Z aaG 204 λbU aH=>Cj aH c a b<|Cj aH f d e<|gB d e H I aH λd1 d2 bV=>Cj bV c a b<|iJ h bV λd3 d4 bW=>Cj bW c a b<|gB a b d3 d4 bW λd5 d6 d7=>iw [Β d1,Β d2] d7 s 0 λd8=>iw [Β d5,Β d6] d8 bU 0 λd9=>i ((s,bU,()),d9)))/\
 (Ε J aaG 204 λt aa=>Cj aa c a b<|Cj aa f d e<|(gB d e H I aa λaI aJ aK=>Cj aK c a b<|(iJ h aK λbX bY aL=>Cj aL c a b<|(gB a b bX bY aL λea eb ec=>Ε ec aaG 204 λbZ aM=>Cj aM c a b<|Cj aM f d e<|iw [Β aI,Β aJ] aM bZ 0 λed=>iw [Β ea,Β eb] ed t 0 λee=>i ((bZ,t,()),ee))/\
 (Ε aL aaG 204 λb0 aN=>Cj aN c a b<|Cj aN f d e<|gB a b bX bY aN λef eg eh=>iw [Β aI,Β aJ] eh b0 0 λei=>iw [Β ef,Β eg] ei t 0 λej=>i ((b0,t,()),ej)))/\
 (Ε aK aaG 204 λb1 aO=>Cj aO c a b<|Cj aO f d e<|iJ h aO λek el b2=>Cj b2 c a b<|gB a b ek el b2 λem en eo=>iw [Β aI,Β aJ] eo b1 0 λep=>iw [Β em,Β en] ep t 0 λeq=>i ((b1,t,()),eq)))/\
 (Ε aa aaG 204 λb3 aP=>Cj aP c a b<|Cj aP f d e<|gB d e H I aP λer es b4=>Cj b4 c a b<|iJ h b4 λet eu b5=>Cj b5 c a b<|gB a b et eu b5 λev ew ex=>iw [Β er,Β es] ex b3 0 λey=>iw [Β ev,Β ew] ey t 0 λez=>i ((b3,t,()),ez))))/\
 (Ε w.drew aaG 204 λl ab=>Cj ab c a b<|Cj ab f d e<|(kK h ab λb6 b7 ac=>Cj ac c a b<|Cj ac f d e<|(gB d e b6 b7 ac λaQ aR aS=>Cj aS c a b<|(iJ h aS λb8 b9 aT=>Cj aT c a b<|(gB a b b8 b9 aT λeA eB eC=>Ε eC aaG 204 λca aU=>Cj aU c a b<|Cj aU f d e<|iw [Β aQ,Β aR] aU l 0 λeD=>iw [Β eA,Β eB] eD ca 0 λeE=>i ((l,ca,()),eE))/\
 (Ε aT aaG 204 λcb aV=>Cj aV c a b<|Cj aV f d e<|gB a b b8 b9 aV λeF eG eH=>iw [Β aQ,Β aR] eH l 0 λeI=>iw [Β eF,Β eG] eI cb 0 λeJ=>i ((l,cb,()),eJ)))/\
 (Ε aS aaG 204 λcc aW=>Cj aW c a b<|Cj aW f d e<|iJ h aW λeK eL cd=>Cj cd c a b<|gB a b eK eL cd λeM eN eO=>iw [Β aQ,Β aR] eO l 0 λeP=>iw [Β eM,Β eN] eP cc 0 λeQ=>i ((l,cc,()),eQ)))/\
 (Ε ac aaG 204 λce aX=>Cj aX c a b<|Cj aX f d e<|gB d e b6 b7 aX λeR eS cf=>Cj cf c a b<|iJ h cf λeT eU cg=>Cj cg c a b<|gB a b eT eU cg λeV eW eX=>iw [Β eR,Β eS] eX l 0 λeY=>iw [Β eV,Β eW] eY ce 0 λeZ=>i ((l,ce,()),eZ)))/\
 (Ε ab aaG 204 λch aY=>Cj aY c a b<|Cj aY f d e<|kK h aY λe0 e1 aZ=>Cj aZ c a b<|Cj aZ f d e<|gB d e e0 e1 aZ λe2 e3 ci=>Cj ci c a b<|iJ h ci λe4 e5 cj=>Cj cj c a b<|gB a b e4 e5 cj λe6 e7 e8=>iw [Β e2,Β e3] e8 l 0 λe9=>iw [Β e6,Β e7] e9 ch 0 λfa=>i ((l,ch,()),fa)))/\
 (Ε w.drew aaG 204 λm ad=>Cj ad c a b<|Cj ad f d e<|(kK h ad λck cl ae=>Cj ae c a b<|Cj ae f d e<|(gB d e ck cl ae λa3 a5 a6=>Cj a6 c a b<|(iJ h a6 λcm cn a8=>Cj a8 c a b<|(gB a b cm cn a8 λfb fc fd=>Ε fd aaG 204 λco a9=>Cj a9 c a b<|Cj a9 f d e<|iw [Β a3,Β a5] a9 co 0 λfe=>iw [Β fb,Β fc] fe m 0 λff=>i ((co,m,()),ff))/\
 (Ε a8 aaG 204 λcp ba=>Cj ba c a b<|Cj ba f d e<|gB a b cm cn ba λfg fh fi=>iw [Β a3,Β a5] fi cp 0 λfj=>iw [Β fg,Β fh] fj m 0 λfk=>i ((cp,m,()),fk)))/\
 (Ε a6 aaG 204 λcq bb=>Cj bb c a b<|Cj bb f d e<|iJ h bb λfl fm cr=>Cj cr c a b<|gB a b fl fm cr λfn fo fp=>iw [Β a3,Β a5] fp cq 0 λfq=>iw [Β fn,Β fo] fq m 0 λfr=>i ((cq,m,()),fr)))/\
 (Ε ae aaG 204 λcs bc=>Cj bc c a b<|Cj bc f d e<|gB d e ck cl bc λfs ft ct=>Cj ct c a b<|iJ h ct λfu fv cu=>Cj cu c a b<|gB a b fu fv cu λfw fx fy=>iw [Β fs,Β ft] fy cs 0 λfz=>iw [Β fw,Β fx] fz m 0 λfA=>i ((cs,m,()),fA)))/\
 (Ε ad aaG 204 λcv bd=>Cj bd c a b<|Cj bd f d e<|kK h bd λfB fC be=>Cj be c a b<|Cj be f d e<|gB d e fB fC be λfD fE cw=>Cj cw c a b<|iJ h cw λfF fG cx=>Cj cx c a b<|gB a b fF fG cx λfH fI fJ=>iw [Β fD,Β fE] fJ cv 0 λfK=>iw [Β fH,Β fI] fK m 0 λfL=>i ((cv,m,()),fL)))))):=χ Tryz.func351 (fQ (fQ (.join [(7,.addr),(8,.addr)] .leaf .leaf)))
theorem TI {b c w K}:gI (CG b c w K)
 (iW (S:=Int×Int×Unit) (λa d e=>(cond (decide (a.2.1>=64)) (0<=(6:Int)/\
 e ((ο.wrap (a.1+1)),(jH .i64 a.2.1 6),()) d) (K a.1 d))) (0,(Ue .i64 b c),()) w):=χ Tryz.func353 (fQ (fQ (.seq (fQ (.blk (.loop [(5,ν),(6,ν)] .leaf))) .leaf)))
theorem oN {c e w K}:gI (jq c e w K)
 (iW (S:=Int×Unit) (λb a h=>(cond (decide (b.1<(c.len:Int))) (iM c 3 b.1 λd=>fM a (d.add 0) λi=>fM a (d.add 1) λj=>fM a (d.add 2) λk=>jy υ [.one .bool] e [(Value.agg ⟨[Β i,Β j,Β k]⟩)] a λl f=>∃g:Bool,l=(Value.bool g)/\
 (cond g (K b.1 f) (h ((ο.wrap (b.1+1)),()) f))) (K (-1) a))) (0,()) w):=χ Tryz.func354 (fQ (.seq (fQ (.blk (.loop [(8,ν)] .leaf))) .leaf))
theorem OT {h b i e w K}:gI (um h b i e w K)
 (Ε w aeQ 524 λc j=>kT h 1 b (ο.wrap (b+e)) λk=>gK k j λf l=>lG ⟨none,0,0⟩ i e l λg m=>iw [Β b,Δ f,Δ g] m c 0 λd=>fM d (c.add 0) λn=>Ld .slice d (c.add 1) λo=>Ld .slice d (c.add 2) λp=>K n o p d):=χ Tryz.func355
theorem U5 {f g h w K}:gI (vS f g h w K)
 (gK f w λi p=>iW (S:=fU×fU×Int×Unit) (λb d q=>(cond (decide (b.2.2.1<(h.len:Int))) (iM h 3 b.2.2.1 λj=>fM d (j.add 0) λr=>Ld .slice d (j.add 1) λk=>Ld .slice d (j.add 2) λl=>Ε d aeQ 524 λc s=>iw [Β r,Δ k,Δ l] s c 0 λm=>fM m.drew c λt=>kT i 1 t (i.len:Int) λu=>Ld .slice m.drew (c.add 2) λv=>wL 1 u v m.drew λ _ n=>Ld .slice n.drew (c.add 1) λx=>Ld .slice n.drew (c.add 2) λe=>lK 5 1 1 [(Value.int .u8 0)] b.1 x n.drew λy o=>o.cell? (c.add 2)=some (Δ e)/\
 lK 5 1 1 [(Value.int .u8 0)] b.2.1 e o λz A=>q (y,z,(ο.wrap (b.2.2.1+1)),()) A) (tC f g 2 d λB _ C=>Ez B b.1 b.2.1 C λD E=>vH i g D 2 E λF _ G=>K F G))) (⟨none,0,0⟩,⟨none,0,0⟩,0,()) p):=χ Tryz.func356 (fQ (fQ (fQ (.seq (fQ (.blk (.loop [(8,.slice),(9,.slice),(18,ν)] .leaf))) .leaf))))
theorem FN {f g h i j k l m n o p q r w K}:gI (qN f g h i j k l m n o p q r w K)
 (Ε w (mP f g h i j k l m n o p q r) 443 λc b=>Al b (.map #[] 0) λ _ t=>og υ 3 (some b.heap.size) (Β 17) (Β 6) t λu=>og υ 3 (some b.heap.size) (Β 6) (Β 16) u λv=>og υ 3 (some b.heap.size) (Β 1) (Β 2) v λa=>fM a ((c.add 1).add 4) λx=>qG υ 3 ν (some b.heap.size) (Β x) (Β 0) a λd=>let e:Bool->b_:=λy s=>((cond y (K (-1) s) (K d s)))
 Ld .slice a ((c.add 1).add 10) λz=>(cond (decide ((ο.wrap (d+2))>(z.len:Int))) (e true a) (fM a ((c.add 1).add 4) λA=>(cond (A==17) (rV a c λB C D E F G H I J L M N O=>jJ B C D E F G H I J L M N O d a λP Q=>e (P==0) Q) (e false a))))):=χ Tryz.func357
theorem XI {c d a b w K}:gI (qK c d a b w K)
 (Ε w [Β c,Β d] 204 λe f=>iL (Β a)=true/\
 Ε f [Β a] 3 λg h=>iL (Β b)=true/\
 Ε h [Β b] 3 λi j=>K (Value.func (.func 365) #[] #[(Value.pointer (some g)),(Value.pointer (some e)),(Value.pointer (some i))]) j):=χ Tryz.func358
theorem Nl {d e f g w K}:gI (gB d e f g w K)
 (Ε w [Β d,Β e] 204 λh n=>Ε n [Β f,Β g] 204 λi o=>Ε o aaG 204 λb a=>fM a h λj=>fM a i λk=>fM a (h.add 1) λl=>fM a (i.add 1) λm=>iw [Β (if k>j then k else j),Β (if m<l then m else l)] a b 0 λc=>fM c (b.add 0) λp=>fM c (b.add 1) λq=>K p q c):=χ Tryz.func359
theorem UZ {d w K}:gI (kK d w K)
 (Ε w aaG 204 λa e=>(cond (decide (d<1024)) (iw [Β 0,Β 1023] e a 0 λb=>fM b (a.add 0) λf=>fM b (a.add 1) λg=>K f g b) (iw [Β 1024,Β 65535] e a 0 λc=>fM c (a.add 0) λh=>fM c (a.add 1) λi=>K h i c))):=χ Tryz.func360
theorem U0 {d w K}:gI (iJ d w K)
 (Ε w aaG 204 λa e=>(cond (decide (d<1024)) (kK 1024 e λf g h=>iw [Β f,Β g] h a 0 λb=>fM b (a.add 0) λi=>fM b (a.add 1) λj=>K i j b) (kK 0 e λk l m=>iw [Β k,Β l] m a 0 λc=>fM c (a.add 0) λn=>fM c (a.add 1) λo=>K n o c))):=χ Tryz.func361
theorem UY {b c d w K}:gI (qZ b c d w K)
 (Ε w [Β b,Β c] 204 λe a=>fM a e λf=>fM a e λg=>K (ο.wrap (f+(kF .i64 (Ue .i64 g d) 1))) a):=χ Tryz.func362
theorem Ve {c h d w K}:gI (Ez c h d w K)
 (let i:Bool->Prop:=λm=>((cond m (K 0 w) (Ε w [Δ d] 23 λn o=>Bl ⟨(some n),1,1⟩ o λp q=>Ε q [Β 0] 3 λe r=>St r e (Β (ο.wrap ((ο.wrap (65535 - c))+p))) λs=>Ea h s λt b=>yI υ none [.one ν,.one ν] t b (λf u g v=>g.heap[f]? =g.heap[f]? /\
 fM (gG g f) e λx=>St (gG g f) e (Β (ο.wrap (x+(ο.wrap (65535 - u.2.1))))) λy=>v .normal y)
 (λj=>fM j e λz=>EC z j λA k=>Η k b/\
 K (ο.wrap (65535 - A)) (Ζ k b))
 (λl=>Η l b/\
 K 0 (Ζ l b))
 [])))
 (cond (decide (c<0)) (i true) (i (decide (c>65535))))):=χ Tryz.func364 (fQ (fQ (fQ (.seq (fQ (.blk (.rng [.one ν,.one ν] .leaf .leaf))) .leaf))))
theorem S_ {a0 f0 f1 f2 w K}:gI (Ur a0 f0 f1 f2 w K)
 (fM w f0 λe=>iW (S:=Int×Unit) (λa b f=>fM b (f1.add 1) λg=>(cond (decide (a.1<=g)) (jy υ [.one .bool] a0 [(Β a.1)] b λh c=>∃d:Bool,h=(Value.bool d)/\
 (cond (!d) (K c) (fM c f2 λi=>f ((ο.wrap (a.1+i)),()) c))) (K b))) (e,()) w):=χ Tryz.func365 (fQ (.blk (.loop [(5,ν)] .leaf)))
end Go.Proofs
