import Derived.Test.YtlpncoeijhpddaaGreatDoorG27
set_option maxRecDepth 100000
set_option maxHeartbeats 4000000
namespace Go.Proofs
open Gp
theorem Qk {a0 f0 w K}:gV (Rw a0 f0 w K)
 (Ld .ptr w f0 λj=>mD j w λk c=>(cond (!k) (K c) (Ld .ptr c f0 λl=>Pt l λm=>Ld .slice c m λf=>iQ (S:=Int×Unit) (λd e n=>(cond (decide (d.1<(f.len:Int))) (iK f 9 d.1 λo=>akB e o λp q r s t u v x y=>Ε e (abE 0 0 0 0 0 0 0 false false) 225 λb z=>iE (abE p q r s t u v x y) z b 0 λa=>let g:Bool->b_:=λA h=>((cond A (K h) (n ((ο.wrap (d.1+1)),()) h)))
 Ld .bool a (b.add 8) λB=>(cond B (f_ a (b.add 0) λC=>f_ a (b.add 1) λD=>f_ a (b.add 2) λE=>f_ a (b.add 3) λF=>f_ a (b.add 4) λG=>f_ a (b.add 5) λH=>f_ a (b.add 6) λI=>Ld .bool a (b.add 7) λJ=>jF υ [.one .bool] a0 [(Β d.1),(Value.agg ⟨[Β C,Β D,Β E,Β F,Β G,Β H,Β I,.bool J]⟩)] a λL M=>∃i:Bool,L=(Value.bool i)/\
 g (!i) M) (g false a))) (K e))) (0,()) c))):=χ Tryz.func131 (gB (gB (.blk (.loop [(13,ν)] .leaf))))
theorem GX {h g w K}:gV (Hy h g w K)
 (Ld .ptr w g λm=>jA m w λn e=>(cond (!n) (K e) (Ld .ptr e g λo=>Pt o λp=>Ld .slice e p λi=>iQ (S:=Int×Unit) (λf a q=>(cond (decide (f.1<(i.len:Int))) (iK i 6 f.1 λd=>f_ a (d.add 0) λr=>f_ a (d.add 1) λs=>f_ a (d.add 2) λt=>f_ a (d.add 3) λu=>f_ a (d.add 4) λv=>Ld .bool a (d.add 5) λx=>Ε a anA 244 λc y=>iE [Β r,Β s,Β t,Β u,Β v,.bool x] y c 0 λb=>let j:Bool->b_:=λz k=>((cond z (K k) (q ((ο.wrap (f.1+1)),()) k)))
 Ld .bool b (c.add 5) λA=>(cond A (f_ b (c.add 0) λB=>f_ b (c.add 1) λC=>f_ b (c.add 2) λD=>f_ b (c.add 3) λE=>f_ b (c.add 4) λF=>jF υ [.one .bool] h [(Β f.1),(Value.agg ⟨[Β B,Β C,Β D,Β E,Β F]⟩)] b λG H=>∃l:Bool,G=(Value.bool l)/\
 j (!l) H) (j false b))) (K a))) (0,()) e))):=χ Tryz.func132 (gB (gB (.blk (.loop [(13,ν)] .leaf))))
theorem GY {a w K}:gV (jA a w K)
 (let b:Bool->Prop:=λc=>(K c w)
 (cond (!(Option.isNone a)) (Pt a λd=>Ld .ptr w (d.add 1) λe=>b (!(Option.isNone e))) (b false))):=χ Tryz.func133
theorem LU {d w K}:gV (wE d w K)
 (iQ (S:=Int×Unit) (λa e g=>(cond (decide (a.1<7)) (Pt d λh=>f_ e (h.add 449) λi=>0<=(ο.wrap (6 * a.1))/\
 iQ (S:=Int×Unit) (λb c j=>(cond (decide (b.1<64)) (Pt d λk=>(0:Int)<=a.1/\a.1<(7:Int)/\
 (0:Int)<=b.1/\b.1<(64:Int)/\
 Ld .slice c ((k.add (Int.toNat a.1 * 64)).add (Int.toNat b.1 * 1)) λf=>(cond (decide ((f.len:Int)>0)) (jY f (Value.func (.func 225) #[] #[]) c λ _ l _ m=>K l true m) (j ((ο.wrap (b.1+1)),()) c))) (g ((ο.wrap (a.1+1)),()) c))) ((lZ .i64 (jR .i64 i (ο.wrap (6 * a.1))) 63),()) e) (K 0 false e))) (0,()) w):=χ Tryz.func134 (gB (.seq (gB (.blk (.loop [(8,ν)] (gB (gB (.seq (.blk (gB (gB (gB (.blk (.loop [(6,ν)] .leaf)))))) .leaf)))))) .leaf))
theorem Ig {c b w K}:gV (oZ c b w K)
 (Pt c λk=>f_ w (k.add 449) λl=>zA l b w λm n=>iQ (S:=gG×Int×Unit) (λa g o=>(cond (decide (a.2.1>0)) (0<=(ο.wrap (6 * a.2.1))/\
 Pt c λj=>(0:Int)<=a.2.1/\a.2.1<(7:Int)/\
 (0:Int)<=(lZ .i64 (jR .i64 b (ο.wrap (6 * a.2.1))) 63)/\(lZ .i64 (jR .i64 b (ο.wrap (6 * a.2.1))) 63)<(64:Int)/\
 Pt (some ((j.add (Int.toNat a.2.1 * 64)).add (Int.toNat (lZ .i64 (jR .i64 b (ο.wrap (6 * a.2.1))) 63) * 1))) λp=>Ld .slice g.drew p λq=>nH 335 3 24 [(Β 0),(Β 0),(Β 0)] a.1 q g.drew λr s=>Pt (some ((j.add (Int.toNat a.2.1 * 64)).add (Int.toNat (lZ .i64 (jR .i64 b (ο.wrap (6 * a.2.1))) 63) * 1))) λt=>St s t (.slice none 0 0) λu=>o (r,(ο.wrap (a.2.1 - 1)),()) u) (Pt c λv=>St g (v.add 449) (Β b) λx=>iQ (S:=Int×Unit) (λh d y=>(cond (decide (h.1<(a.1.len:Int))) (iK a.1 3 h.1 λi=>f_ d (i.add 0) λz=>f_ d (i.add 1) λA=>f_ d (i.add 2) λB=>Ε d anm 335 λe C=>iE [Β z,Β A,Β B] C e 0 λf=>f_ f (e.add 0) λD=>f_ f (e.add 1) λE=>f_ f (e.add 2) λF=>sO c D E F f λG=>y ((ο.wrap (h.1+1)),()) G) (K d))) (0,()) x))) (⟨none,0,0⟩,m,()) n):=χ Tryz.func135 (gB (.seq (gB (.blk (.loop [(4,.slice),(5,ν)] .leaf))) (gB (gB (.blk (.loop [(43,ν)] .leaf))))))
theorem NQ {g w K}:gV (xk g w K)
 (iP (Value.pointer g)=true/\
 Ε w [.pointer g] 78 λb e=>Ld .ptr e.drew b λp=>Ld .ptr e.drew b λq=>Pt q λr=>f_ e.drew (r.add 449) λs=>oD p s e.drew λh m=>Pt h λt=>Ld .slice m t λu=>j_ u m λv x=>iR v (Value.func (.func 231) #[] #[(Value.pointer (some b))]) x λi n=>Pt h λy=>Ld .slice n y λz=>iR z (Value.func (.func 232) #[] #[(Value.pointer (some b))]) n λj A=>Pt h λB=>St A B (Δ j) λC=>jk i (Value.func (.func 234) #[] #[]) C λD=>iQ (S:=gG×Int×Unit) (λc d E=>(cond (decide (c.2.1<(i.len:Int))) (iK i 3 c.2.1 λk=>f_ d (k.add 0) λF=>f_ d (k.add 1) λG=>f_ d (k.add 2) λH=>Ε d anm 335 λl I=>iE [Β F,Β G,Β H] I l 0 λf=>Ld .ptr f.drew b λJ=>Pt J λL=>Ld .map f.drew (L.add 448) λM=>f_ f.drew l λN=>FB υ 3 M (Β N) f.drew λo=>f_ o l λO=>Ε o [Β O] 3 λP Q=>nH 3 1 8 [(Β 0)] c.1 ⟨(some P),1,1⟩ Q λR T=>E (R,(ο.wrap (c.2.1+1)),()) T) (K c.1 d))) (⟨none,0,0⟩,0,()) D):=χ Tryz.func136 (gB (gB (gB (gB (gB (gB (.seq (gB (.blk (.loop [(5,.slice),(31,ν)] .leaf))) .leaf)))))))
theorem JD {b c w K}:gV (nM b c w K)
 (let d:Bool->b_:=λe f=>(K e f)
 jA b w λg a=>(cond g (cond (decide (c>=0)) (Pt b λh=>Ld .slice a h λi=>(cond (decide (c<(i.len:Int))) (Pt b λj=>Ld .slice a j λk=>iK k 6 c λl=>Ld .bool a (l.add 5) λm=>d m a) (d false a))) (d false a)) (d false a))):=χ Tryz.func137
theorem Jj {j o w K}:gV (nI j o w K)
 (iP (Value.pointer j)=true/\
 Ε w [.pointer j] 171 λa p=>Ld .ptr p a λy=>ou y p λz k=>(cond (!z) (K false k) (Ld .ptr k a λA=>jG A o k λq B h=>(cond (!B) (K false h) (Ld .ptr h a λC=>Pt C λD=>Ld .slice h D λE=>iK E 3 q λF=>iE [.string (bs []),Β 0,.bool false] h F 0 λl=>Ld .ptr l a λr=>Pt r λG=>f_ l (G.add 1) λH=>Pt r λI=>St l (I.add 1) (Β (ο.wrap (H - 1))) λi=>let s:List Nat->b_:=λJ L=>(wR J L λM=>K true M)
 Ld .ptr i.drew a λN=>Ld .ptr i.drew a λO=>Pt O λP=>Ld .slice i.drew P λt=>(t.len:Int)≠0/\
 sH N (Int.tmod (ο.wrap (q+1)) (t.len:Int)) i.drew λQ f=>xO υ none [.one ν] Q f (λb u c v=>c.heap[b]? =c.heap[b]? /\
 Ld .ptr (gQ c b) a λR=>Pt R λS=>Ld .slice (gQ c b) S λT=>iK T 3 u.1 λm=>Ld .str (gQ c b) (m.add 0) λU=>f_ (gQ c b) (m.add 1) λV=>Ld .bool (gQ c b) (m.add 2) λW=>Al (gQ c b) (.cells ⟨[.string (bs []),Β 0,.bool false]⟩ 346) λd X=>iE [.string U,Β V,.bool W] X d 0 λg=>Ld .bool g (d.add 2) λY=>(cond (!Y) (v (.exit 0) g) (Ld .ptr g a λZ=>Pt Z λaa=>Ld .slice g aa λab=>iK ab 3 u.1 λac=>iE [.string (bs []),Β 0,.bool false] g ac 0 λn=>Ld .ptr n a λad=>Ld .str n d λae=>jG ad ae n λaf _ e=>Ld .ptr e.drew a λag=>Pt ag λah=>Ld .slice e.drew ah λai=>Ld .str e.drew (d.add 0) λaj=>f_ e.drew (d.add 1) λak=>Ld .bool e.drew (d.add 2) λal=>iK ai 3 af λam=>iE [.string aj,Β ak,.bool al] e.drew am 0 λan=>v .normal an)))
 (λao=>s (f.heap.size::[]) ao)
 (λx=>Η x f/\
 K false (Ζ x f))
 [(0,(λap=>s (f.heap.size::[]) ap))]))))):=χ Tryz.func138 (gB (gB (gB (gB (gB (gB (gB (.seq (gB (.blk (.rng [.one ν] .leaf .leaf))) .leaf))))))))
theorem Vz {d e f w K}:gV (vN d e f w K)
 (Ε w [Β e,Β f] 107 λg c=>f_ c g λi=>f_ c (g.add 1) λj=>Ε c [Β d,Β i,Β j] 3 λk l=>iQ (S:=gG×Int×Unit) (λa b m=>(cond (decide (a.2.1<(3:Int))) (iK ⟨(some k),3,3⟩ 1 a.2.1 λn=>f_ b n λh=>0<=(32:Int)/\
 oP a.1 (lZ .i64 (jR .i64 h 32) 4294967295) 4 b λo p=>oP o (lZ .i64 h 4294967295) 4 p λq r=>m (q,(ο.wrap (a.2.1+1)),()) r) (Ih b a.1 λs=>K s b))) (⟨none,0,0⟩,0,()) l):=χ Tryz.func139 (gB (gB (.seq (gB (.blk (.loop [(5,.slice),(15,ν)] .leaf))) .leaf)))
theorem Ag {a c w K}:gV (nX a c w K)
 (ku a c w λd f=>(cond (d==(-1)) (K a f) (iQ (S:=Int×Int×Unit) (λb e k=>(cond (decide (b.2.1<(a.len:Int))) (let g:Int->b_:=λl m=>(k (l,(ο.wrap (b.2.1+1)),()) m)
 iK a 1 b.2.1 λn=>f_ e n λh=>jF υ [.one .bool] c [(Β h)] e λo i=>∃j:Bool,o=(Value.bool j)/\
 (cond (!j) (iK a 1 b.1 λp=>St i p (Β h) λq=>g (ο.wrap (b.1+1)) q) (g b.1 i))) (lG a 1 b.1 (a.len:Int) λr=>JX [(Β 0)] r e λs=>lG a 1 0 b.1 λt=>K t s))) (d,(ο.wrap (d+1)),()) f))):=χ Tryz.func140 (gB (gB (gB (.seq (gB (.blk (.loop [(5,ν),(6,ν)] .leaf))) .leaf))))
theorem CZ {a b w K}:gV (vM a b w K)
 (f_ w b λc=>K (a==c) w):=χ Tryz.func141
theorem OJ {a e w K}:gV (yh a e w K)
 (yV a e w λo f=>(cond (!o) (K false f) (Pt a λp=>Ld .slice f p λq=>iK q 9 e λr=>akB f r λs t u v x y z A B=>Ε f (abE 0 0 0 0 0 0 0 false false) 225 λb C=>iE (abE s t u v x y z A B) C b 0 λc=>Pt a λg=>Ld .ptr c.drew (g.add 1) λh=>f_ c.drew (b.add 0) λD=>f_ c.drew (b.add 1) λE=>f_ c.drew (b.add 2) λF=>f_ c.drew (b.add 3) λG=>rD D E F G c.drew λH i=>i.cell? (g.add 1)=some (.pointer h)/\
 nI h H i λ _ d=>Pt a λj=>Ld .ptr d.drew (j.add 2) λk=>f_ d.drew ((b.add 4).add 0) λI=>f_ d.drew ((b.add 4).add 1) λJ=>f_ d.drew ((b.add 4).add 2) λL=>rE I J L d.drew λM l=>l.cell? (j.add 2)=some (.pointer k)/\
 nI k M l λ _ m=>Pt a λN=>Ld .slice m N λO=>iK O 9 e λP=>iE (abE 0 0 0 0 0 0 0 false false) m P 0 λn=>Pt a λQ=>f_ n (Q.add 3) λR=>Pt a λS=>St n (S.add 3) (Β (ο.wrap (R - 1))) λT=>K true T))):=χ Tryz.func142
theorem O7 {d e f g w K}:gV (yA d e f g w K)
 (Ε w [Β e,Β f,Β g] 56 λb i=>let h:Bool->b_:=λj c=>((cond j (K false c) (Pt d λk=>Ld .map c.drew (k.add 3) λl=>f_ c.drew (b.add 0) λm=>f_ c.drew (b.add 1) λn=>f_ c.drew (b.add 2) λo=>FB υ 56 l (Value.agg ⟨[Β m,Β n,Β o]⟩) c.drew λp=>K true p)))
 kM d i.drew λq a=>(cond (!q) (h true a) (Pt d λr=>Ld .map a (r.add 3) λs=>f_ a (b.add 0) λt=>f_ a (b.add 1) λu=>f_ a (b.add 2) λv=>qF υ 56 .bool s (Value.agg ⟨[Β t,Β u,Β v]⟩) (Value.bool false) a λx=>h (!x) a))):=χ Tryz.func143
theorem LG {c d w K}:gV (wu c d w K)
 (pY c d w λb e a=>(cond (e !=0) (K e a) (Pt b λf=>f_ a f λg=>(cond (g==0) (K 8 a) (Pt b λh=>f_ a h λi=>Pt b λj=>St a j (Β (ο.wrap (i - 1))) λk=>K 0 k))))):=χ Tryz.func144
theorem aaH {a b c w K}:gV (iY a b c w K)
 (let d:Bool->Prop:=λe=>(K e w)
 (cond (decide (a>=b)) (d (decide (a<=c))) (d false))):=χ Tryz.func145
theorem Xy {b c d e f g h i j k l m n o p q w K}:gV (AA b c d e f g h i j k l m n o p q w K)
 (Ε w (og b c d e f g h i j k l m n o p q) 23 λr a=>let s:Bool->Prop:=λt=>(K t a)
 vI a r λu v x y z A B C D E F G H I J L=>(cond (!((u==0) && ((v==0) && ((x==0) && ((y==0) && ((z==0) && ((A==0) && ((B==0) && ((C==0) && ((D==0) && ((E==0) && ((F==0) && ((G==0) && ((H==0) && ((I==0) && ((J==0) && ((L==0) && true))))))))))))))))) ((0:Int)<=0/\0<(16:Int)/\
 Ld (.int .u8) a (r.add (Int.toNat 0 * 1)) λM=>s (M !=255)) (s false))):=χ Tryz.func146
theorem Xx {a w K}:gV (Az a w K)
 (let b:Bool->Prop:=λc=>(K c w)
 (cond (decide (a>=16777216)) (cond (decide (a<3758096384)) ((16777216:Int)≠0/\
 b ((ο.wrap (Int.tdiv a 16777216)) !=127)) (b false)) (b false))):=χ Tryz.func147
theorem Sj {i j k l m n o p q r s t u v x y z A B C D E F G H I J L M N O P Q R S T U V W X Y Z B6 w K}:gV (BN i j k l m n o p q r s t u v x y z A B C D E F G H I J L M N O P Q R S T U V W X Y Z B6 w K)
 (Ε w (jO i j k l m n o p q r s t u v x y z A B C D E F G H I J L M N O P Q R S T) 28 λa4 w3=>Ε w3 [Β U,Β V,Β W,Β X,Β Y,Β Z,Β B6] 70 λa d=>let f:Bool->Prop:=λj8=>(let J9:Bool->b_:=λaf b=>(let c:Bool->b_:=λag ah=>(K ag ah)
 (cond j8 (cond af (f_ b (a.add 4) λai=>f_ b (a.add 1) λaj=>(cond (ai==aj) (f_ b a λak=>Ld .slice b (a4.add 16) λal=>iY ak 0 (ο.wrap ((al.len:Int) - 1)) b λam g=>(cond am (f_ g (a.add 2) λan=>Az an g λao e=>(cond ao (tC e a4 λap aq ar au av aw ax ay az aA aB aC aD aE aF aG aH aI aJ aK aL aM aN aO aP aQ aR aS aT aU aV aW aX aY aZ a0=>f_ e ((a.add 4).add 1) λa1=>Gj ap aq ar au av aw ax ay az aA aB aC aD aE aF aG aH aI aJ aK aL aM aN aO aP aQ aR aS aT aU aV aW aX aY aZ a0 a1 e λa2 a3=>c a2 a3) (c false e))) (c false g))) (c false b))) (c false b)) (c false b)))
 f_ d (a.add 3) λa5=>iY a5 0 65535 d λa7 h=>(cond a7 (f_ h ((a.add 4).add 2) λa8=>iY a8 0 65535 h λa9 ba=>J9 a9 ba) (J9 false h)))
 f_ d (a.add 1) λbb=>(cond (bb==1) (f true) (f_ d (a.add 1) λbc=>(cond (bc==6) (f true) (f_ d (a.add 1) λbd=>f (bd==17)))))):=χ Tryz.func148
theorem OO {A0 A1 A2 A3 A4 A5 A6 A7 A8 A9 u I J N O R w K}:gV (PK A0 A1 A2 A3 A4 A5 A6 A7 A8 A9 u I J N O R w K)
 (Ε w (og A0 A1 A2 A3 A4 A5 A6 A7 A8 A9 u I J N O R) 23 λb a=>vI a b λc d e f g h i j k l m n o p q r=>Gl c d e f g h i j k l m n o p q r a λs t=>K (!s) t):=χ Tryz.func149
theorem aaI {b c d e f g h i j k l m n o p q w K}:gV (Gl b c d e f g h i j k l m n o p q w K)
 (Ε w (og b c d e f g h i j k l m n o p q) 23 λr t=>Ε t (og 0 0 0 0 0 0 0 0 0 0 0 0 0 0 0 0) 23 λu a=>let s:Bool->Prop:=λv=>(K v a)
 vI a r λx y z A B C D E F G H I J L M N=>vI a u λO P Q R S T U V W X Y Z aa ab ac ad=>(cond (!((x==O) && ((y==P) && ((z==Q) && ((A==R) && ((B==S) && ((C==T) && ((D==U) && ((E==V) && ((F==W) && ((G==X) && ((H==Y) && ((I==Z) && ((J==aa) && ((L==ab) && ((M==ac) && ((N==ad) && true))))))))))))))))) ((0:Int)<=0/\0<(16:Int)/\
 Ld (.int .u8) a (r.add (Int.toNat 0 * 1)) λae=>s (ae !=255)) (s false))):=χ Tryz.func150
theorem OQ {a0 w K}:gV (PS a0 w K)
 (tH a0 w λa b=>K (!a) b):=χ Tryz.func151
theorem OT {A0 A1 A2 A3 A4 A5 A6 f0 w K}:gV (PU A0 A1 A2 A3 A4 A5 A6 f0 w K)
 (Ε w [Β A0,Β A1,Β A2,Β A3,Β A4,Β A5,Β A6] 70 λb a=>tC a f0 λc d e f g h i j k l m n o p q r s t u v x y z A B C D E F G H I J L M N=>f_ a (b.add 0) λO=>f_ a (b.add 1) λP=>f_ a (b.add 2) λQ=>f_ a (b.add 3) λR=>f_ a (b.add 4) λS=>f_ a (b.add 5) λT=>f_ a (b.add 6) λU=>D9 c d e f g h i j k l m n o p q r s t u v x y z A B C D E F G H I J L M N O P Q R S T U a λV W=>K (!V) W):=χ Tryz.func152
theorem U5 {g h i j k l m n o p q r s t u v x y z A B C D E F G H I J L M N O P Q R S T U V W X Y w K}:gV (D9 g h i j k l m n o p q r s t u v x y z A B C D E F G H I J L M N O P Q R S T U V W X Y w K)
 (Ε w (jO g h i j k l m n o p q r s t u v x y z A B C D E F G H I J L M N O P Q R) 28 λZ w3=>Ε w3 [Β S,Β T,Β U,Β V,Β W,Β X,Β Y] 70 λa w5=>let J7:Bool->b_:=λj8 w9=>(let ad:Bool->b_:=λai ae=>(let af:Bool->b_:=λaj b=>(let c:Bool->b_:=λak al=>(K ak al)
 (cond j8 (cond ai (cond aj (f_ b a λam=>Ld .slice b (Z.add 16) λan=>lH am 0 (ο.wrap ((an.len:Int) - 1)) b λao ap=>c ao ap) (c false b)) (c false b)) (c false b)))
 f_ ae (a.add 1) λaq=>BD aq ae λar d=>(cond ar (f_ d (a.add 1) λau=>f_ d (a.add 4) λav=>af (au==av) d) (af false d)))
 f_ w9 (a.add 2) λaw=>tH aw w9 λax e=>(cond ax (Ld .slice e (Z.add 17) λay=>f_ e ((a.add 4).add 1) λaz=>jd ay az e λaA aB=>ad aA aB) (ad false e)))
 f_ w5 (a.add 3) λaC=>lH aC 0 65535 w5 λaD f=>(cond aD (f_ f ((a.add 4).add 2) λaE=>lH aE 0 65535 f λaF aG=>J7 aF aG) (J7 false f))):=χ Tryz.func153
theorem uf {a b w K}:gV (kH a b w K)
 (kX a b w λc d=>K (decide (c>=0)) d):=χ Tryz.func154
theorem yL {a b w K}:gV (kN a b w K)
 (ku a b w λc d=>K (decide (c>=0)) d):=χ Tryz.func155
theorem qx {a b w K}:gV (jI a b w K)
 (jX a b w λc d=>K (decide (c>=0)) d):=χ Tryz.func156
theorem xR {b w K}:gV (kF b w K)
 ((cond (Option.isNone b.a) (K ⟨none,0,0⟩ w) (Ε w [] 23 λc d=>nH 23 16 16 (og 0 0 0 0 0 0 0 0 0 0 0 0 0 0 0 0) ⟨(some c),0,0⟩ b d λe f=>K e f))):=χ Tryz.func157
theorem KZ {e f g h i j k w K}:gV (Bv e f g h i j k w K)
 (Ε w [Β e,Β f,Β g,Β h,Β i,Β j,Β k] 70 λd l=>Ε l anw 54 λa b=>f_ b (d.add 0) λm=>f_ b (d.add 1) λn=>f_ b (d.add 2) λo=>f_ b (d.add 3) λp=>iE [Β m,Β n,Β o,Β p] b a 0 λc=>f_ c (a.add 0) λq=>f_ c (a.add 1) λr=>f_ c (a.add 2) λs=>f_ c (a.add 3) λt=>K q r s t c):=χ Tryz.func158
theorem K_ {e f g h i j k w K}:gV (Bz e f g h i j k w K)
 (Ε w [Β e,Β f,Β g,Β h,Β i,Β j,Β k] 70 λd l=>Ε l anm 56 λa b=>f_ b ((d.add 4).add 0) λm=>f_ b ((d.add 4).add 1) λn=>f_ b ((d.add 4).add 2) λo=>iE [Β m,Β n,Β o] b a 0 λc=>f_ c (a.add 0) λp=>f_ c (a.add 1) λq=>f_ c (a.add 2) λr=>K p q r c):=χ Tryz.func159
theorem EY {j w K}:gV (qH j w K)
 (Ε w [.bool false] 4 λe k=>Al k (.map #[] 0) λ _ n=>Ε n [.map none] 364 λf o=>St o f (.map (some k.heap.size)) λd=>xO υ none [.agg TF] j d (λb a l m=>Ε l (og 0 0 0 0 0 0 0 0 0 0 0 0 0 0 0 0) 23 λg p=>iE (og a.1.1 a.1.2.1 a.1.2.2.1 a.1.2.2.2.1 a.1.2.2.2.2.1 a.1.2.2.2.2.2.1 a.1.2.2.2.2.2.2.1 a.1.2.2.2.2.2.2.2.1 a.1.2.2.2.2.2.2.2.2.1 a.1.2.2.2.2.2.2.2.2.2.1 a.1.2.2.2.2.2.2.2.2.2.2.1 a.1.2.2.2.2.2.2.2.2.2.2.2.1 a.1.2.2.2.2.2.2.2.2.2.2.2.2.1 a.1.2.2.2.2.2.2.2.2.2.2.2.2.2.1 a.1.2.2.2.2.2.2.2.2.2.2.2.2.2.2.1 a.1.2.2.2.2.2.2.2.2.2.2.2.2.2.2.2.1) p g 0 λc=>c.heap[b]? =l.heap[b]? /\
 Ld .map (gQ c b) f λq=>vI (gQ c b) g λr s t u v x y z A B C D E F G H=>qF υ 23 .bool q (Value.agg ⟨og r s t u v x y z A B C D E F G H⟩) (Value.bool false) (gQ c b) λI=>(cond I (St (gQ c b) e (Value.bool true) λJ=>m .ret J) (Ld .map (gQ c b) f λL=>vI (gQ c b) g λM N O P Q R S T U V W X Y Z aa ab=>pq υ 23 L (Value.agg ⟨og M N O P Q R S T U V W X Y Z aa ab⟩) (Value.bool true) (gQ c b) λac=>m .normal ac)))
 (λad=>St ad e (.bool false) λh=>Η h d/\
 Ld .bool (Ζ h d) e λae=>K ae (Ζ h d))
 (λi=>Η i d/\
 Ld .bool (Ζ i d) e λaf=>K af (Ζ i d))
 []):=χ Tryz.func160 (gB (gB (.seq (gB (.blk (.rng [.agg TF] .leaf .leaf))) .leaf)))
theorem yI {b c w K}:gV (mZ b c w K)
 (iP (Δ b)=true/\
 Ε w [Δ b] 24 λd e=>iP c=true/\
 Ε e [c] 263 λf g=>K (Value.func (.func 242) #[] #[(Value.pointer (some d)),(Value.pointer (some f))]) g):=χ Tryz.func161
theorem Ez {a b c d e f g h i j k l m n o p w K}:gV (wJ a b c d e f g h i j k l m n o p w K)
 (Ε w (og a b c d e f g h i j k l m n o p) 23 λt u=>Ε u (og 0 0 0 0 0 0 0 0 0 0 0 0 0 0 0 0) 23 λq r=>vI r t λv x y z A B C D E F G H I J L M=>iE (og v x y z A B C D E F G H I J L M) r q 0 λs=>vI s q λN O P Q R S T U V W X Y Z aa ab ac=>K N O P Q R S T U V W X Y Z aa ab ac s):=χ Tryz.func162
theorem Le {h w K}:gV (vX h w K)
 (Ε w [.bool false] 4 λd i=>Al i (.map #[] 0) λ _ l=>Ε l [.map none] 365 λe m=>St m e (.map (some i.heap.size)) λa=>xO υ none [.one ν] h a (λb j c k=>c.heap[b]? =c.heap[b]? /\
 Ld .map (gQ c b) e λn=>qF υ 3 .bool n (Β j.1) (Value.bool false) (gQ c b) λo=>(cond o (St (gQ c b) d (Value.bool true) λp=>k .ret p) (Ld .map (gQ c b) e λq=>pq υ 3 q (Β j.1) (Value.bool true) (gQ c b) λr=>k .normal r)))
 (λs=>St s d (.bool false) λf=>Η f a/\
 Ld .bool (Ζ f a) d λt=>K t (Ζ f a))
 (λg=>Η g a/\
 Ld .bool (Ζ g a) d λu=>K u (Ζ g a))
 []):=χ Tryz.func163 (gB (gB (.seq (gB (.blk (.rng [.one ν] .leaf .leaf))) .leaf)))
theorem Gz {b c w K}:gV (rX b c w K)
 (iP (Δ b)=true/\
 Ε w [Δ b] 25 λd e=>iP c=true/\
 Ε e [c] 65 λf g=>K (Value.func (.func 243) #[] #[(Value.pointer (some d)),(Value.pointer (some f))]) g):=χ Tryz.func164
theorem Ji {a0 w K}:gV (KO a0 w K)
 (K a0 w):=χ Tryz.func165
theorem CX {j w K}:gV (pz j w K)
 (Ε w [.bool false] 4 λe k=>Al k (.map #[] 0) λ _ n=>Ε n [.map none] 366 λg o=>St o g (.map (some k.heap.size)) λd=>xO υ none [.agg [ν,ν,ν,ν]] j d (λa f l m=>Ε l anw 54 λc p=>iE [Β f.1.1,Β f.1.2.1,Β f.1.2.2.1,Β f.1.2.2.2.1] p c 0 λb=>b.heap[a]? =l.heap[a]? /\
 Ld .map (gQ b a) g λq=>f_ (gQ b a) (c.add 0) λr=>f_ (gQ b a) (c.add 1) λs=>f_ (gQ b a) (c.add 2) λt=>f_ (gQ b a) (c.add 3) λu=>qF υ 54 .bool q (Value.agg ⟨[Β r,Β s,Β t,Β u]⟩) (Value.bool false) (gQ b a) λv=>(cond v (St (gQ b a) e (Value.bool true) λx=>m .ret x) (Ld .map (gQ b a) g λy=>f_ (gQ b a) (c.add 0) λz=>f_ (gQ b a) (c.add 1) λA=>f_ (gQ b a) (c.add 2) λB=>f_ (gQ b a) (c.add 3) λC=>pq υ 54 y (Value.agg ⟨[Β z,Β A,Β B,Β C]⟩) (Value.bool true) (gQ b a) λD=>m .normal D)))
 (λE=>St E e (.bool false) λh=>Η h d/\
 Ld .bool (Ζ h d) e λF=>K F (Ζ h d))
 (λi=>Η i d/\
 Ld .bool (Ζ i d) e λG=>K G (Ζ i d))
 []):=χ Tryz.func166 (gB (gB (.seq (gB (.blk (.rng [.agg [ν,ν,ν,ν]] .leaf .leaf))) .leaf)))
theorem vP {b c w K}:gV (kV b c w K)
 (iP (Δ b)=true/\
 Ε w [Δ b] 26 λd e=>iP c=true/\
 Ε e [c] 257 λf g=>K (Value.func (.func 244) #[] #[(Value.pointer (some d)),(Value.pointer (some f))]) g):=χ Tryz.func167
theorem CY {j w K}:gV (pF j w K)
 (Ε w [.bool false] 4 λe k=>Al k (.map #[] 0) λ _ n=>Ε n [.map none] 163 λf o=>St o f (.map (some k.heap.size)) λc=>xO υ none [.agg [ν,ν,ν]] j c (λa g l m=>Ε l anm 56 λd p=>iE [Β g.1.1,Β g.1.2.1,Β g.1.2.2.1] p d 0 λb=>b.heap[a]? =l.heap[a]? /\
 Ld .map (gQ b a) f λq=>f_ (gQ b a) (d.add 0) λr=>f_ (gQ b a) (d.add 1) λs=>f_ (gQ b a) (d.add 2) λt=>qF υ 56 .bool q (Value.agg ⟨[Β r,Β s,Β t]⟩) (Value.bool false) (gQ b a) λu=>(cond u (St (gQ b a) e (Value.bool true) λv=>m .ret v) (Ld .map (gQ b a) f λx=>f_ (gQ b a) (d.add 0) λy=>f_ (gQ b a) (d.add 1) λz=>f_ (gQ b a) (d.add 2) λA=>pq υ 56 x (Value.agg ⟨[Β y,Β z,Β A]⟩) (Value.bool true) (gQ b a) λB=>m .normal B)))
 (λC=>St C e (.bool false) λh=>Η h c/\
 Ld .bool (Ζ h c) e λD=>K D (Ζ h c))
 (λi=>Η i c/\
 Ld .bool (Ζ i c) e λE=>K E (Ζ i c))
 []):=χ Tryz.func168 (gB (gB (.seq (gB (.blk (.rng [.agg [ν,ν,ν]] .leaf .leaf))) .leaf)))
theorem vS {b c w K}:gV (kW b c w K)
 (iP (Δ b)=true/\
 Ε w [Δ b] 26 λd e=>iP c=true/\
 Ε e [c] 258 λf g=>K (Value.func (.func 245) #[] #[(Value.pointer (some d)),(Value.pointer (some f))]) g):=χ Tryz.func169
theorem La {a0 f0 w K}:gV (MQ a0 f0 w K)
 (f_ w (f0.add 20) λa=>K (decide (a0>a)) w):=χ Tryz.func170
theorem MB {a w K}:gV (mX a w K)
 (let b:Bool->Prop:=λc=>(K c w)
 (cond (decide (a>=0)) (b (decide (a<4294967296))) (b false))):=χ Tryz.func171
theorem Q_ {f b w K}:gV (TW f b w K)
 (iQ (S:=Int×Unit) (λc a i=>(cond (decide (c.1<(b.len:Int))) (iK b 2 c.1 λg=>f_ a (g.add 0) λj=>f_ a (g.add 1) λk=>Ε a anl 278 λd l=>iE [Β j,Β k] l d 0 λe=>f_ e (d.add 0) λm=>f_ e (d.add 1) λn=>yu m n f e λo h=>(cond o (K true h) (i ((ο.wrap (c.1+1)),()) h))) (K false a))) (0,()) w):=χ Tryz.func172 (gB (.seq (gB (.blk (.loop [(9,ν)] .leaf))) .leaf))
theorem wM {c d w K}:gV (nY c d w K)
 (iQ (S:=Int×Unit) (λa b e=>(cond (decide (a.1<(c.len:Int))) (iK c 1 a.1 λf=>f_ b f λg=>(cond (d==g) (K a.1 b) (e ((ο.wrap (a.1+1)),()) b))) (K (-1) b))) (0,()) w):=χ Tryz.func173 (gB (.seq (gB (.blk (.loop [(8,ν)] .leaf))) .leaf))
theorem ZF {a w K}:gV (Dk a w K)
 (let b:Bool->Prop:=λc=>(K c w)
 (cond (decide (a>=0)) (b (decide (a<=65535))) (b false))):=χ Tryz.func174
theorem Qm {c d e f w K}:gV (rD c d e f w K)
 (Ε w [Β c,Β d,Β e,Β f] 54 λb a=>f_ a b λg=>f_ a (b.add 1) λh=>f_ a (b.add 2) λi=>f_ a (b.add 3) λj=>Ε a [Β g,Β h,Β i,Β j] 3 λk l=>FP ⟨(some k),4,4⟩ l λm n=>K m n):=χ Tryz.func175
theorem Pe {b c w K}:gV (pY b c w K)
 (let d:Bool->Prop:=λf=>((cond f (K none 2 w) (let e:Bool->Prop:=λg=>((cond g (K none 1 w) (Pt b λh=>Ld .slice w h λi=>iK i 2 c λj=>K (some j) 0 w)))
 (cond (decide (c<0)) (e true) (Pt b λk=>Ld .slice w k λl=>e (decide (c>=(l.len:Int))))))))
 (cond (Option.isNone b) (d true) (Pt b λm=>Ld .slice w m λn=>d (Option.isNone n.a)))):=χ Tryz.func176
theorem U2 {a w K}:gV (D7 a w K)
 (mD a w λc b=>(cond (!c) (K 0 b) (Pt a λd=>f_ b (d.add 3) λe=>K e b))):=χ Tryz.func177
theorem LJ {b c w K}:gV (wz b c w K)
 (Ε w [Β b,Β c] 170 λd a=>f_ a d λe=>f_ a (d.add 1) λf=>K (decide (e>=f)) a):=χ Tryz.func178
theorem MC {a w K}:gV (uq a w K)
 (let b:Bool->Prop:=λc=>((cond c (K true w) (K false w)))
 (cond (a==1) (b (a==1)) (cond (a==6) (b (a==6)) (b (a==17))))):=χ Tryz.func179
theorem RI {c w K}:gV (Bl c w K)
 (Pt c λd=>Ld .slice w d λe=>iQ (S:=Int×Unit) (λb a f=>(cond (decide (b.1<(e.len:Int))) (Pt c λg=>Ld .slice a g λh=>iK h 9 b.1 λi=>Ld .bool a (i.add 8) λj=>(cond (!j) (K b.1 true a) (f ((ο.wrap (b.1+1)),()) a))) (K 0 false a))) (0,()) w):=χ Tryz.func180 (gB (.seq (gB (.blk (.loop [(10,ν)] .leaf))) .leaf))
theorem OY {a c d w K}:gV (pX a c d w K)
 (ou a w λh e=>(cond (!h) (K 2 e) (jG a c e λi j b=>(cond j (Pt a λk=>Ld .slice b k λl=>iK l 3 i λm=>St b (m.add 1) (Β d) λn=>K 0 n) (Pt a λo=>f_ b.drew (o.add 1) λp=>Pt a λq=>f_ b.drew (q.add 2) λr=>(cond (decide (p>=r)) (K 7 b.drew) (wU a b.drew λs=>jG a c s λt _ f=>Pt a λu=>Ld .slice f u λv=>iK v 3 t λx=>iE [.string c,Β d,.bool true] f x 0 λg=>Pt a λy=>f_ g (y.add 1) λz=>Pt a λA=>St g (A.add 1) (Β (ο.wrap (z+1))) λB=>K 0 B))))))):=χ Tryz.func181
theorem Lu {a0 f0 f1 w K}:gV (MR a0 f0 f1 w K)
 (iP a0=true/\
 Ε w [a0] 241 λn f=>Ld .ptr f f0 λo=>Pt o λp=>Ld .ptr f (p.add 2) λq=>yU q f λr e=>xO υ none [.one ν,.agg [ν,ν,ν,ν,ν,ν,ν,.bool]] r e (λa d g h=>Ε g anp 58 λc s=>iE [Β d.2.1.1,Β d.2.1.2.1,Β d.2.1.2.2.1,Β d.2.1.2.2.2.1,Β d.2.1.2.2.2.2.1,Β d.2.1.2.2.2.2.2.1,Β d.2.1.2.2.2.2.2.2.1,.bool d.2.1.2.2.2.2.2.2.2.1] s c 0 λb=>b.heap[a]? =g.heap[a]? /\
 let i:Bool->b_:=λt j=>((cond t (h .ret j) (h .normal j)))
 f_ (gQ b a) c λu=>f_ (gQ b a) f1 λv=>(cond (u==v) (Ld .any (gQ b a) n λx=>f_ (gQ b a) (c.add 0) λy=>f_ (gQ b a) (c.add 1) λz=>f_ (gQ b a) (c.add 2) λA=>f_ (gQ b a) (c.add 3) λB=>f_ (gQ b a) (c.add 4) λC=>f_ (gQ b a) (c.add 5) λD=>f_ (gQ b a) (c.add 6) λE=>Ld .bool (gQ b a) (c.add 7) λF=>jF υ [.one .bool] x [(Β d.1),(Value.agg ⟨[Β y,Β z,Β A,Β B,Β C,Β D,Β E,.bool F]⟩)] (gQ b a) λG H=>∃k:Bool,G=(Value.bool k)/\
 i (!k) H) (i false (gQ b a))))
 (λl=>Η l e/\
 K (Ζ l e))
 (λm=>Η m e/\
 K (Ζ m e))
 []):=χ Tryz.func182 (gB (gB (.blk (.rng [.one ν,.agg [ν,ν,ν,ν,ν,ν,ν,.bool]] .leaf .leaf))))
theorem H6 {a b w K}:gV (oU a b w K)
 (Pt a λd=>Ld .ptr w (d.add 3) λe=>nU e b w λ _ c=>Pt a λf=>Ld .ptr c (f.add 4) λg=>tY g b c λ _ h=>K h):=χ Tryz.func183
theorem aeM {a w K}:gV (zO a w K)
 (sK a false w λb c=>K (!b) c):=χ Tryz.func184
theorem acy {b a w K}:gV (lU b a w K)
 (let c:Bool->b_:=λe f=>(K e f)
 FN a w λg d=>(cond g (cond (decide (b>=0)) (0<=(ο.wrap (8 * a))/\
 c ((jR .i64 b (ο.wrap (8 * a)))==0) d) (c false d)) (c false d))):=χ Tryz.func185
theorem acD {e f g h i j k l m n o w K}:gV (PW e f g h i j k l m n o w K)
 (Ε w (gX e f g h i j k l m n o) 41 λc d=>iG d.drew c λq r s t u v x y z A B=>Ld .slice d.drew (c.add 10) λb=>J5 q r s t u v x y z A B d.drew λC p=>p.cell? (c.add 10)=some (Δ b)/\
 K (ο.wrap (C+(b.len:Int))) p):=χ Tryz.func186
theorem ZR {a w K}:gV (zN a w K)
 (J3 a w λb c=>K (b==65535) c):=χ Tryz.func187
theorem aeI {c d e w K}:gV (zL c d e w K)
 (Dj c d e w λf g h=>iQ (S:=Int×Int×Unit) (λa b i=>(cond (decide (a.2.1<(f.len:Int))) (iK f 1 a.2.1 λj=>Ld (.int .u8) b j λk=>0<=(8:Int)/\
 i ((orI .i64 (LX .i64 a.1 8) (ο.wrap k)),(ο.wrap (a.2.1+1)),()) b) (K a.1 g b))) (0,0,()) h):=χ Tryz.func188 (gB (gB (gB (.seq (gB (.blk (.loop [(10,ν),(22,ν)] .leaf))) .leaf))))
theorem C_ {b w K}:gV (iD b w K)
 ((cond (Option.isNone b.a) (K ⟨none,0,0⟩ w) (Ε w [] 5 λc d=>nH 5 1 1 [(Value.int .u8 0)] ⟨(some c),0,0⟩ b d λe f=>K e f))):=χ Tryz.func189
theorem aay {a b w K}:gV (FU a b w K)
 (jd b a w λc d=>K c d):=χ Tryz.func190
theorem Xr {d w K}:gV (wZ d w K)
 (Ε w (oI ⟨none,0,0⟩ 0 0 0 0 0 0 0 false false ⟨none,0,0⟩ ⟨none,0,0⟩ 0) 294 λa v=>IL d v λx y z A B C D E F G H e I=>Ε I ξ 41 λc J=>iE (gX x y z A B C D E F G H) J c 0 λb=>(cond (e !=0) (iE (oI ⟨none,0,0⟩ 0 0 0 0 0 0 0 false false ⟨none,0,0⟩ ⟨none,0,0⟩ 0) b a 0 λf=>uN f a λL M N O P Q R S T U V W X=>K L M N O P Q R S T U V W X e f) (f_ b (c.add 2) λY=>(cond (decide (Y>0)) (iE (oI ⟨none,0,0⟩ 0 0 0 0 0 0 0 false false ⟨none,0,0⟩ ⟨none,0,0⟩ 0) b a 0 λg=>uN g a λZ aa ab ac ad ae af ag ah ai aj ak al=>K Z aa ab ac ad ae af ag ah ai aj ak al 4 g) (Ld .slice b (c.add 10) λam=>(cond (decide ((am.len:Int)<8)) (iE (oI ⟨none,0,0⟩ 0 0 0 0 0 0 0 false false ⟨none,0,0⟩ ⟨none,0,0⟩ 0) b a 0 λh=>uN h a λan ao ap aq ar au av aw ax ay az aA aB=>K an ao ap aq ar au av aw ax ay az aA aB 3 h) (iG b.drew c λi j k l m n o p q r s=>iG b.drew c λaC aD aE aF aG aH aI aJ aK aL aM=>J5 aC aD aE aF aG aH aI aJ aK aL aM b.drew λaN t=>WB (gX i j k l m n o p q r s) t c 0 (
 iE (oI d i j k l m n o p q r s aN) t a 0 λu=>uN u a λaO aP aQ aR aS aT aU aV aW aX aY aZ a1=>K aO aP aQ aR aS aT aU aV aW aX aY aZ a1 0 u)))))))):=χ Tryz.func191
theorem H9 {k l m n o p q r s t u v x w K}:gV (tV k l m n o p q r s t u v x w K)
 (Ε w (oI k l m n o p q r s t u v x) 294 λb w2=>Ε w2 anm 102 λa c=>let y:b_:=λw7=>(iE anm w7 a 0 λd=>f_ d (a.add 0) λy9=>f_ d (a.add 1) λag=>f_ d (a.add 2) λah=>K y9 ag ah 8 d)
 f_ c ((b.add 1).add 4) λe=>let z:Bool->Prop:=λai=>((cond ai (f_ c.drew ((b.add 1).add 4) λi=>uN c.drew b λaj ak al am an ao ap aq ar au av aw ax=>uN c.drew b λA B C D E F G H I J L M N=>jZ aj ak al am an ao ap aq ar au av aw ax 0 c.drew λay j=>WB (oI A B C D E F G H I J L M N) j b 0 (
 j.cell? ((b.add 1).add 4)=some (Β i)/\
 jZ A B C D E F G H I J L M N 2 j λaz O=>O.cell? ((b.add 1).add 4)=some (Β i)/\
 iE [Β i,Β ay,Β az] O a 0 λf=>f_ f (a.add 0) λaA=>f_ f (a.add 1) λaB=>f_ f (a.add 2) λaC=>K aA aB aC 0 f)) (cond (e==1) (Ld .slice c ((b.add 1).add 10) λaD=>iK aD 1 0 λaE=>Ld (.int .u8) c aE λaF=>Ar (ο.wrap aF) c λaG g=>(cond aG (uN g.drew b λaH aI aJ aK aL aM aN aO aP aQ aR aS aT=>uN g.drew b λP Q R S T U V W X Y Z aa ab=>jZ aH aI aJ aK aL aM aN aO aP aQ aR aS aT 4 g.drew λaU ac=>WB (oI P Q R S T U V W X Y Z aa ab) ac b 0 (
 jZ P Q R S T U V W X Y Z aa ab 4 ac λaV aW=>iE [Β 1,Β aU,Β aV] aW a 0 λh=>f_ h (a.add 0) λaX=>f_ h (a.add 1) λaY=>f_ h (a.add 2) λaZ=>K aX aY aZ 0 h)) (y g))) (y c))))
 (cond (e==6) (z (e==6)) (z (e==17)))):=χ Tryz.func192
theorem Qs {l m n h o p q w K}:gV (Ad l m n h o p q w K)
 (Ε w [Β l,Β m,Β n,Δ h] 97 λc u=>Ε u ano 97 λb r=>let s:Value->Prop:=λv=>(Ld .slice r (c.add 3) λi=>jF υ [.one .slice,.one ν] v [(Δ i),(Β p),(Β q)] r λx t=>∃d:gG,∃j:Int,x=(Value.tuple ⟨[Δ d,Β j]⟩)/\
 (cond (j !=0) (iE ano t b 0 λe=>f_ e (b.add 0) λy=>f_ e (b.add 1) λz=>f_ e (b.add 2) λA=>Ld .slice e (b.add 3) λB=>K y z A B j e) (St t (c.add 3) (Δ d) λf=>f_ f (c.add 0) λC=>f_ f (c.add 1) λD=>f_ f (c.add 2) λE=>Ld .slice f (c.add 3) λk=>iE [Β C,Β D,Β E,Δ k] f b 0 λg=>f_ g (b.add 0) λF=>f_ g (b.add 1) λG=>f_ g (b.add 2) λH=>Ld .slice g (b.add 3) λI=>K F G H I 0 g)))
 (cond o (s (Value.func (.func 257) #[] #[])) (s (Value.func (.func 256) #[] #[])))):=χ Tryz.func193
theorem Xc {g h i d w K}:gV (Ap g h i d w K)
 (Ε w [Β g,Β h,Β i,Δ d] 97 λb c=>f_ c (b.add 0) λm=>f_ c (b.add 1) λn=>f_ c (b.add 2) λo=>Ld .slice c (b.add 3) λp=>FQ m n o p c λj e=>(cond (j !=0) (K ⟨none,0,0⟩ j e) (f_ e b λq=>f_ e (b.add 1) λr=>Ε e [.int .u8 (IntKind.u8.wrap q),.int .u8 (IntKind.u8.wrap r),.int .u8 0,.int .u8 0] 5 λs k=>f_ k (b.add 2) λt=>oP ⟨(some s),4,4⟩ t 4 k λu l=>Ld .slice l (b.add 3) λv=>nH 5 1 1 [(Value.int .u8 0)] u v l λf x=>Ε x [Δ f] 31 λy z=>IB ⟨(some y),1,1⟩ z λA B=>zM f 2 A 2 B λC D E=>K C D E))):=χ Tryz.func194
theorem Z4 {v x d w K}:gV (IK v x d w K)
 (Ε w ant 126 λc y=>(cond (decide ((d.len:Int)<8)) (iE ant y c 0 λm=>f_ m (c.add 0) λD=>f_ m (c.add 1) λE=>Ld .bool m (c.add 2) λF=>Ld .slice m (c.add 3) λG=>K D E F G 3 m) (Ε y anw 375 λe H=>lG d 1 0 8 λI=>FM I H λJ b=>xO υ none [.one ν,.one ν] J b (λq n r L=>r.heap[q]? =r.heap[q]? /\
 (2:Int)≠0/\
 (0:Int)<=(ο.wrap (Int.tdiv n.1 2))/\(ο.wrap (Int.tdiv n.1 2))<(4:Int)/\
 St (gQ r q) (e.add (Int.toNat (ο.wrap (Int.tdiv n.1 2)) * 1)) (Β n.2.1) λM=>L .normal M)
 (λf=>(0:Int)<=2/\2<(4:Int)/\
 f_ f.drew (e.add (Int.toNat 2 * 1)) λo=>(0:Int)<=3/\3<(4:Int)/\
 f_ f.drew (e.add (Int.toNat 3 * 1)) λz=>(cond (decide (o<8)) (iE ant f.drew c 0 λg=>Η g b/\
 f_ (Ζ g b) (c.add 0) λN=>f_ (Ζ g b) (c.add 1) λO=>Ld .bool (Ζ g b) (c.add 2) λP=>Ld .slice (Ζ g b) (c.add 3) λQ=>K N O P Q 4 (Ζ g b)) (cond (decide (o>(d.len:Int))) (iE ant f.drew c 0 λh=>Η h b/\
 f_ (Ζ h b) (c.add 0) λR=>f_ (Ζ h b) (c.add 1) λS=>Ld .bool (Ζ h b) (c.add 2) λT=>Ld .slice (Ζ h b) (c.add 3) λU=>K R S T U 3 (Ζ h b)) (cond (decide (o<(d.len:Int))) (iE ant f.drew c 0 λi=>Η i b/\
 f_ (Ζ i b) (c.add 0) λV=>f_ (Ζ i b) (c.add 1) λW=>Ld .bool (Ζ i b) (c.add 2) λX=>Ld .slice (Ζ i b) (c.add 3) λY=>K V W X Y 4 (Ζ i b)) (let A:Bool->b_:=λZ p=>((cond Z (iE ant p c 0 λj=>Η j b/\
 f_ (Ζ j b) (c.add 0) λaa=>f_ (Ζ j b) (c.add 1) λab=>Ld .bool (Ζ j b) (c.add 2) λac=>Ld .slice (Ζ j b) (c.add 3) λad=>K aa ab ac ad 5 (Ζ j b)) ((0:Int)<=0/\0<(4:Int)/\
 f_ p.drew (e.add (Int.toNat 0 * 1)) λB=>(0:Int)<=1/\1<(4:Int)/\
 f_ p.drew (e.add (Int.toNat 1 * 1)) λC=>lG d 1 8 (d.len:Int) λae=>iD ae p.drew λs t=>t.cell? (e.add (Int.toNat 1 * 1))=some (Β C)/\
 t.cell? (e.add (Int.toNat 0 * 1))=some (Β B)/\
 iE [Β B,Β C,.bool (z==0),Δ s] t c 0 λk=>Η k b/\
 f_ (Ζ k b) (c.add 0) λaf=>f_ (Ζ k b) (c.add 1) λag=>Ld .bool (Ζ k b) (c.add 2) λah=>Ld .slice (Ζ k b) (c.add 3) λai=>K af ag ah ai 0 (Ζ k b))))
 (cond (z !=0) (uz v x 17 o f.drew λu aj=>Ε aj [Δ u,Δ d] 31 λak al=>zN ⟨(some ak),2,2⟩ al λam an=>A (!am) an) (A false f.drew)))))))
 (λl=>Η l b/\
 f_ (Ζ l b) (c.add 0) λao=>f_ (Ζ l b) (c.add 1) λap=>Ld .bool (Ζ l b) (c.add 2) λaq=>Ld .slice (Ζ l b) (c.add 3) λar=>K ao ap aq ar 0 (Ζ l b))
 []))):=χ Tryz.func195 (gB (gB (gB (.seq (gB (.blk (.rng [.one ν,.one ν] .leaf .leaf))) .leaf))))
theorem ZW {y z g w K}:gV (IG y z g w K)
 (iP (Δ g)=true/\
 Ε w [Δ g] 31 λb R=>Ε R (mQ 0 0 0 0 0 0 0 0 ⟨none,0,0⟩ ⟨none,0,0⟩) 305 λc d=>Ld .slice d b λS=>(cond (decide ((S.len:Int)<20)) (iE (mQ 0 0 0 0 0 0 0 0 ⟨none,0,0⟩ ⟨none,0,0⟩) d c 0 λA=>Bj A c λT U V W X Y Z aa ab ac=>K T U V W X Y Z aa ab ac 3 A) (Ld .slice d b λad=>iK ad 1 12 λae=>Ld (.int .u8) d ae λn=>0<=(4:Int)/\
 (cond (decide ((ο.wrap ((ο.wrap (jR .u8 n 4)) * 4))<20)) (iE (mQ 0 0 0 0 0 0 0 0 ⟨none,0,0⟩ ⟨none,0,0⟩) d c 0 λB=>Bj B c λaf ag ah ai aj ak al am an ao=>K af ag ah ai aj ak al am an ao 4 B) (Ld .slice d b λap=>(cond (decide ((ο.wrap ((ο.wrap (jR .u8 n 4)) * 4))>(ap.len:Int))) (iE (mQ 0 0 0 0 0 0 0 0 ⟨none,0,0⟩ ⟨none,0,0⟩) d c 0 λC=>Bj C c λaq ar au av aw ax ay az aA aB=>K aq ar au av aw ax ay az aA aB 3 C) (Ld .slice d b λaC=>(cond (decide ((aC.len:Int)>65535)) (iE (mQ 0 0 0 0 0 0 0 0 ⟨none,0,0⟩ ⟨none,0,0⟩) d c 0 λD=>Bj D c λaD aE aF aG aH aI aJ aK aL aM=>K aD aE aF aG aH aI aJ aK aL aM 6 D) (Ld .slice d.drew b λaN=>Ld .slice d.drew b λi=>uz y z 6 (aN.len:Int) d.drew λq E=>Cw E b (Δ i)<|Ε E [Δ q,Δ i] 31 λaO aP=>zN ⟨(some aO),2,2⟩ aP λaQ F=>(cond (!aQ) (iE (mQ 0 0 0 0 0 0 0 0 ⟨none,0,0⟩ ⟨none,0,0⟩) F c 0 λG=>Bj G c λaR aS aT aU aV aW aX aY aZ a3=>K aR aS aT aU aV aW aX aY aZ a3 5 G) (jF υ [.one ν] (Value.func (.func 263) #[] #[(Value.pointer (some b))]) [(Β 0),(Β 2)] F λa4 a6=>∃H:Int,a4=(Β H)/\
 jF υ [.one ν] (Value.func (.func 263) #[] #[(Value.pointer (some b))]) [(Β 2),(Β 2)] a6 λa8 a9=>∃I:Int,a8=(Β I)/\
 jF υ [.one ν] (Value.func (.func 263) #[] #[(Value.pointer (some b))]) [(Β 4),(Β 4)] a9 λba bb=>∃J:Int,ba=(Β J)/\
 jF υ [.one ν] (Value.func (.func 263) #[] #[(Value.pointer (some b))]) [(Β 8),(Β 4)] bb λbc bd=>∃L:Int,bc=(Β L)/\
 Ε bd (mQ 0 0 0 0 0 0 0 0 ⟨none,0,0⟩ ⟨none,0,0⟩) 305 λf be=>iE (mQ H I J L 0 0 0 0 ⟨none,0,0⟩ ⟨none,0,0⟩) be f 0 λj=>Ld .slice j.drew b λh=>iK h 1 12 λr=>Ld (.int .u8) j.drew r λs=>Ld .slice j.drew b λe=>iK e 1 13 λo=>Ld (.int .u8) j.drew o λp=>jF υ [.one ν] (Value.func (.func 263) #[] #[(Value.pointer (some b))]) [(Β 14),(Β 2)] j.drew λbf k=>∃M:Int,bf=(Β M)/\
 k.cell? o=some (.int .u8 p)/\
 k.cell? b=some (Δ e)/\
 k.cell? r=some (.int .u8 s)/\
 k.cell? b=some (Δ h)/\
 jF υ [.one ν] (Value.func (.func 263) #[] #[(Value.pointer (some b))]) [(Β 18),(Β 2)] k λbg l=>∃N:Int,bg=(Β N)/\
 l.cell? o=some (.int .u8 p)/\
 l.cell? b=some (Δ e)/\
 l.cell? r=some (.int .u8 s)/\
 l.cell? b=some (Δ h)/\
 St l (f.add 4) (Β (ο.wrap (lZ .u8 s 15))) λt=>Cw t o (.int .u8 p)<|Cw t b (Δ e)<|St t (f.add 5) (Β (ο.wrap p)) λbh=>St bh (f.add 6) (Β M) λbi=>St bi (f.add 7) (Β N) λu=>Ld .slice u.drew b λbj=>lG bj 1 20 (ο.wrap ((ο.wrap (jR .u8 n 4)) * 4)) λbk=>Ld .slice u.drew b λm=>lG m 1 (ο.wrap ((ο.wrap (jR .u8 n 4)) * 4)) (m.len:Int) λbl=>iD bk u.drew λv O=>Cw O b (Δ m)<|iD bl O λx bm=>St bm (f.add 8) (Δ v) λbn=>St bn (f.add 9) (Δ x) λP=>Bj P f λbo bp bq br bs bt bu bv bw bx=>iE (mQ bo bp bq br bs bt bu bv bw bx) P c 0 λQ=>Bj Q c λbz bA bB bC bD bE bF bG bH bI=>K bz bA bB bC bD bE bF bG bH bI 0 Q))))))))))):=χ Tryz.func196
theorem Xg {a w K}:gV (Ar a w K)
 (Ε w [Β 0,Β 8] 3 λb c=>FU a ⟨(some b),2,2⟩ c λd e=>K d e):=χ Tryz.func197
theorem XF {a c b w K}:gV (Gm a c b w K)
 (let e:Bool->Prop:=λl=>((cond l (K 0 false w) (let f:Bool->b_:=λm d=>((cond m (K 0 false d) (cond ((lZ .i64 b 4) !=0) (K 6 true d) (let g:b_:=λh=>((cond ((lZ .i64 b 1) !=0) (BP a c h λn o=>K n true o) (K a true h)))
 BO b d λp i=>(cond p (Eo a c i λj k=>(cond (j !=a) (K j true k) (g k))) (g i))))))
 (cond (a==0) (BO b w λq r=>f (!q) r) (f false w)))))
 (cond (decide (a<0)) (e (decide (a<0))) (e (decide (a>6))))):=χ Tryz.func198
theorem Vh {b c d e f g h i j k l w K}:gV (Ec b c d e f g h i j k l w K)
 (Ε w (gX b c d e f g h i j k l) 41 λp m=>iG m p λq r s t u v x y z A B=>tN q r s t u v x y z A B m λC D a=>(cond (D !=0) (K 0 a) (AsT 309 C (λE=>Ε a (mQ 0 0 0 0 0 0 0 0 ⟨none,0,0⟩ ⟨none,0,0⟩) 309 λn F=>StA 10 E F n λo=>f_ o (n.add 5) λG=>K G o) (
 Ε a (mQ 0 0 0 0 0 0 0 0 ⟨none,0,0⟩ ⟨none,0,0⟩) 309 λH I=>iE (mQ 0 0 0 0 0 0 0 0 ⟨none,0,0⟩ ⟨none,0,0⟩) I H 0 λJ=>K 0 J)))):=χ Tryz.func199
theorem JB {a w K}:gV (vg a w K)
 (jA a w λc b=>(cond (!c) (K 0 b) (Pt a λd=>f_ b (d.add 3) λe=>K e b))):=χ Tryz.func200
theorem O9 {t o v x w K}:gV (uj t o v x w K)
 (iP (Value.pointer t)=true/\
 Ε w [.pointer t] 74 λh H=>Ε H anm 56 λb I=>Ε I [Β 0] 36 λf y=>Ld .ptr y h λJ=>kM J y λL z=>(cond (!L) (iE anm z b 0 λM=>St M f (Β 2) λj=>f_ j (b.add 0) λN=>f_ j (b.add 1) λO=>f_ j (b.add 2) λP=>f_ j f λQ=>K N O P Q j) (uq o z λR p=>(cond (!R) (iE anm p b 0 λT=>St T f (Β 1) λk=>f_ k (b.add 0) λU=>f_ k (b.add 1) λV=>f_ k (b.add 2) λW=>f_ k f λX=>K U V W X k) (Ld .ptr p h λY=>Pt Y λZ=>Ld .slice p (Z.add 2) λg=>(g.len:Int)≠0/\
 (g.len:Int)≠0/\
 iQ (S:=(Int×Unit)×List Nat) (λi l aa=>(cond (decide (i.1.1<(g.len:Int))) (Ld .ptr l.drew h λA=>Pt A λB=>Ld .slice l.drew (B.add 2) λq=>(g.len:Int)≠0/\
 iK q 1 (Int.tmod (ο.wrap ((Int.tmod (ο.wrap ((Int.tmod x (g.len:Int))+(g.len:Int))) (g.len:Int))+i.1.1)) (g.len:Int)) λC=>f_ l.drew C λD=>Ε l.drew anm 56 λe r=>r.cell? C=some (Β D)/\
 r.cell? (B.add 2)=some (Δ q)/\
 r.cell? h=some (.pointer A)/\
 iE [Β o,Β D,Β 0] r e 0 λE=>Ld .ptr E h λab=>wY ab o v E λac u=>xO υ none [.one ν] ac u (λc ad F G=>St F (e.add 2) (Β ad.1) λd=>d.heap[c]? =F.heap[c]? /\
 Ld .ptr (gQ d c).drew h λae=>Pt ae λaf=>Ld .map (gQ d c).drew (af.add 3) λag=>f_ (gQ d c).drew (e.add 0) λah=>f_ (gQ d c).drew (e.add 1) λai=>f_ (gQ d c).drew (e.add 2) λaj=>qF υ 56 .bool ag (Value.agg ⟨[Β ah,Β ai,Β aj]⟩) (Value.bool false) (gQ d c).drew λak=>(cond ak (G .normal (gQ d c).drew) (Ld .ptr (gQ d c).drew.drew h λal=>Pt al λam=>Ld .map (gQ d c).drew.drew (am.add 3) λan=>f_ (gQ d c).drew.drew (e.add 0) λao=>f_ (gQ d c).drew.drew (e.add 1) λap=>f_ (gQ d c).drew.drew (e.add 2) λaq=>pq υ 56 an (Value.agg ⟨[Β ao,Β ap,Β aq]⟩) (Value.bool true) (gQ d c).drew.drew λs=>f_ s (e.add 0) λar=>f_ s (e.add 1) λau=>f_ s (e.add 2) λav=>iE [Β ar,Β au,Β av] s b 0 λaw=>St aw f (Β 0) λax=>G .ret ax)))
 (λay=>aa (((ο.wrap (i.1.1+1)),()),(u.heap.size::i.2)) ay)
 (λaz=>wR (u.heap.size::i.2) az λm=>f_ m (b.add 0) λaA=>f_ m (b.add 1) λaB=>f_ m (b.add 2) λaC=>f_ m f λaD=>K aA aB aC aD m)
 [(3,(λ _=>False))]) (iE anm l b 0 λaE=>St aE f (Β 12) λaF=>wR i.2 aF λn=>f_ n (b.add 0) λaG=>f_ n (b.add 1) λaH=>f_ n (b.add 2) λaI=>f_ n f λaJ=>K aG aH aI aJ n))) ((0,()),[]) p))))):=χ Tryz.func201 (gB (gB (gB (gB (gB (.seq (gB (.blk (.loop [(34,ν)] (gB (gB (.seq (.blk (gB (gB (gB (gB (.blk (.rng [.one ν] .leaf .leaf))))))) .leaf)))))) .leaf))))))
theorem pJ {d e w K}:gV (jD d e w K)
 (iQ (S:=Int×Unit) (λc a h=>(cond (decide (c.1<(d.len:Int))) (iK d 6 c.1 λb=>f_ a (b.add 0) λi=>f_ a (b.add 1) λj=>f_ a (b.add 2) λk=>f_ a (b.add 3) λl=>f_ a (b.add 4) λm=>Ld .bool a (b.add 5) λn=>jF υ [.one .bool] e [(Value.agg ⟨[Β i,Β j,Β k,Β l,Β m,.bool n]⟩)] a λo f=>∃g:Bool,o=(Value.bool g)/\
 (cond g (K c.1 f) (h ((ο.wrap (c.1+1)),()) f))) (K (-1) a))) (0,()) w):=χ Tryz.func205 (gB (.seq (gB (.blk (.loop [(8,ν)] .leaf))) .leaf))
theorem GV {a b c d e f w K}:gV (xX a b c d e f w K)
 (Ε w [Β a,Β b,Β c,Β d,Β e,.bool f] 244 λh g=>Ld .bool g (h.add 5) λi=>K (!i) g):=χ Tryz.func206
theorem yJ {c d w K}:gV (ni c d w K)
 (iQ (S:=Int×Int×Unit) (λa b f=>(cond (decide (a.1<a.2.1)) (0<=(1:Int)/\
 iK c 1 (ο.wrap (jR .u64 (IntKind.u64.wrap (ο.wrap (a.1+a.2.1))) 1)) λi=>f_ b i λj=>Bo j d b λk g=>(cond k (f ((ο.wrap ((ο.wrap (jR .u64 (IntKind.u64.wrap (ο.wrap (a.1+a.2.1))) 1))+1)),a.2.1,()) g) (f (a.1,(ο.wrap (jR .u64 (IntKind.u64.wrap (ο.wrap (a.1+a.2.1))) 1)),()) g))) (let e:Int->Bool->b_:=λl m n=>(K l m n)
 (cond (decide (a.1<(c.len:Int))) (iK c 1 a.1 λo=>f_ b o λp=>(cond (p==d) (e a.1 true b) (iK c 1 a.1 λq=>f_ b q λr=>qN r b λs h=>(cond s (qN d h λt u=>e a.1 t u) (e a.1 false h))))) (e a.1 false b))))) (0,(c.len:Int),()) w):=χ Tryz.func207 (gB (gB (gB (.seq (.blk (.loop [(7,ν),(8,ν)] .leaf)) .leaf))))
theorem ED {c e b w K}:gV (qg c e b w K)
 (lG c 1 e (c.len:Int) λ _=>(cond ((b.len:Int)==0) (K c w) (cond (e==(c.len:Int)) (nH 3 1 8 [(Β 0)] c b w λj k=>K j k) (cond (decide ((ο.wrap ((c.len:Int)+(b.len:Int)))>(c.cap:Int))) (lG c 1 0 e λl=>XM 3 1 8 [(Β 0)] l (ο.wrap ((ο.wrap ((c.len:Int)+(b.len:Int))) - e)) w λf m=>lG f 1 e (f.len:Int) λn=>Bg 1 n b m λ _ o=>lG f 1 (ο.wrap (e+(b.len:Int))) (f.len:Int) λp=>lG c 1 e (c.len:Int) λq=>Bg 1 p q o.drew λ _ r=>K f r) (lG c 1 0 (ο.wrap ((c.len:Int)+(b.len:Int))) λd=>lG d 1 (ο.wrap (e+(b.len:Int))) (d.len:Int) λg=>ajl υ 270 [(Δ b),(Δ g)] w λs h=>∃i:Bool,s=(Value.bool i)/\
 (cond (!i) (lG d 1 (ο.wrap (e+(b.len:Int))) (d.len:Int) λt=>lG d 1 e (d.len:Int) λu=>Bg 1 t u h.drew λ _ v=>lG d 1 e (d.len:Int) λx=>Bg 1 x b v λ _ y=>K d y) (lG d 1 (c.len:Int) (d.len:Int) λz=>Bg 1 z b h λ _ A=>lG d 1 e (d.len:Int) λB=>En B (b.len:Int) A λC=>K d C))))))):=χ Tryz.func208
theorem LW {c d e f w K}:gV (qP c d e f w K)
 (Ε w [Β d,Β e,Β f] 335 λg h=>f_ h (g.add 1) λk=>oD c k h λi j=>Pt i λl=>Ld .slice j l λm=>iR m (Value.func (.func 272) #[] #[(Value.pointer (some g))]) j λb n=>Pt i λo=>St n o (Δ b) λp=>K p):=χ Tryz.func209
theorem NR {f g h i w K}:gV (sO f g h i w K)
 (Ε w [Β g,Β h,Β i] 335 λc j=>f_ j (c.add 1) λn=>oD f n j λk b=>Pt k λl=>Ld .slice b.drew l λd=>f_ b.drew (c.add 0) λo=>f_ b.drew (c.add 1) λp=>f_ b.drew (c.add 2) λq=>Ε b.drew [Β o,Β p,Β q] 335 λr m=>m.cell? l=some (Δ d)/\
 nH 335 3 24 [(Β 0),(Β 0),(Β 0)] d ⟨(some r),1,1⟩ m λe s=>Pt k λt=>St s t (Δ e) λu=>K u):=χ Tryz.func210
theorem ZP {a b c w K}:gV (jU a b c w K)
 (Iy a b c w λd _ e=>K d e):=χ Tryz.func211
theorem Vl {a w K}:gV (Ed a w K)
 (Du a w λb c=>K (b==65535) c):=χ Tryz.func212
theorem R_ {e D w K}:gV (BL e D w K)
 (Ε w ξ 41 λE F=>iK e 1 0 λO=>Ld (.int .u8) F O λP=>(16:Int)≠0/\
 jU e 6 2 F λi j=>let n:Addr->b_:=λk Q=>((16384:Int)≠0/\
 (2:Int)≠0/\
 (8192:Int)≠0/\
 (2:Int)≠0/\
 St Q (k.add 7) (.bool ((Int.tmod (ο.wrap (Int.tdiv i 16384)) 2)==1)) λR=>St R (k.add 8) (.bool ((Int.tmod (ο.wrap (Int.tdiv i 8192)) 2)==1)) λS=>lG e 1 20 (ο.wrap ((ο.wrap (Int.tmod P 16)) * 4)) λT=>nH 5 1 1 [(Value.int .u8 0)] ⟨none,0,0⟩ T S λA U=>nH 5 1 1 [(Value.int .u8 0)] ⟨none,0,0⟩ D U λB V=>St V (k.add 9) (Δ A) λW=>St W (k.add 10) (Δ B) λG=>iG G k λX Y Z aa ab ac ad ae af ag ah=>iE (gX X Y Z aa ab ac ad ae af ag ah) G E 0 λH=>iG H E λai aj ak al am an ao ap aq ar au=>K ai aj ak al am an ao ap aq ar au H)
 iK e 1 1 λf=>Ld (.int .u8) j.drew f λb=>(8192:Int)≠0/\
 iK e 1 8 λg=>Ld (.int .u8) j.drew g λc=>iK e 1 9 λh=>Ld (.int .u8) j.drew h λd=>(jU e 4 2 j.drew λC l=>Cw l h (.int .u8 d)<|Cw l g (.int .u8 c)<|Cw l f (.int .u8 b)<|(jU e 12 4 l λI m=>Cw m h (.int .u8 d)<|Cw m g (.int .u8 c)<|Cw m f (.int .u8 b)<|(jU e 16 4 m λav o=>Cw o h (.int .u8 d)<|Cw o g (.int .u8 c)<|Cw o f (.int .u8 b)<|Ε o ξ 41 λJ p=>Cw p h (.int .u8 d)<|Cw p g (.int .u8 c)<|Cw p f (.int .u8 b)<|iE (gX (ο.wrap b) C (ο.wrap ((Int.tmod i 8192) * 8)) (ο.wrap c) (ο.wrap d) I av false false ⟨none,0,0⟩ ⟨none,0,0⟩) p J 0 λaw=>n J aw)/\
 (Ε m ξ 41 λL q=>Cw q h (.int .u8 d)<|Cw q g (.int .u8 c)<|Cw q f (.int .u8 b)<|jU e 16 4 q λax r=>Cw r h (.int .u8 d)<|Cw r g (.int .u8 c)<|Cw r f (.int .u8 b)<|iE (gX (ο.wrap b) C (ο.wrap ((Int.tmod i 8192) * 8)) (ο.wrap c) (ο.wrap d) I ax false false ⟨none,0,0⟩ ⟨none,0,0⟩) r L 0 λay=>n L ay))/\
 (Ε l ξ 41 λM s=>Cw s h (.int .u8 d)<|Cw s g (.int .u8 c)<|Cw s f (.int .u8 b)<|jU e 12 4 s λaz t=>Cw t h (.int .u8 d)<|Cw t g (.int .u8 c)<|Cw t f (.int .u8 b)<|jU e 16 4 t λaA u=>Cw u h (.int .u8 d)<|Cw u g (.int .u8 c)<|Cw u f (.int .u8 b)<|iE (gX (ο.wrap b) C (ο.wrap ((Int.tmod i 8192) * 8)) (ο.wrap c) (ο.wrap d) az aA false false ⟨none,0,0⟩ ⟨none,0,0⟩) u M 0 λaB=>n M aB))/\
 (Ε j.drew ξ 41 λN v=>Cw v h (.int .u8 d)<|Cw v g (.int .u8 c)<|Cw v f (.int .u8 b)<|jU e 4 2 v λaC x=>Cw x h (.int .u8 d)<|Cw x g (.int .u8 c)<|Cw x f (.int .u8 b)<|jU e 12 4 x λaD y=>Cw y h (.int .u8 d)<|Cw y g (.int .u8 c)<|Cw y f (.int .u8 b)<|jU e 16 4 y λaE z=>Cw z h (.int .u8 d)<|Cw z g (.int .u8 c)<|Cw z f (.int .u8 b)<|iE (gX (ο.wrap b) aC (ο.wrap ((Int.tmod i 8192) * 8)) (ο.wrap c) (ο.wrap d) aD aE false false ⟨none,0,0⟩ ⟨none,0,0⟩) z N 0 λaF=>n N aF)):=χ Tryz.func213
theorem ZQ {b a w K}:gV (wK b a w K)
 (a≠0/\
 a≠0/\
 K (Int.tmod (ο.wrap ((Int.tmod b a)+a)) a) w):=χ Tryz.func214
theorem ZN {b w K}:gV (Dt b w K)
 (iQ (S:=Int×Int×Unit) (λa c d=>(cond (decide (a.2.1<b)) (d ((ο.wrap (a.1 * 256)),(ο.wrap (a.2.1+1)),()) c) (K a.1 c))) (1,0,()) w):=χ Tryz.func215 (gB (gB (.seq (gB (.blk (.loop [(3,ν),(4,ν)] .leaf))) .leaf)))
theorem Xv {a b w K}:gV (F9 a b w K)
 ((cond (decide ((ο.wrap (b+1))<(a.len:Int))) (iK a 1 b λc=>Ld (.int .u8) w.drew c λd=>iK a 1 (ο.wrap (b+1)) λe=>Ld (.int .u8) w.drew e λf=>K (ο.wrap ((ο.wrap ((ο.wrap d) * 256))+(ο.wrap f))) w.drew) (iK a 1 b λg=>Ld (.int .u8) w g λh=>K (ο.wrap ((ο.wrap h) * 256)) w))):=χ Tryz.func216
theorem Xw {b w K}:gV (Gf b w K)
 ((cond (decide (b<0)) (K 0 w) (iQ (S:=Int×Unit) (λa c d=>(cond (decide (a.1>65535)) ((65536:Int)≠0/\
 (65536:Int)≠0/\
 d ((ο.wrap ((Int.tmod a.1 65536)+(ο.wrap (Int.tdiv a.1 65536)))),()) c) (K a.1 c))) (b,()) w))):=χ Tryz.func217 (gB (gB (.seq (.blk (.loop [(0,ν)] .leaf)) .leaf)))
theorem Lh {a w K}:gV (ou a w K)
 (let b:Bool->Prop:=λc=>(K c w)
 (cond (!(Option.isNone a)) (Pt a λd=>Ld .bool w (d.add 3) λe=>b e) (b false))):=χ Tryz.func218
theorem CB {k l w K}:gV (jG k l w K)
 (iP (Value.pointer k)=true/\
 Ε w [.pointer k] 171 λh u=>iP (Value.string l)=true/\
 Ε u [.string l] 9 λr v=>Ε v [Β 0] 3 λe x=>Ε x [.bool false] 4 λf b=>Ld .ptr b h λy=>Pt y λz=>Ld .slice b z λA=>(cond ((A.len:Int)==0) (St b e (Β 0) λB=>St B f (.bool false) λm=>f_ m e λC=>Ld .bool m f λD=>K C D m) (Ld .ptr b.drew h λs=>Ld .str b.drew r λE=>Ld .ptr b.drew h λF=>Pt F λG=>Ld .slice b.drew G λH=>Iq E (H.len:Int) b.drew λI t=>t.cell? h=some (.pointer s)/\
 sH s I t λJ a=>xO υ none [.one ν] J a (λc n d o=>d.heap[c]? =d.heap[c]? /\
 Ld .ptr (gQ d c) h λL=>Pt L λM=>Ld .slice (gQ d c) M λN=>iK N 3 n.1 λp=>Ld .str (gQ d c) (p.add 0) λO=>f_ (gQ d c) (p.add 1) λP=>Ld .bool (gQ d c) (p.add 2) λQ=>Al (gQ d c) (.cells ⟨[.string (bs []),Β 0,.bool false]⟩ 346) λq R=>iE [.string O,Β P,.bool Q] R q 0 λg=>Ld .bool g (q.add 2) λS=>(cond (!S) (St g e (Β n.1) λT=>St T f (.bool false) λU=>o .ret U) (Ld .str g q λV=>Ld .str g r λW=>(cond (strEq V W) (St g e (Β n.1) λX=>St X f (.bool true) λY=>o .ret Y) (o .normal g)))))
 (λZ=>St Z e (Β 0) λaa=>St aa f (.bool false) λi=>Η i a/\
 f_ (Ζ i a) e λab=>Ld .bool (Ζ i a) f λac=>K ab ac (Ζ i a))
 (λj=>Η j a/\
 f_ (Ζ j a) e λad=>Ld .bool (Ζ j a) f λae=>K ad ae (Ζ j a))
 []))):=χ Tryz.func219 (gB (gB (.seq (gB (.blk (.rng [.one ν] .leaf .leaf))) .leaf)))
theorem aaw {c w K}:gV (FP c w K)
 (iQ (S:=gG×Int×Unit) (λa b e=>(cond (decide (a.2.1<(c.len:Int))) (iK c 1 a.2.1 λf=>f_ b f λd=>0<=(32:Int)/\
 oP a.1 (lZ .i64 (jR .i64 d 32) 4294967295) 4 b λg h=>oP g (lZ .i64 d 4294967295) 4 h λi j=>e (i,(ο.wrap (a.2.1+1)),()) j) (Ih b a.1 λk=>K k b))) (⟨none,0,0⟩,0,()) w):=χ Tryz.func220 (gB (gB (.seq (gB (.blk (.loop [(3,.slice),(8,ν)] .leaf))) .leaf)))
theorem rH {c d w K}:gV (mM c d w K)
 (iQ (S:=Int×Unit) (λa b h=>(cond (decide (a.1<(c.len:Int))) (iK c 2 a.1 λe=>f_ b (e.add 0) λi=>f_ b (e.add 1) λj=>jF υ [.one .bool] d [(Value.agg ⟨[Β i,Β j]⟩)] b λk f=>∃g:Bool,k=(Value.bool g)/\
 (cond g (K a.1 f) (h ((ο.wrap (a.1+1)),()) f))) (K (-1) b))) (0,()) w):=χ Tryz.func221 (gB (.seq (gB (.blk (.loop [(8,ν)] .leaf))) .leaf))
theorem uJ {c d e w K}:gV (nN c d e w K)
 (Ε w [Β d,Β e] 107 λf h=>iQ (S:=Int×Unit) (λb a i=>(cond (decide (b.1<(c.len:Int))) (f_ a.drew (f.add 0) λj=>f_ a.drew (f.add 1) λk=>iK c 2 b.1 λg=>f_ a.drew (g.add 0) λl=>f_ a.drew (g.add 1) λm=>(cond ((j==l) && ((k==m) && true)) (K b.1 a.drew) (i ((ο.wrap (b.1+1)),()) a.drew))) (K (-1) a))) (0,()) h):=χ Tryz.func222 (gB (.seq (gB (.blk (.loop [(8,ν)] .leaf))) .leaf))
theorem yc {a0 f0 f1 w K}:gV (Iz a0 f0 f1 w K)
 (Ld .ptr w f0 λi=>jA i w λj b=>(cond (!j) (K b) (Ld .ptr b.drew f0 λk=>Pt k λl=>Ld .map b.drew (l.add 2) λm=>f_ b.drew f1 λn=>qF υ 3 .slice m (Β n) (Value.slice none 0 0) b.drew λo=>nV o b.drew λe p=>iQ (S:=Int×Unit) (λd a q=>(cond (decide (d.1<(e.len:Int))) (iK e 1 d.1 λr=>f_ a r λf=>Ld .ptr a f0 λs=>Pt s λt=>Ld .slice a t λu=>iK u 6 f λc=>f_ a (c.add 0) λv=>f_ a (c.add 1) λx=>f_ a (c.add 2) λy=>f_ a (c.add 3) λz=>f_ a (c.add 4) λA=>jF υ [.one .bool] a0 [(Β f),(Value.agg ⟨[Β v,Β x,Β y,Β z,Β A]⟩)] a λB g=>∃h:Bool,B=(Value.bool h)/\
 (cond (!h) (K g) (q ((ο.wrap (d.1+1)),()) g))) (K a))) (0,()) p))):=χ Tryz.func223 (gB (gB (.blk (.loop [(17,ν)] .leaf))))
theorem rM {c l w K}:gV (jY c l w K)
 (Ε w anm 335 λe f=>(cond (decide ((c.len:Int)<1)) False (iK c 3 0 λi=>f_ f (i.add 0) λo=>f_ f (i.add 1) λp=>f_ f (i.add 2) λq=>Ε f anm 335 λb r=>iE [Β o,Β p,Β q] r b 0 λs=>iQ (S:=Int×Unit) (λg a t=>(cond (decide (g.1<(c.len:Int))) (let m:b_:=λu=>(t ((ο.wrap (g.1+1)),()) u)
 iK c 3 g.1 λj=>f_ a.drew (j.add 0) λv=>f_ a.drew (j.add 1) λx=>f_ a.drew (j.add 2) λy=>f_ a.drew (b.add 0) λz=>f_ a.drew (b.add 1) λA=>f_ a.drew (b.add 2) λB=>jF υ [.one ν] l [(Value.agg ⟨[Β v,Β x,Β y]⟩),(Value.agg ⟨[Β z,Β A,Β B]⟩)] a.drew λC d=>∃n:Int,C=(Β n)/\
 (cond (decide (n<0)) (iK c 3 g.1 λk=>f_ d (k.add 0) λD=>f_ d (k.add 1) λE=>f_ d (k.add 2) λF=>iE [Β D,Β E,Β F] d b 0 λG=>m G) (m d))) (f_ a (b.add 0) λH=>f_ a (b.add 1) λI=>f_ a (b.add 2) λJ=>iE [Β H,Β I,Β J] a e 0 λh=>f_ h (e.add 0) λL=>f_ h (e.add 1) λM=>f_ h (e.add 2) λN=>K L M N h))) (1,()) s))):=χ Tryz.func224 (gB (gB (gB (.seq (gB (.blk (.loop [(6,ν)] .leaf))) .leaf))))
theorem Ic {b c d e f g w K}:gV (zQ b c d e f g w K)
 (Ε w [Β b,Β c,Β d] 335 λh i=>Ε i [Β e,Β f,Β g] 335 λj a=>f_ a (h.add 1) λk=>f_ a (j.add 1) λl=>sG k l a λm n=>K m n):=χ Tryz.func225
theorem Nv {b c w K}:gV (sG b c w K)
 (nD b w λe f=>nD c f λd a=>(cond e (cond d (K 0 a) (K (-1) a)) (cond d (K 1 a) (cond (decide (b<c)) (K (-1) a) (cond (decide (b>c)) (K 1 a) (K 0 a)))))):=χ Tryz.func226
theorem VD {b c w K}:gV (zA b c w K)
 (iQ (S:=Int×Int×Unit) (λa d e=>(cond (decide (a.2.1>=64)) (0<=(6:Int)/\
 e ((ο.wrap (a.1+1)),(jR .i64 a.2.1 6),()) d) (K a.1 d))) (0,(Wu .i64 b c),()) w):=χ Tryz.func227 (gB (gB (.seq (gB (.blk (.loop [(5,ν),(6,ν)] .leaf))) .leaf)))
theorem LV {c b w K}:gV (oD c b w K)
 (Pt c λd=>f_ w (d.add 449) λe=>zA e b w λa f=>0<=(ο.wrap (6 * a))/\
 Pt c λg=>(0:Int)<=a/\a<(7:Int)/\
 (0:Int)<=(lZ .i64 (jR .i64 b (ο.wrap (6 * a))) 63)/\(lZ .i64 (jR .i64 b (ο.wrap (6 * a))) 63)<(64:Int)/\
 K (some ((g.add (Int.toNat a * 64)).add (Int.toNat (lZ .i64 (jR .i64 b (ο.wrap (6 * a))) 63) * 1))) f.drew):=χ Tryz.func228
theorem qy {a g w K}:gV (iR a g w K)
 (jM a g w λh j=>(cond (h==(-1)) (K a j) (iQ (S:=Int×Int×Unit) (λb d m=>(cond (decide (b.2.1<(a.len:Int))) (let k:Int->b_:=λn o=>(m (n,(ο.wrap (b.2.1+1)),()) o)
 iK a 3 b.2.1 λi=>f_ d (i.add 0) λp=>f_ d (i.add 1) λq=>f_ d (i.add 2) λr=>Ε d anm 335 λc s=>iE [Β p,Β q,Β r] s c 0 λf=>f_ f (c.add 0) λt=>f_ f (c.add 1) λu=>f_ f (c.add 2) λv=>jF υ [.one .bool] g [(Value.agg ⟨[Β t,Β u,Β v]⟩)] f λx e=>∃l:Bool,x=(Value.bool l)/\
 (cond (!l) (f_ e (c.add 0) λy=>f_ e (c.add 1) λz=>f_ e (c.add 2) λA=>iK a 3 b.1 λB=>iE [Β y,Β z,Β A] e B 0 λC=>k (ο.wrap (b.1+1)) C) (k b.1 e))) (lG a 3 b.1 (a.len:Int) λD=>JX [(Β 0),(Β 0),(Β 0)] D d λE=>lG a 3 0 b.1 λF=>K F E))) (h,(ο.wrap (h+1)),()) j))):=χ Tryz.func229 (gB (gB (gB (.seq (gB (.blk (.loop [(5,ν),(6,ν)] .leaf))) .leaf))))
theorem sV {b w K}:gV (j_ b w K)
 ((cond (Option.isNone b.a) (K ⟨none,0,0⟩ w) (Ε w [] 335 λc d=>nH 335 3 24 [(Β 0),(Β 0),(Β 0)] ⟨(some c),0,0⟩ b d λe f=>K e f))):=χ Tryz.func230
theorem JE {b c d e w K}:gV (Ai b c d e w K)
 (Ε w [Β b,Β c,Β d] 335 λf a=>f_ a.drew (f.add 1) λg=>Ld .ptr a.drew e λh=>Pt h λi=>f_ a.drew (i.add 449) λj=>K (g !=j) a.drew):=χ Tryz.func231
theorem JF {b c d e w K}:gV (Aj b c d e w K)
 (Ε w [Β b,Β c,Β d] 335 λf a=>f_ a.drew (f.add 1) λg=>Ld .ptr a.drew e λh=>Pt h λi=>f_ a.drew (i.add 449) λj=>K (g==j) a.drew):=χ Tryz.func232
theorem qX {a b w K}:gV (jk a b w K)
 (Aa (IntKind.u64.wrap (a.len:Int)) w λc d=>ji a 0 (a.len:Int) c b d λe=>K e):=χ Tryz.func233
theorem JG {b c d e f g w K}:gV (vC b c d e f g w K)
 (Ε w [Β b,Β c,Β d] 335 λh i=>Ε i [Β e,Β f,Β g] 335 λj a=>f_ a (h.add 2) λk=>f_ a (j.add 2) λl=>sG k l a λm n=>K m n):=χ Tryz.func234
theorem Nz {a b w K}:gV (sH a b w K)
 (iP (Value.pointer a)=true/\
 Ε w [.pointer a] 171 λc d=>iP (Β b)=true/\
 Ε d [Β b] 3 λe f=>K (Value.func (.func 279) #[] #[(Value.pointer (some c)),(Value.pointer (some e))]) f):=χ Tryz.func235
theorem aeJ {c a b w K}:gV (oP c a b w K)
 (iD c w λd f=>lU a b f λg e=>(cond (!g) (K d e) (Di a b e λh i=>jP d h i λj k=>K j k))):=χ Tryz.func236
theorem sS {b d w K}:gV (ku b d w K)
 (iQ (S:=Int×Unit) (λa c g=>(cond (decide (a.1<(b.len:Int))) (iK b 1 a.1 λh=>f_ c h λi=>jF υ [.one .bool] d [(Β i)] c λj e=>∃f:Bool,j=(Value.bool f)/\
 (cond f (K a.1 e) (g ((ο.wrap (a.1+1)),()) e))) (K (-1) c))) (0,()) w):=χ Tryz.func237 (gB (.seq (gB (.blk (.loop [(8,ν)] .leaf))) .leaf))
theorem XE {c d e f g h i j k l m n o p q r s t u v x y z A B C D E F G H I J L M N O w K}:gV (Gj c d e f g h i j k l m n o p q r s t u v x y z A B C D E F G H I J L M N O w K)
 (Ε w (jO c d e f g h i j k l m n o p q r s t u v x y z A B C D E F G H I J L M N) 28 λP Q=>iQ (S:=Int×Unit) (λb a R=>Ld .slice a (P.add 17) λT=>(cond (decide (b.1<(T.len:Int))) (Ld .slice a (P.add 17) λU=>iK U 1 b.1 λV=>f_ a V λW=>(cond (W==O) (K true a) (R ((ο.wrap (b.1+1)),()) a))) (K false a))) (0,()) Q):=χ Tryz.func238 (gB (.seq (gB (.blk (.loop [(5,ν)] .leaf))) .leaf))
theorem RS {a w K}:gV (BD a w K)
 (Ε w [Β 1,Β 6,Β 17] 3 λb c=>jd ⟨(some b),3,3⟩ a c λd e=>K d e):=χ Tryz.func239
theorem vT {b d w K}:gV (kX b d w K)
 (iQ (S:=Int×Unit) (λa c g=>(cond (decide (a.1<(b.len:Int))) (iK b 16 a.1 λh=>vI c h λi j k l m n o p q r s t u v x y=>jF υ [.one .bool] d [(Value.agg ⟨og i j k l m n o p q r s t u v x y⟩)] c λz e=>∃f:Bool,z=(Value.bool f)/\
 (cond f (K a.1 e) (g ((ο.wrap (a.1+1)),()) e))) (K (-1) c))) (0,()) w):=χ Tryz.func240 (gB (.seq (gB (.blk (.loop [(8,ν)] .leaf))) .leaf))
theorem rJ {d e w K}:gV (jX d e w K)
 (iQ (S:=Int×Unit) (λc a h=>(cond (decide (c.1<(d.len:Int))) (iK d 7 c.1 λb=>f_ a (b.add 0) λi=>f_ a (b.add 1) λj=>f_ a (b.add 2) λk=>f_ a (b.add 3) λl=>f_ a (b.add 4) λm=>f_ a (b.add 5) λn=>f_ a (b.add 6) λo=>jF υ [.one .bool] e [(Value.agg ⟨[Β i,Β j,Β k,Β l,Β m,Β n,Β o]⟩)] a λp f=>∃g:Bool,p=(Value.bool g)/\
 (cond g (K c.1 f) (h ((ο.wrap (c.1+1)),()) f))) (K (-1) a))) (0,()) w):=χ Tryz.func241 (gB (.seq (gB (.blk (.loop [(8,ν)] .leaf))) .leaf))
theorem xG {d e f w K}:gV (xP d e f w K)
 (Ld .slice w e λg=>iQ (S:=Int×Unit) (λa b B=>(cond (decide (a.1<(g.len:Int))) (iK g 16 a.1 λC=>vI b C λD E F G H I J L M N O P Q R T U=>Ε b (og 0 0 0 0 0 0 0 0 0 0 0 0 0 0 0 0) 23 λh V=>iE (og D E F G H I J L M N O P Q R T U) V h 0 λc=>Ld .any c f λW=>vI c h λX Y Z aa ab ac ad ae af ag ah ai aj ak al am=>jF υ [.agg TF] W [(Value.agg ⟨og X Y Z aa ab ac ad ae af ag ah ai aj ak al am⟩)] c λan ao=>∃i:Int,∃j:Int,∃k:Int,∃l:Int,∃m:Int,∃n:Int,∃o:Int,∃p:Int,∃q:Int,∃r:Int,∃s:Int,∃t:Int,∃u:Int,∃v:Int,∃x:Int,∃y:Int,an=(Value.agg ⟨og i j k l m n o p q r s t u v x y⟩)/\
 jF υ [.one .bool] d [(Value.agg ⟨og i j k l m n o p q r s t u v x y⟩)] ao λap z=>∃A:Bool,ap=(Value.bool A)/\
 (cond (!A) (K z) (B ((ο.wrap (a.1+1)),()) z))) (K b))) (0,()) w):=χ Tryz.func242 (gB (.blk (.loop [(8,ν)] .leaf)))
theorem Ey {c d e w K}:gV (EM c d e w K)
 (Ld .slice w d λf=>iQ (S:=Int×Unit) (λb a j=>(cond (decide (b.1<(f.len:Int))) (iK f 1 b.1 λk=>f_ a k λl=>Ld .any a e λm=>jF υ [.one ν] m [(Β l)] a λn o=>∃g:Int,n=(Β g)/\
 jF υ [.one .bool] c [(Β g)] o λp h=>∃i:Bool,p=(Value.bool i)/\
 (cond (!i) (K h) (j ((ο.wrap (b.1+1)),()) h))) (K a))) (0,()) w):=χ Tryz.func243 (gB (.blk (.loop [(8,ν)] .leaf)))
theorem uH {f g h w K}:gV (uT f g h w K)
 (Ld .slice w g λi=>iQ (S:=Int×Unit) (λe a p=>(cond (decide (e.1<(i.len:Int))) (iK i 7 e.1 λd=>f_ a (d.add 0) λq=>f_ a (d.add 1) λr=>f_ a (d.add 2) λs=>f_ a (d.add 3) λt=>f_ a (d.add 4) λu=>f_ a (d.add 5) λv=>f_ a (d.add 6) λx=>Ε a anv 70 λc y=>iE [Β q,Β r,Β s,Β t,Β u,Β v,Β x] y c 0 λb=>Ld .any b h λz=>f_ b (c.add 0) λA=>f_ b (c.add 1) λB=>f_ b (c.add 2) λC=>f_ b (c.add 3) λD=>f_ b (c.add 4) λE=>f_ b (c.add 5) λF=>f_ b (c.add 6) λG=>jF υ [.agg [ν,ν,ν,ν]] z [(Value.agg ⟨[Β A,Β B,Β C,Β D,Β E,Β F,Β G]⟩)] b λH I=>∃j:Int,∃k:Int,∃l:Int,∃m:Int,H=(Value.agg ⟨[Β j,Β k,Β l,Β m]⟩)/\
 jF υ [.one .bool] f [(Value.agg ⟨[Β j,Β k,Β l,Β m]⟩)] I λJ n=>∃o:Bool,J=(Value.bool o)/\
 (cond (!o) (K n) (p ((ο.wrap (e.1+1)),()) n))) (K a))) (0,()) w):=χ Tryz.func244 (gB (.blk (.loop [(8,ν)] .leaf)))
theorem uI {f g h w K}:gV (uU f g h w K)
 (Ld .slice w g λi=>iQ (S:=Int×Unit) (λe a o=>(cond (decide (e.1<(i.len:Int))) (iK i 7 e.1 λd=>f_ a (d.add 0) λp=>f_ a (d.add 1) λq=>f_ a (d.add 2) λr=>f_ a (d.add 3) λs=>f_ a (d.add 4) λt=>f_ a (d.add 5) λu=>f_ a (d.add 6) λv=>Ε a anv 70 λc x=>iE [Β p,Β q,Β r,Β s,Β t,Β u,Β v] x c 0 λb=>Ld .any b h λy=>f_ b (c.add 0) λz=>f_ b (c.add 1) λA=>f_ b (c.add 2) λB=>f_ b (c.add 3) λC=>f_ b (c.add 4) λD=>f_ b (c.add 5) λE=>f_ b (c.add 6) λF=>jF υ [.agg [ν,ν,ν]] y [(Value.agg ⟨[Β z,Β A,Β B,Β C,Β D,Β E,Β F]⟩)] b λG H=>∃j:Int,∃k:Int,∃l:Int,G=(Value.agg ⟨[Β j,Β k,Β l]⟩)/\
 jF υ [.one .bool] f [(Value.agg ⟨[Β j,Β k,Β l]⟩)] H λI m=>∃n:Bool,I=(Value.bool n)/\
 (cond (!n) (K m) (o ((ο.wrap (e.1+1)),()) m))) (K a))) (0,()) w):=χ Tryz.func245 (gB (.blk (.loop [(8,ν)] .leaf)))
theorem OW {d e b w K}:gV (yu d e b w K)
 (Ε w [Β d,Β e] 278 λf g=>f_ g (f.add 1) λa=>let h:Bool->b_:=λi j=>(K i j)
 mX b g.drew λk c=>(cond k (0<=(ο.wrap (32 - a))/\
 f_ c f λl=>0<=(ο.wrap (32 - a))/\
 h ((jR .i64 b (ο.wrap (32 - a)))==(jR .i64 l (ο.wrap (32 - a)))) c) (h false c))):=χ Tryz.func246
theorem Ny {b w K}:gV (wU b w K)
 (Pt b λl=>f_ w.drew (l.add 1) λm=>Pt b λn=>Ld .slice w.drew n λo=>(cond (decide ((ο.wrap (2 * (ο.wrap (m+1))))<=(o.len:Int))) (K w.drew) (Pt b λp=>Ld .slice w.drew p λc=>Ϙ 346 3 32 [(Value.string (bs [])),(Β 0),(Value.bool false)] (if (ο.wrap (2 * (c.len:Int)))>8 then (ο.wrap (2 * (c.len:Int))) else 8) (if (ο.wrap (2 * (c.len:Int)))>8 then (ο.wrap (2 * (c.len:Int))) else 8) w.drew λh q=>Pt b λr=>St q r (Δ h) λs=>iQ (S:=Int×Unit) (λi e t=>(cond (decide (i.1<(c.len:Int))) (let k:b_:=λu=>(t ((ο.wrap (i.1+1)),()) u)
 iK c 3 i.1 λj=>Ld .str e (j.add 0) λv=>f_ e (j.add 1) λx=>Ld .bool e (j.add 2) λy=>Ε e [.string (bs []),Β 0,.bool false] 346 λd z=>iE [.string v,Β x,.bool y] z d 0 λg=>Ld .bool g (d.add 2) λA=>(cond A (Ld .str g d λB=>jG b B g λC _ f=>Pt b λD=>Ld .slice f.drew D λE=>Ld .str f.drew (d.add 0) λF=>f_ f.drew (d.add 1) λG=>Ld .bool f.drew (d.add 2) λH=>iK E 3 C λI=>iE [.string F,Β G,.bool H] f.drew I 0 λJ=>k J) (k g))) (K e))) (0,()) s))):=χ Tryz.func247 (gB (gB (gB (gB (.blk (.loop [(33,ν)] .leaf))))))
theorem Ib {a e w K}:gV (tY a e w K)
 (lV a w λj c=>(cond (!j) (K false c) (Pt a λk=>Ld .map c (k.add 448) λl=>FC υ 3 l (Β e) (Value.agg ⟨anm⟩) c λm n=>∃f:Int,∃g:Int,∃h:Int,m=(Value.agg ⟨[Β f,Β g,Β h]⟩)/\
 Ε c anm 335 λd o=>iE [Β f,Β g,Β h] o d 0 λb=>(cond (!n) (K false b) (f_ b (d.add 0) λp=>f_ b (d.add 1) λq=>f_ b (d.add 2) λr=>qP a p q r b λi=>Pt a λs=>Ld .map i (s.add 448) λt=>FB υ 3 t (Β e) i λu=>K true u))))):=χ Tryz.func248
theorem Af {a b w K}:gV (sK a b w K)
 (vO a b w λc d=>K (decide (c>=0)) d):=χ Tryz.func249
theorem aau {a w K}:gV (FN a w K)
 (let b:Bool->Prop:=λc=>(K c w)
 (cond (decide (a>=1)) (b (decide (a<=4))) (b false))):=χ Tryz.func250
theorem acC {a b c d e f g h i j k w K}:gV (J5 a b c d e f g h i j k w K)
 (Ε w (gX a b c d e f g h i j k) 41 λm l=>Ld .slice l (m.add 9) λn=>K (ο.wrap (20+(n.len:Int))) l):=χ Tryz.func251
theorem acA {a w K}:gV (J3 a w K)
 (Dv a w λb c=>Gq b c λd e=>K d e):=χ Tryz.func252
theorem ZB {c a b w K}:gV (Dj c a b w K)
 (let e:Bool->b_:=λh d=>((cond h (K ⟨none,0,0⟩ 1 d) (let f:Bool->Prop:=λi=>((cond i (K ⟨none,0,0⟩ 3 d) (TM c 1 a (ο.wrap (a+b)) (ο.wrap (a+b)) λj=>K j 0 d)))
 (cond (decide ((c.len:Int)<b)) (f true) (f (decide (a>(ο.wrap ((c.len:Int) - b)))))))))
 FN b w λk g=>(cond (!k) (e true g) (e (decide (a<0)) g))):=χ Tryz.func253
theorem Z5 {f w K}:gV (IL f w K)
 (Ε w ξ 41 λc j=>PX f true j λe k l g m=>Ε m anu 394 λd n=>iE [Δ e,Β k,Β l] n d 0 λb=>(cond (g !=0) (iE ξ b c 0 λh=>iG h c λo p q r s t u v x y z=>K o p q r s t u v x y z g h) (Ld .slice b (d.add 0) λA=>f_ b (d.add 1) λB=>f_ b (d.add 2) λC=>wC A B C b λD E F G H I J L M N O P=>iE (gX D E F G H I J L M N O) P c 0 λi=>iG i c λQ R S T U V W X Y Z aa=>K Q R S T U V W X Y Z aa 0 i))):=χ Tryz.func254
theorem LK {a b c d e f g h i j k l m n w K}:gV (jZ a b c d e f g h i j k l m n w K)
 (Ε w (oI a b c d e f g h i j k l m) 294 λp o=>Ld .slice o ((p.add 1).add 10) λq=>zL q n 2 o λr _ s=>K r s):=χ Tryz.func255
theorem aaE {d a b w K}:gV (TY d a b w K)
 (Dq d a b w λg h i j k l m n o p q r s e t=>Ε t (oI ⟨none,0,0⟩ 0 0 0 0 0 0 0 false false ⟨none,0,0⟩ ⟨none,0,0⟩ 0) 294 λf u=>iE (oI g h i j k l m n o p q r s) u f 0 λc=>(cond (e !=0) (K ⟨none,0,0⟩ e c) (uN c f λv x y z A B C D E F G H I=>pO v x y z A B C D E F G H I 16 2 a b c λJ L=>K J 0 L))):=χ Tryz.func256
theorem Xq {d a b w K}:gV (Oi d a b w K)
 (Dq d a b w λg h i j k l m n o p q r s e t=>Ε t (oI ⟨none,0,0⟩ 0 0 0 0 0 0 0 false false ⟨none,0,0⟩ ⟨none,0,0⟩ 0) 294 λf u=>iE (oI g h i j k l m n o p q r s) u f 0 λc=>(cond (e !=0) (K ⟨none,0,0⟩ e c) (uN c f λv x y z A B C D E F G H I=>pO v x y z A B C D E F G H I 12 0 a b c λJ L=>K J 0 L))):=χ Tryz.func257
theorem Xd {h i j b w K}:gV (FQ h i j b w K)
 (Ε w [Β h,Β i,Β j,Δ b] 97 λc k=>let e:Bool->b_:=λl d=>((cond l (K 1 d) (Ld .slice d (c.add 3) λm=>(cond (decide ((m.len:Int)>65527)) (K 6 d) (K 0 d)))))
 f_ k c λn=>lU n 1 k λo f=>(cond (!o) (e true f) (f_ f (c.add 1) λp=>lU p 1 f λq g=>(cond (!q) (e true g) (f_ g (c.add 2) λr=>lU r 4 g λs t=>e (!s) t))))):=χ Tryz.func258
theorem aeK {e f c a w K}:gV (zM e f c a w K)
 (lU c a w λl g=>(cond (!l) (K ⟨none,0,0⟩ 1 g) (iD e g λh m=>Dj h f a m λn i j=>(cond (i !=0) (K ⟨none,0,0⟩ i j) (Di c a j λo p=>rZ o p λk q=>iQ (S:=Int×Unit) (λb d r=>(cond (decide (b.1<(k.len:Int))) (iK k 1 b.1 λs=>Ld (.int .u8) d s λt=>iK n 1 b.1 λu=>St d u (.int .u8 t) λv=>r ((ο.wrap (b.1+1)),()) v) (K h 0 d))) (0,()) q))))):=χ Tryz.func259 (gB (gB (gB (gB (gB (.seq (gB (.blk (.loop [(36,ν)] .leaf))) .leaf))))))
theorem aeL {a w K}:gV (IB a w K)
 (J3 a w λb c=>K (ο.wrap (65535 - b)) c):=χ Tryz.func260
theorem Jh {b w K}:gV (FM b w K)
 (iP (Δ b)=true/\
 Ε w [Δ b] 31 λc d=>K (Value.func (.func 290) #[] #[(Value.pointer (some c))]) d):=χ Tryz.func261
theorem XI {a b c d w K}:gV (uz a b c d w K)
 (AZ a 4 w λe f=>oP ⟨none,0,0⟩ e 4 f λg h=>AZ b 4 h λi j=>oP g i 4 j λk l=>AZ c 1 l λm n=>oP k m 2 n λo p=>AZ d 2 p λq r=>oP o q 2 r λs t=>K s t):=χ Tryz.func262
theorem VB {a0 a1 f0 w K}:gV (WO a0 a1 f0 w K)
 (Ld .slice w f0 λa=>zL a a0 a1 w λb _ c=>K b c):=χ Tryz.func263
theorem Hf {a w K}:gV (BO a w K)
 (K ((lZ .i64 a 6)==2) w):=χ Tryz.func264
theorem VA {a b w K}:gV (Eo a b w K)
 (let c:Bool->Prop:=λd=>((cond d (mF 1 2 b w λe f=>K e f) (cond (a==1) (mF 1 3 b w λg h=>K g h) (cond (a==2) (mF 3 2 b w λi j=>K i j) (K a w)))))
 (cond (a==0) (c (a==0)) (c (a==6)))):=χ Tryz.func265
theorem Sl {a b w K}:gV (BP a b w K)
 ((cond (a==3) (mF 4 5 b w λc d=>K c d) (cond (a==4) (mF 4 6 b w λe f=>K e f) (cond (a==5) (mF 6 5 b w λg h=>K g h) (K a w))))):=χ Tryz.func266
theorem NK {a b c w K}:gV (wY a b c w K)
 (iP (Value.pointer a)=true/\
 Ε w [.pointer a] 74 λd e=>iP (Β b)=true/\
 Ε e [Β b] 3 λf g=>iP (Β c)=true/\
 Ε g [Β c] 3 λh i=>K (Value.func (.func 293) #[] #[(Value.pointer (some d)),(Value.pointer (some f)),(Value.pointer (some h))]) i):=χ Tryz.func267
theorem RJ {a b w K}:gV (Bo a b w K)
 (let c:Bool->b_:=λf g=>(K f g)
 nD a w λh d=>(cond h (nD b d λi e=>(cond (!i) (c true e) (c (decide (a<b)) e))) (c (decide (a<b)) d))):=χ Tryz.func268
theorem LP {a w K}:gV (qN a w K)
 (K (a !=a) w):=χ Tryz.func269
theorem Ie {b c d e w K}:gV (zS b c d e w K)
 (Ε w [Β b,Β c,Β d] 335 λf a=>f_ a f λg=>f_ a e λh=>K (g==h) a):=χ Tryz.func272
theorem ZL {d c a w K}:gV (Iy d c a w K)
 (let e:Bool->Prop:=λg=>((cond g (K 0 1 w) (cond (decide (c>(ο.wrap ((d.len:Int) - a)))) (K 0 3 w) (iQ (S:=Int×Int×Unit) (λb f h=>(cond (decide (b.2.1<a)) (iK d 1 (ο.wrap (c+b.2.1)) λi=>Ld (.int .u8) f i λj=>h ((ο.wrap ((ο.wrap (b.1 * 256))+(ο.wrap j))),(ο.wrap (b.2.1+1)),()) f) (K b.1 0 f))) (0,0,()) w))))
 (cond (decide (a<1)) (e true) (cond (decide (a>4)) (e true) (e (decide (c<0)))))):=χ Tryz.func273 (gB (gB (gB (gB (.seq (gB (.blk (.loop [(8,ν),(9,ν)] .leaf))) .leaf)))))
theorem ZC {b c w K}:gV (Iq b c w K)
 (iQ (S:=Int×Int×Unit) (λa d e=>(cond (decide (a.2.1<(b.size:Int))) (afs b a.2.1 λf=>e ((IntKind.u32.wrap ((Wu .u32 a.1 (IntKind.u32.wrap f)) * 16777619)),(ο.wrap (a.2.1+1)),()) d) ((IntKind.u32.wrap c)≠0/\
 K (ο.wrap (Int.tmod a.1 (IntKind.u32.wrap c))) d))) (2166136261,0,()) w):=χ Tryz.func274 (gB (gB (.seq (gB (.blk (.loop [(5,(.int .u32)),(9,ν)] .leaf))) .leaf)))
theorem EX {a w K}:gV (nD a w K)
 (K (a !=a) w):=χ Tryz.func275
theorem qB {c e w K}:gV (jM c e w K)
 (iQ (S:=Int×Unit) (λb a h=>(cond (decide (b.1<(c.len:Int))) (iK c 3 b.1 λd=>f_ a (d.add 0) λi=>f_ a (d.add 1) λj=>f_ a (d.add 2) λk=>jF υ [.one .bool] e [(Value.agg ⟨[Β i,Β j,Β k]⟩)] a λl f=>∃g:Bool,l=(Value.bool g)/\
 (cond g (K b.1 f) (h ((ο.wrap (b.1+1)),()) f))) (K (-1) a))) (0,()) w):=χ Tryz.func276 (gB (.seq (gB (.blk (.loop [(8,ν)] .leaf))) .leaf))
theorem vH {b m n o c w K}:gV (ji b m n o c w K)
 (iQ (S:=Int×Int×Int×Bool×Bool×Unit) (λa g h=>(cond (decide ((ο.wrap (a.2.1 - a.1))<=12)) (jQ b a.1 a.2.1 c g λD=>K D) (cond (a.2.2.1==0) (vw b a.1 a.2.1 c g λE=>K E) (let p:Int->b_:=λf F=>(sU b a.1 a.2.1 c F λq r s=>let t:Int->Int->b_:=λi G u=>(let v:b_:=λd=>(let x:Bool->b_:=λH y=>((cond H (qO b a.1 a.2.1 i c y λI J=>h (I,a.2.1,f,a.2.2.2.1,a.2.2.2.2.1,()) J) (uy b a.1 a.2.1 i c y λe z A=>(8:Int)≠0/\
 (cond (decide ((ο.wrap (e - a.1))<(ο.wrap (a.2.1 - e)))) (ji b a.1 e f c A λL=>h ((ο.wrap (e+1)),a.2.1,f,(decide ((ο.wrap (e - a.1))>=(ο.wrap (Int.tdiv (ο.wrap (a.2.1 - a.1)) 8)))),z,()) L) (ji b (ο.wrap (e+1)) a.2.1 f c A λM=>h (a.1,e,f,(decide ((ο.wrap (a.2.1 - e))>=(ο.wrap (Int.tdiv (ο.wrap (a.2.1 - a.1)) 8)))),z,()) M)))))
 (cond (decide (a.1>0)) (iK b 3 (ο.wrap (a.1 - 1)) λj=>f_ d.drew (j.add 0) λN=>f_ d.drew (j.add 1) λO=>f_ d.drew (j.add 2) λP=>iK b 3 i λk=>f_ d.drew (k.add 0) λQ=>f_ d.drew (k.add 1) λR=>f_ d.drew (k.add 2) λT=>jF υ [.one ν] c [(Value.agg ⟨[Β N,Β O,Β P]⟩),(Value.agg ⟨[Β Q,Β R,Β T]⟩)] d.drew λU V=>∃B:Int,U=(Β B)/\
 x (!(decide (B<0))) V) (x false d.drew)))
 let l:Bool->Prop:=λW=>((cond W (oN b a.1 a.2.1 c u λX C=>(cond X (K C) (v C))) (v u)))
 (cond a.2.2.2.1 (cond a.2.2.2.2.1 (l (G==1)) (l false)) (l false)))
 (cond (r==2) (r_ b a.1 a.2.1 c s λY=>t (ο.wrap ((ο.wrap (a.2.1 - 1)) - (ο.wrap (q - a.1)))) 1 Y) (t q r s)))
 (cond (!a.2.2.2.1) (rG b a.1 a.2.1 c g λZ=>p (ο.wrap (a.2.2.1 - 1)) Z) (p a.2.2.1 g)))))) (m,n,o,true,true,()) w):=χ Tryz.func277 (gB (gB (.blk (.loop [(1,ν),(2,ν),(3,ν),(10,.bool),(11,.bool)] .leaf))))
theorem Qp {a w K}:gV (Aa a w K)
 (wV a w λb c=>K b c):=χ Tryz.func278
theorem Jk {d b e w K}:gV (KP d b e w K)
 (Ld .ptr w b λi=>Pt i λj=>Ld .slice w j λk=>iQ (S:=Int×Unit) (λc a l=>(cond (decide (c.1<(k.len:Int))) (f_ a.drew e λm=>Ld .ptr a.drew b λn=>Pt n λo=>Ld .slice a.drew o λf=>(f.len:Int)≠0/\
 jF υ [.one .bool] d [(Β (Int.tmod (ο.wrap (m+c.1)) (f.len:Int)))] a.drew λp g=>∃h:Bool,p=(Value.bool h)/\
 (cond (!h) (K g) (l ((ο.wrap (c.1+1)),()) g))) (K a))) (0,()) w):=χ Tryz.func279 (gB (.blk (.loop [(10,ν)] .leaf)))
theorem qC {b i w K}:gV (jP b i w K)
 (iP (Δ b)=true/\
 Ε w [Δ b] 31 λf c=>xO υ none [.one (.int .u8)] i c (λd k e l=>e.heap[d]? =e.heap[d]? /\
 Ld .slice (gQ e d) f λm=>Al (gQ e d) (.cells ⟨[.int .u8 k.1]⟩ 5) λn o=>nH 5 1 1 [(Value.int .u8 0)] m ⟨(some n),1,1⟩ o λg p=>St p f (Δ g) λq=>l .normal q)
 (λh=>Ld .slice h f λr=>Η h c/\
 K r (Ζ h c))
 (λj=>Η j c/\
 K ⟨none,0,0⟩ (Ζ j c))
 []):=χ Tryz.func280 (gB (.seq (gB (.blk (.rng [.one (.int .u8)] .leaf .leaf))) .leaf))
theorem ZA {a b w K}:gV (Di a b w K)
 (iP (Β a)=true/\
 Ε w [Β a] 3 λc d=>iP (Β b)=true/\
 Ε d [Β b] 3 λe f=>K (Value.func (.func 307) #[] #[(Value.pointer (some e)),(Value.pointer (some c))]) f):=χ Tryz.func281
theorem Dc {c d w K}:gV (vO c d w K)
 (iQ (S:=Int×Unit) (λa b e=>(cond (decide (a.1<(c.len:Int))) (iK c 1 a.1 λf=>Ld .bool b f λg=>(cond ((d:Bool)==g) (K a.1 b) (e ((ο.wrap (a.1+1)),()) b))) (K (-1) b))) (0,()) w):=χ Tryz.func282 (gB (.seq (gB (.blk (.loop [(8,ν)] .leaf))) .leaf))
theorem aaJ {b w K}:gV (Gq b w K)
 (iQ (S:=Int×Unit) (λa c d=>(cond (decide (a.1>65535)) (0<=(16:Int)/\
 d ((ο.wrap ((lZ .i64 a.1 65535)+(jR .i64 a.1 16))),()) c) (K a.1 c))) ((if (0:Int)>b then 0 else b),()) w):=χ Tryz.func283 (gB (gB (.seq (.blk (.loop [(0,ν)] .leaf)) .leaf)))
theorem ZT {f w K}:gV (Dv f w K)
 (Ε w [Β 0] 3 λb h=>St h b (Β 0) λi=>iQ (S:=(Int×Unit)×List Nat) (λa c j=>(cond (decide (a.1.1<(f.len:Int))) (iK f 1 a.1.1 λk=>Ld .slice c k λl=>FM l c λm g=>xO υ none [.one ν,.one ν] m g (λd n e o=>e.heap[d]? =e.heap[d]? /\
 f_ (gQ e d) b λp=>St (gQ e d) b (Β (ο.wrap (p+n.2.1))) λq=>o .normal q)
 (λr=>j (((ο.wrap (a.1.1+1)),()),(g.heap.size::a.2)) r)
 (λs=>wR (g.heap.size::a.2) s λt=>K 0 t)
 []) (f_ c b λu=>wR a.2 c λv=>K u v))) ((0,()),[]) i):=χ Tryz.func284 (gB (gB (.seq (gB (.blk (.loop [(10,ν)] (gB (gB (.seq (.blk (gB (gB (.blk (.rng [.one ν,.one ν] .leaf .leaf))))) .leaf)))))) .leaf)))
theorem acE {e p w K}:gV (PX e p w K)
 (Ε w anu 394 λb m=>(cond (decide ((e.len:Int)<20)) (iE anu m b 0 λg=>Ld .slice g (b.add 0) λx=>f_ g (b.add 1) λy=>f_ g (b.add 2) λz=>K x y z 3 g) (iK e 1 0 λA=>Ld (.int .u8) m A λB=>Ε m anu 394 λc C=>iE [Δ e,Β (ο.wrap ((ο.wrap (lZ .u8 B 15)) * 4)),Β 0] C c 0 λh=>Ld .slice h (c.add 0) λD=>f_ h (c.add 1) λE=>f_ h (c.add 2) λF=>iq D E F 2 2 h λG H=>St H (c.add 2) (Β G) λd=>let q:Bool->Prop:=λI=>((cond I (iE anu d b 0 λi=>Ld .slice i (b.add 0) λJ=>f_ i (b.add 1) λL=>f_ i (b.add 2) λM=>K J L M 4 i) (let n:Bool->Prop:=λN=>((cond N (iE anu d b 0 λj=>Ld .slice j (b.add 0) λO=>f_ j (b.add 1) λP=>f_ j (b.add 2) λQ=>K O P Q 3 j) (let r:Bool->b_:=λR f=>((cond R (iE anu f b 0 λk=>Ld .slice k (b.add 0) λS=>f_ k (b.add 1) λT=>f_ k (b.add 2) λU=>K S T U 4 k) (Ld .slice f (c.add 0) λo=>f_ f (c.add 1) λV=>f_ f (c.add 2) λW=>iE [Δ o,Β V,Β W] f b 0 λl=>Ld .slice l (b.add 0) λX=>f_ l (b.add 1) λY=>f_ l (b.add 2) λZ=>K X Y Z 0 l)))
 f_ d (c.add 2) λs=>f_ d (c.add 1) λt=>(cond (decide (s<t)) (r (decide (s<t)) d) (Ld .slice d (c.add 0) λaa=>f_ d (c.add 1) λab=>f_ d (c.add 2) λac=>iq aa ab ac 6 2 d λad ae=>r ((lZ .i64 ad 32768) !=0) ae)))))
 f_ d (c.add 1) λu=>(cond (decide (u>(e.len:Int))) (n (decide (u>(e.len:Int)))) (f_ d (c.add 2) λaf=>(cond (decide (af>(e.len:Int))) (n (!p)) (n false)))))))
 iK e 1 0 λag=>Ld (.int .u8) d ag λv=>0<=(4:Int)/\
 (cond ((jR .u8 v 4) !=4) (q ((jR .u8 v 4) !=4)) (f_ d (c.add 1) λah=>q (decide (ah<20))))))):=χ Tryz.func285
theorem LQ {P A1 A2 w K}:gV (wC P A1 A2 w K)
 (Ε w [Δ P,Β A1,Β A2] 394 λb w2=>Ε w2 ξ 41 λa5 Q=>Ld .slice Q (b.add 0) λx6=>f_ Q (b.add 1) λx7=>f_ Q (b.add 2) λx8=>iq x6 x7 x8 6 2 Q λW l=>let v:Addr->b_:=λF aG=>(St aG (F.add 2) (Β (ο.wrap ((lZ .i64 W 8191) * 8))) λaH=>St aH (F.add 7) (.bool ((lZ .i64 W 16384) !=0)) λaI=>St aI (F.add 8) (.bool ((lZ .i64 W 8192) !=0)) λX=>Ld .slice X b λaJ=>f_ X (b.add 1) λaK=>lG aJ 1 20 aK λaL=>iD aL X λY aM=>St aM (F.add 9) (Δ Y) λJ=>Ld .slice J b λaN=>f_ J (b.add 1) λaO=>f_ J (b.add 2) λaj=>Ld .slice J b λak=>lG aN 1 aO (if (ak.len:Int)<aj then (ak.len:Int) else aj) λaP=>iD aP J λZ aQ=>St aQ (F.add 10) (Δ Z) λal=>iG al F λaR aS aT aU aV aW aX aY aZ a0 a1=>iE (gX aR aS aT aU aV aW aX aY aZ a0 a1) al a5 0 λam=>iG am a5 λa2 a4 a6 a7 a8 a9 ba bb bc bd be=>K a2 a4 a6 a7 a8 a9 ba bb bc bd be am)
 Ld .slice l.drew (b.add 0) λs=>f_ l.drew (b.add 1) λt=>f_ l.drew (b.add 2) λu=>Ld .slice l.drew (b.add 0) λp=>f_ l.drew (b.add 1) λq=>f_ l.drew (b.add 2) λr=>Ld .slice l.drew (b.add 0) λm=>f_ l.drew (b.add 1) λn=>f_ l.drew (b.add 2) λo=>Ld .slice l.drew (b.add 0) λi=>f_ l.drew (b.add 1) λj=>f_ l.drew (b.add 2) λk=>Ld .slice l.drew (b.add 0) λf=>f_ l.drew (b.add 1) λg=>f_ l.drew (b.add 2) λh=>Ld .slice l.drew (b.add 0) λc=>f_ l.drew (b.add 1) λd=>f_ l.drew (b.add 2) λe=>(iq s t u 1 1 l.drew λG x=>Ct x b c d e<|Ct x b f g h<|Ct x b i j k<|Ct x b m n o<|Ct x b p q r<|(iq p q r 4 2 x λL H=>Ct H b c d e<|Ct H b f g h<|Ct H b i j k<|Ct H b m n o<|(iq m n o 8 1 H λR M=>Ct M b c d e<|Ct M b f g h<|Ct M b i j k<|(iq i j k 9 1 M λaa S=>Ct S b c d e<|Ct S b f g h<|(iq f g h 12 4 S λan ab=>Ct ab b c d e<|(iq c d e 16 4 ab λbf bg=>Ε bg ξ 41 λao y=>Ct y b c d e<|Ct y b f g h<|Ct y b i j k<|Ct y b m n o<|Ct y b p q r<|Ct y b s t u<|iE (gX G L 0 R aa an bf false false ⟨none,0,0⟩ ⟨none,0,0⟩) y ao 0 λbh=>v ao bh)/\
 (Ε ab ξ 41 λap z=>Ct z b c d e<|Ct z b f g h<|Ct z b i j k<|Ct z b m n o<|Ct z b p q r<|Ct z b s t u<|iq c d e 16 4 z λbi bj=>iE (gX G L 0 R aa an bi false false ⟨none,0,0⟩ ⟨none,0,0⟩) bj ap 0 λbk=>v ap bk))/\
 (Ε S ξ 41 λaq A=>Ct A b c d e<|Ct A b f g h<|Ct A b i j k<|Ct A b m n o<|Ct A b p q r<|Ct A b s t u<|iq f g h 12 4 A λbl ar=>Ct ar b c d e<|iq c d e 16 4 ar λbm bn=>iE (gX G L 0 R aa bl bm false false ⟨none,0,0⟩ ⟨none,0,0⟩) bn aq 0 λbo=>v aq bo))/\
 (Ε M ξ 41 λau B=>Ct B b c d e<|Ct B b f g h<|Ct B b i j k<|Ct B b m n o<|Ct B b p q r<|Ct B b s t u<|iq i j k 9 1 B λbp ac=>Ct ac b c d e<|Ct ac b f g h<|iq f g h 12 4 ac λbq av=>Ct av b c d e<|iq c d e 16 4 av λbr bs=>iE (gX G L 0 R bp bq br false false ⟨none,0,0⟩ ⟨none,0,0⟩) bs au 0 λbt=>v au bt))/\
 (Ε H ξ 41 λaw C=>Ct C b c d e<|Ct C b f g h<|Ct C b i j k<|Ct C b m n o<|Ct C b p q r<|Ct C b s t u<|iq m n o 8 1 C λbu T=>Ct T b c d e<|Ct T b f g h<|Ct T b i j k<|iq i j k 9 1 T λbv ad=>Ct ad b c d e<|Ct ad b f g h<|iq f g h 12 4 ad λbw ax=>Ct ax b c d e<|iq c d e 16 4 ax λbx bz=>iE (gX G L 0 bu bv bw bx false false ⟨none,0,0⟩ ⟨none,0,0⟩) bz aw 0 λbA=>v aw bA))/\
 (Ε x ξ 41 λay D=>Ct D b c d e<|Ct D b f g h<|Ct D b i j k<|Ct D b m n o<|Ct D b p q r<|Ct D b s t u<|iq p q r 4 2 D λbB N=>Ct N b c d e<|Ct N b f g h<|Ct N b i j k<|Ct N b m n o<|iq m n o 8 1 N λbC U=>Ct U b c d e<|Ct U b f g h<|Ct U b i j k<|iq i j k 9 1 U λbD ae=>Ct ae b c d e<|Ct ae b f g h<|iq f g h 12 4 ae λbE az=>Ct az b c d e<|iq c d e 16 4 az λbF bG=>iE (gX G bB 0 bC bD bE bF false false ⟨none,0,0⟩ ⟨none,0,0⟩) bG ay 0 λbH=>v ay bH))/\
 (Ε l.drew ξ 41 λaA E=>Ct E b c d e<|Ct E b f g h<|Ct E b i j k<|Ct E b m n o<|Ct E b p q r<|Ct E b s t u<|iq s t u 1 1 E λbI I=>Ct I b c d e<|Ct I b f g h<|Ct I b i j k<|Ct I b m n o<|Ct I b p q r<|iq p q r 4 2 I λbJ O=>Ct O b c d e<|Ct O b f g h<|Ct O b i j k<|Ct O b m n o<|iq m n o 8 1 O λbK V=>Ct V b c d e<|Ct V b f g h<|Ct V b i j k<|iq i j k 9 1 V λbL af=>Ct af b c d e<|Ct af b f g h<|iq f g h 12 4 af λbM aB=>Ct aB b c d e<|iq c d e 16 4 aB λbN bO=>iE (gX bI bJ 0 bK bL bM bN false false ⟨none,0,0⟩ ⟨none,0,0⟩) bO aA 0 λbP=>v aA bP)):=χ Tryz.func286
theorem ZK {b c d w K}:gV (Dq b c d w K)
 (Ε w (oI ⟨none,0,0⟩ 0 0 0 0 0 0 0 false false ⟨none,0,0⟩ ⟨none,0,0⟩ 0) 294 λa m=>vK b m λn o p q r s t u v x y z A B e C=>Ε C ξ 41 λD E=>Ε E anm 102 λF G=>iE (gX n o p q r s t u v x y) G D 0 λH=>iE [Β z,Β A,Β B] H F 0 λf=>(cond (e !=0) (iE (oI ⟨none,0,0⟩ 0 0 0 0 0 0 0 false false ⟨none,0,0⟩ ⟨none,0,0⟩ 0) f a 0 λg=>uN g a λI J L M N O P Q R S T U V=>K I J L M N O P Q R S T U V e g) (let h:Bool->b_:=λW i=>((cond W (iE (oI ⟨none,0,0⟩ 0 0 0 0 0 0 0 false false ⟨none,0,0⟩ ⟨none,0,0⟩ 0) i a 0 λj=>uN j a λX Y Z aa ab ac ad ae af ag ah ai aj=>K X Y Z aa ab ac ad ae af ag ah ai aj 1 j) (wZ b i λak al am an ao ap aq ar au av aw ax ay az aA=>iE (oI ak al am an ao ap aq ar au av aw ax ay) aA a 0 λk=>uN k a λaB aC aD aE aF aG aH aI aJ aK aL aM aN=>K aB aC aD aE aF aG aH aI aJ aK aL aM aN az k)))
 mX c f λaO l=>(cond (!aO) (h true l) (lU d 2 l λaP aQ=>h (!aP) aQ))))):=χ Tryz.func287
theorem Jw {A B C D E F G H I J L M N O P Q R w K}:gV (pO A B C D E F G H I J L M N O P Q R w K)
 (Ε w (oI A B C D E F G H I J L M N) 294 λc j=>let S:Int->Prop:=λW=>(Ld .slice j c λX=>vW X O Q 4 j λY k l Z=>Ε Z anz 417 λe aa=>iE [Β Y,Δ k,Δ l] aa e 0 λm=>Ld .slice m c λab=>f_ m (c.add 12) λac=>vW ab (ο.wrap (ac+W)) R 2 m λad n o ae=>Ε ae anz 417 λd af=>iE [Β ad,Δ n,Δ o] af d 0 λf=>Ld .slice f c λag=>f_ f (e.add 0) λah=>Ld .slice f (e.add 1) λp=>Ld .slice f (e.add 2) λq=>Ε f [Β ah,Δ p,Δ q] 417 λai aj=>w_ ag 10 ⟨(some ai),1,1⟩ aj λg T=>uN T c λak al am an ao ap aq ar au av aw ax ay=>tX ak al am an ao ap aq ar au av aw ax ay T λh b=>(cond (h==(-1)) (f_ b.drew d λaz=>lG g 1 az (g.len:Int) λaA=>Ld .slice b.drew (d.add 2) λaB=>Bg 1 aA aB b.drew λ _ aC=>K g aC) (f_ b (c.add 12) λi=>f_ b ((c.add 1).add 4) λaD=>(cond (aD==1) (f_ b (d.add 0) λaE=>Ld .slice b (d.add 1) λr=>Ld .slice b (d.add 2) λs=>Ε b [Β aE,Δ r,Δ s] 417 λaF aG=>w_ g (ο.wrap (h+i)) ⟨(some aF),1,1⟩ aG λaH aI=>K aH aI) (f_ b (e.add 0) λaJ=>Ld .slice b (e.add 1) λt=>Ld .slice b (e.add 2) λu=>f_ b (d.add 0) λaK=>Ld .slice b (d.add 1) λv=>Ld .slice b (d.add 2) λx=>Ε b [Β aJ,Δ t,Δ u,Β aK,Δ v,Δ x] 417 λaL aM=>w_ g (ο.wrap (h+i)) ⟨(some aL),2,2⟩ aM λy aN=>let U:gG->b_:=λaO aP=>(K aO aP)
 zL y (ο.wrap (h+i)) 2 aN λaQ _ z=>let V:Bool->Prop:=λaR=>((cond aR (zM y (ο.wrap (h+i)) 65535 2 z λaS _ aT=>U aS aT) (U y z)))
 (cond (aQ==0) (f_ z ((c.add 1).add 4) λaU=>V (aU==17)) (V false)))))))
 f_ j ((c.add 1).add 4) λaV=>(cond (aV==1) (S 4) (S P))):=χ Tryz.func288
theorem GZ {a w K}:gV (rZ a w K)
 (jP ⟨none,0,0⟩ a w λb c=>K b c):=χ Tryz.func289
theorem Xb {d c w K}:gV (YT d c w K)
 (iQ (S:=Int×Unit) (λb a i=>Ld .slice a c λj=>(cond (decide (b.1<(j.len:Int))) (Ld .slice a c λk=>iK k 1 b.1 λl=>Ld (.int .u8) a l λe=>0<=(8:Int)/\
 let f:Int->Prop:=λm=>(jF υ [.one .bool] d [(Β b.1),(Β m)] a λn g=>∃h:Bool,n=(Value.bool h)/\
 (cond (!h) (K g) (i ((ο.wrap (b.1+2)),()) g)))
 Ld .slice a c λo=>(cond (decide ((ο.wrap (b.1+1))<(o.len:Int))) (Ld .slice a c λp=>iK p 1 (ο.wrap (b.1+1)) λq=>Ld (.int .u8) a q λr=>f (orI .i64 (LX .i64 (ο.wrap e) 8) (ο.wrap r))) (f (LX .i64 (ο.wrap e) 8)))) (K a))) (0,()) w):=χ Tryz.func290 (gB (.blk (.loop [(3,ν)] .leaf)))
theorem acB {b a w K}:gV (AZ b a w K)
 (0<=(ο.wrap (8 * a))/\
 K (lZ .i64 b (ο.wrap ((LX .i64 1 (ο.wrap (8 * a))) - 1))) w):=χ Tryz.func291
theorem Qw {b c d w K}:gV (mF b c d w K)
 (Ε w [Β b,Β c] 400 λe a=>(cond d (f_ a e λf=>K f a) (f_ a (e.add 1) λg=>K g a))):=χ Tryz.func292
theorem Js {a0 f0 f1 f2 w K}:gV (KQ a0 f0 f1 f2 w K)
 (iP a0=true/\
 Ε w [a0] 50 λn o=>let p:Bool->b_:=λz g=>((cond z (K g) (f_ g f2 λA=>St g f2 (Β (lZ .i64 A 65535)) λd=>let q:Bool->b_:=λB e=>((cond B (K e) (Ld .ptr e f0 λC=>f_ e f1 λD=>f_ e f2 λE=>um C D E e λr F=>iQ (S:=(Int×Unit)×List Nat) (λc h G=>(cond (decide (c.1.1<(r.len:Int))) (iK r 1 c.1.1 λH=>Ld .any h H λI=>Ε h [Β 0] 3 λs J=>St J s (Β c.1.1) λi=>xO υ none [.one ν] I i (λa j b k=>b.heap[a]? =b.heap[a]? /\
 let t:Bool->Prop:=λL=>(let l:Bool->Prop:=λM=>((cond M (k .normal (gQ b a)) (Ld .any (gQ b a) n λN=>jF υ [.one .bool] N [(Β j.1)] (gQ b a) λO u=>∃v:Bool,O=(Value.bool v)/\
 (cond (!v) (k .ret u) (k .normal u)))))
 f_ (gQ b a) f2 λP=>(cond (j.1==P) (l true) (cond L (f_ (gQ b a) f1 λQ=>l (Q !=1)) (l false))))
 f_ (gQ b a) s λR=>(cond (R==1) (f_ (gQ b a) f2 λT=>t (decide (j.1>=T))) (t false)))
 (λU=>G (((ο.wrap (c.1.1+1)),()),(i.heap.size::c.2)) U)
 (λV=>wR (i.heap.size::c.2) V λW=>K W)
 [(3,(λ _=>False))]) (wR c.2 h λX=>K X))) ((0,()),[]) F)))
 Ld .ptr d.drew f0 λY=>Pt Y λx=>f_ d.drew (x.add 0) λZ=>f_ d.drew (x.add 1) λaa=>f_ d.drew f2 λab=>Ac Z aa ab d.drew λac f=>(cond ac (Ld .any f n λad=>f_ f f2 λae=>jF υ [.one .bool] ad [(Β ae)] f λaf ag=>∃y:Bool,af=(Value.bool y)/\
 q (!y) ag) (q false f)))))
 Ld .ptr o f0 λah=>kM ah o λai m=>(cond (!ai) (p true m) (f_ m f1 λaj=>uq aj m λak al=>p (!ak) al))):=χ Tryz.func293 (gB (gB (gB (gB (gB (.blk (.loop [(36,ν)] (gB (gB (.seq (.blk (gB (gB (.blk (.rng [.one ν] .leaf .leaf))))) .leaf))))))))))
theorem Qr {c d a w K}:gV (Ac c d a w K)
 (Ε w [Β c,Β d] 161 λe b=>let f:Bool->Prop:=λg=>(K g b)
 f_ b e λh=>(cond (decide (h<=a)) (f_ b (e.add 1) λi=>f (decide (a<=i))) (f false))):=χ Tryz.func294
theorem DU {u a1 h w K}:gV (um u a1 h w K)
 ((cond (a1==1) (Pt u λa4=>f_ w.drew (a4.add 0) λx5=>f_ w.drew (a4.add 1) λx6=>Pt u λa7=>f_ w.drew a7 λx8=>tK x5 x6 x8 1 w.drew λr9 cC=>PE [r9]/\
 Ε cC [r9] 266 λcD cE=>K ⟨(some cD),1,1⟩ cE) (QL (S:=(Addr×Addr×Unit)×θ) (λg=>f_ g.2.drew (g.1.1.add 0) λbi=>f_ g.2.drew (g.1.1.add 1) λbj=>f_ g.2.drew (g.1.1.add 0) λcF=>f_ g.2.drew (g.1.1.add 1) λcG=>f_ g.2.drew (g.1.1.add 0) λN=>f_ g.2.drew (g.1.1.add 1) λO=>f_ g.2.drew (g.1.1.add 0) λaf=>f_ g.2.drew (g.1.1.add 1) λag=>f_ g.2.drew (g.1.2.1.add 0) λz=>f_ g.2.drew (g.1.2.1.add 1) λA=>f_ g.2.drew (g.1.2.1.add 0) λE=>f_ g.2.drew (g.1.2.1.add 1) λF=>Pt u λn=>f_ g.2.drew (n.add 0) λo=>f_ g.2.drew (n.add 1) λp=>Pt u λq=>f_ g.2.drew (q.add 0) λv=>f_ g.2.drew (q.add 1) λx=>uo cF cG h g.2.drew λbk r=>Cj r q v x<|Cj r n o p<|Cj r g.1.2.1 E F<|Cj r g.1.2.1 z A<|Cj r g.1.1 af ag<|Cj r g.1.1 N O<|Cj r g.1.1 bi bj<|tK bi bj (if bk>(ο.wrap (h+2)) then bk else (ο.wrap (h+2))) 2 r λbl y=>Cj y q v x<|Cj y n o p<|Cj y g.1.2.1 E F<|Cj y g.1.2.1 z A<|Cj y g.1.1 af ag<|Cj y g.1.1 N O<|uo af ag h y λcH B=>Cj B q v x<|Cj B n o p<|Cj B g.1.2.1 E F<|Cj B g.1.2.1 z A<|Cj B g.1.1 N O<|tK N O cH 2 B λbm G=>Cj G q v x<|Cj G n o p<|Cj G g.1.2.1 E F<|Cj G g.1.2.1 z A<|uo E F h G λcI P=>Cj P q v x<|Cj P n o p<|Cj P g.1.2.1 z A<|tK z A cI 2 P λbn ah=>Cj ah q v x<|Cj ah n o p<|uo v x (ο.wrap (h+1)) ah λcJ bo=>Cj bo n o p<|tK o p cJ 2 bo λbp cK=>PE [bl,bm,bn,bp]/\
 Ε cK [bl,bm,bn,bp] 266 λcL cM=>K ⟨(some cL),4,4⟩ cM) λi=>Pt u λf=>f_ w.drew (f.add 0) λd=>f_ w.drew (f.add 1) λe=>Pt u λc=>f_ w.drew (c.add 0) λa=>f_ w.drew (c.add 1) λb=>(lI h w.drew λH I J=>Cj J c a b<|Cj J f d e<|(gW d e H I J λj k Q=>Cj Q c a b<|(iU h Q λL M R=>Cj R c a b<|(gW a b L M R λbq br bs=>(Ε bs anl 161 λbt ai=>Cj ai c a b<|Cj ai f d e<|Ε ai anl 161 λbu aj=>Cj aj c a b<|Cj aj f d e<|iE [Β j,Β k] aj bt 0 λcN=>iE [Β bq,Β br] cN bu 0 λcO=>i ((bt,bu,()),cO))/\
 (Ε bs anl 161 λbv ak=>Cj ak c a b<|Cj ak f d e<|Ε ak anl 161 λbw al=>Cj al c a b<|Cj al f d e<|iE [Β j,Β k] al bw 0 λcP=>iE [Β bq,Β br] cP bv 0 λcQ=>i ((bw,bv,()),cQ)))/\
 (Ε R anl 161 λT U=>Cj U c a b<|Cj U f d e<|(gW a b L M U λcR cS cT=>Ε cT anl 161 λbx am=>Cj am c a b<|Cj am f d e<|iE [Β j,Β k] am T 0 λcU=>iE [Β cR,Β cS] cU bx 0 λcV=>i ((T,bx,()),cV))/\
 (Ε U anl 161 λbz an=>Cj an c a b<|Cj an f d e<|gW a b L M an λcW cX cY=>iE [Β j,Β k] cY T 0 λcZ=>iE [Β cW,Β cX] cZ bz 0 λc0=>i ((T,bz,()),c0)))/\
 (Ε R anl 161 λV W=>Cj W c a b<|Cj W f d e<|(gW a b L M W λc1 c2 c3=>Ε c3 anl 161 λbA ao=>Cj ao c a b<|Cj ao f d e<|iE [Β j,Β k] ao bA 0 λc4=>iE [Β c1,Β c2] c4 V 0 λc5=>i ((bA,V,()),c5))/\
 (Ε W anl 161 λbB ap=>Cj ap c a b<|Cj ap f d e<|gW a b L M ap λc6 c7 c8=>iE [Β j,Β k] c8 bB 0 λc9=>iE [Β c6,Β c7] c9 V 0 λda=>i ((bB,V,()),da))))/\
 (Ε Q anl 161 λC X=>Cj X c a b<|Cj X f d e<|(iU h X λbC bD aq=>Cj aq c a b<|(gW a b bC bD aq λdb dc dd=>Ε dd anl 161 λbE ar=>Cj ar c a b<|Cj ar f d e<|iE [Β j,Β k] ar C 0 λde=>iE [Β db,Β dc] de bE 0 λdf=>i ((C,bE,()),df))/\
 (Ε aq anl 161 λbF au=>Cj au c a b<|Cj au f d e<|gW a b bC bD au λdg dh di=>iE [Β j,Β k] di C 0 λdj=>iE [Β dg,Β dh] dj bF 0 λdk=>i ((C,bF,()),dk)))/\
 (Ε X anl 161 λbG av=>Cj av c a b<|Cj av f d e<|iU h av λdl dm bH=>Cj bH c a b<|gW a b dl dm bH λdn dp dq=>iE [Β j,Β k] dq C 0 λdr=>iE [Β dn,Β dp] dr bG 0 λds=>i ((C,bG,()),ds)))/\
 (Ε Q anl 161 λD Y=>Cj Y c a b<|Cj Y f d e<|(iU h Y λbI bJ aw=>Cj aw c a b<|(gW a b bI bJ aw λdt du dv=>Ε dv anl 161 λbK ax=>Cj ax c a b<|Cj ax f d e<|iE [Β j,Β k] ax bK 0 λdw=>iE [Β dt,Β du] dw D 0 λdx=>i ((bK,D,()),dx))/\
 (Ε aw anl 161 λbL ay=>Cj ay c a b<|Cj ay f d e<|gW a b bI bJ ay λdy dz dA=>iE [Β j,Β k] dA bL 0 λdB=>iE [Β dy,Β dz] dB D 0 λdC=>i ((bL,D,()),dC)))/\
 (Ε Y anl 161 λbM az=>Cj az c a b<|Cj az f d e<|iU h az λdD dE bN=>Cj bN c a b<|gW a b dD dE bN λdF dG dH=>iE [Β j,Β k] dH bM 0 λdI=>iE [Β dF,Β dG] dI D 0 λdJ=>i ((bM,D,()),dJ))))/\
 (Ε J anl 161 λs Z=>Cj Z c a b<|Cj Z f d e<|(gW d e H I Z λaA aB aC=>Cj aC c a b<|(iU h aC λbO bP aD=>Cj aD c a b<|(gW a b bO bP aD λdK dL dM=>Ε dM anl 161 λbQ aE=>Cj aE c a b<|Cj aE f d e<|iE [Β aA,Β aB] aE s 0 λdN=>iE [Β dK,Β dL] dN bQ 0 λdO=>i ((s,bQ,()),dO))/\
 (Ε aD anl 161 λbR aF=>Cj aF c a b<|Cj aF f d e<|gW a b bO bP aF λdP dQ dR=>iE [Β aA,Β aB] dR s 0 λdS=>iE [Β dP,Β dQ] dS bR 0 λdT=>i ((s,bR,()),dT)))/\
 (Ε aC anl 161 λbS aG=>Cj aG c a b<|Cj aG f d e<|iU h aG λdU dV bT=>Cj bT c a b<|gW a b dU dV bT λdW dX dY=>iE [Β aA,Β aB] dY s 0 λdZ=>iE [Β dW,Β dX] dZ bS 0 λd0=>i ((s,bS,()),d0)))/\
 (Ε Z anl 161 λbU aH=>Cj aH c a b<|Cj aH f d e<|gW d e H I aH λd1 d2 bV=>Cj bV c a b<|iU h bV λd3 d4 bW=>Cj bW c a b<|gW a b d3 d4 bW λd5 d6 d7=>iE [Β d1,Β d2] d7 s 0 λd8=>iE [Β d5,Β d6] d8 bU 0 λd9=>i ((s,bU,()),d9)))/\
 (Ε J anl 161 λt aa=>Cj aa c a b<|Cj aa f d e<|(gW d e H I aa λaI aJ aK=>Cj aK c a b<|(iU h aK λbX bY aL=>Cj aL c a b<|(gW a b bX bY aL λea eb ec=>Ε ec anl 161 λbZ aM=>Cj aM c a b<|Cj aM f d e<|iE [Β aI,Β aJ] aM bZ 0 λed=>iE [Β ea,Β eb] ed t 0 λee=>i ((bZ,t,()),ee))/\
 (Ε aL anl 161 λb0 aN=>Cj aN c a b<|Cj aN f d e<|gW a b bX bY aN λef eg eh=>iE [Β aI,Β aJ] eh b0 0 λei=>iE [Β ef,Β eg] ei t 0 λej=>i ((b0,t,()),ej)))/\
 (Ε aK anl 161 λb1 aO=>Cj aO c a b<|Cj aO f d e<|iU h aO λek el b2=>Cj b2 c a b<|gW a b ek el b2 λem en eo=>iE [Β aI,Β aJ] eo b1 0 λep=>iE [Β em,Β en] ep t 0 λeq=>i ((b1,t,()),eq)))/\
 (Ε aa anl 161 λb3 aP=>Cj aP c a b<|Cj aP f d e<|gW d e H I aP λer es b4=>Cj b4 c a b<|iU h b4 λet eu b5=>Cj b5 c a b<|gW a b et eu b5 λev ew ex=>iE [Β er,Β es] ex b3 0 λey=>iE [Β ev,Β ew] ey t 0 λez=>i ((b3,t,()),ez))))/\
 (Ε w.drew anl 161 λl ab=>Cj ab c a b<|Cj ab f d e<|(lI h ab λb6 b7 ac=>Cj ac c a b<|Cj ac f d e<|(gW d e b6 b7 ac λaQ aR aS=>Cj aS c a b<|(iU h aS λb8 b9 aT=>Cj aT c a b<|(gW a b b8 b9 aT λeA eB eC=>Ε eC anl 161 λca aU=>Cj aU c a b<|Cj aU f d e<|iE [Β aQ,Β aR] aU l 0 λeD=>iE [Β eA,Β eB] eD ca 0 λeE=>i ((l,ca,()),eE))/\
 (Ε aT anl 161 λcb aV=>Cj aV c a b<|Cj aV f d e<|gW a b b8 b9 aV λeF eG eH=>iE [Β aQ,Β aR] eH l 0 λeI=>iE [Β eF,Β eG] eI cb 0 λeJ=>i ((l,cb,()),eJ)))/\
 (Ε aS anl 161 λcc aW=>Cj aW c a b<|Cj aW f d e<|iU h aW λeK eL cd=>Cj cd c a b<|gW a b eK eL cd λeM eN eO=>iE [Β aQ,Β aR] eO l 0 λeP=>iE [Β eM,Β eN] eP cc 0 λeQ=>i ((l,cc,()),eQ)))/\
 (Ε ac anl 161 λce aX=>Cj aX c a b<|Cj aX f d e<|gW d e b6 b7 aX λeR eS cf=>Cj cf c a b<|iU h cf λeT eU cg=>Cj cg c a b<|gW a b eT eU cg λeV eW eX=>iE [Β eR,Β eS] eX l 0 λeY=>iE [Β eV,Β eW] eY ce 0 λeZ=>i ((l,ce,()),eZ)))/\
 (Ε ab anl 161 λch aY=>Cj aY c a b<|Cj aY f d e<|lI h aY λe0 e1 aZ=>Cj aZ c a b<|Cj aZ f d e<|gW d e e0 e1 aZ λe2 e3 ci=>Cj ci c a b<|iU h ci λe4 e5 cj=>Cj cj c a b<|gW a b e4 e5 cj λe6 e7 e8=>iE [Β e2,Β e3] e8 l 0 λe9=>iE [Β e6,Β e7] e9 ch 0 λfa=>i ((l,ch,()),fa)))/\
 (Ε w.drew anl 161 λm ad=>Cj ad c a b<|Cj ad f d e<|(lI h ad λck cl ae=>Cj ae c a b<|Cj ae f d e<|(gW d e ck cl ae λa3 a5 a6=>Cj a6 c a b<|(iU h a6 λcm cn a8=>Cj a8 c a b<|(gW a b cm cn a8 λfb fc fd=>Ε fd anl 161 λco a9=>Cj a9 c a b<|Cj a9 f d e<|iE [Β a3,Β a5] a9 co 0 λfe=>iE [Β fb,Β fc] fe m 0 λff=>i ((co,m,()),ff))/\
 (Ε a8 anl 161 λcp ba=>Cj ba c a b<|Cj ba f d e<|gW a b cm cn ba λfg fh fi=>iE [Β a3,Β a5] fi cp 0 λfj=>iE [Β fg,Β fh] fj m 0 λfk=>i ((cp,m,()),fk)))/\
 (Ε a6 anl 161 λcq bb=>Cj bb c a b<|Cj bb f d e<|iU h bb λfl fm cr=>Cj cr c a b<|gW a b fl fm cr λfn fo fp=>iE [Β a3,Β a5] fp cq 0 λfq=>iE [Β fn,Β fo] fq m 0 λfr=>i ((cq,m,()),fr)))/\
 (Ε ae anl 161 λcs bc=>Cj bc c a b<|Cj bc f d e<|gW d e ck cl bc λfs ft ct=>Cj ct c a b<|iU h ct λfu fv cu=>Cj cu c a b<|gW a b fu fv cu λfw fx fy=>iE [Β fs,Β ft] fy cs 0 λfz=>iE [Β fw,Β fx] fz m 0 λfA=>i ((cs,m,()),fA)))/\
 (Ε ad anl 161 λcv bd=>Cj bd c a b<|Cj bd f d e<|lI h bd λfB fC be=>Cj be c a b<|Cj be f d e<|gW d e fB fC be λfD fE cw=>Cj cw c a b<|iU h cw λfF fG cx=>Cj cx c a b<|gW a b fF fG cx λfH fI fJ=>iE [Β fD,Β fE] fJ cv 0 λfK=>iE [Β fH,Β fI] fK m 0 λfL=>i ((cv,m,()),fL)))))):=χ Tryz.func295 (gB (gB (.join [(7,.addr),(8,.addr)] .leaf .leaf)))
theorem qY {d e k l w K}:gV (jQ d e k l w K)
 (iQ (S:=Int×Unit) (λf m p=>(cond (decide (f.1<k)) (iQ (S:=Int×Unit) (λa b q=>let n:Bool->b_:=λr c=>((cond r (iK d 3 (ο.wrap (a.1 - 1)) λg=>f_ c.drew (g.add 0) λs=>f_ c.drew (g.add 1) λt=>f_ c.drew (g.add 2) λu=>iK d 3 a.1 λh=>f_ c.drew (h.add 0) λv=>f_ c.drew (h.add 1) λx=>f_ c.drew (h.add 2) λy=>iK d 3 a.1 λz=>iE [Β s,Β t,Β u] c.drew z 0 λA=>iK d 3 (ο.wrap (a.1 - 1)) λB=>iE [Β v,Β x,Β y] A B 0 λC=>q ((ο.wrap (a.1 - 1)),()) C) (p ((ο.wrap (f.1+1)),()) c)))
 (cond (decide (a.1>e)) (iK d 3 a.1 λi=>f_ b.drew (i.add 0) λD=>f_ b.drew (i.add 1) λE=>f_ b.drew (i.add 2) λF=>iK d 3 (ο.wrap (a.1 - 1)) λj=>f_ b.drew (j.add 0) λG=>f_ b.drew (j.add 1) λH=>f_ b.drew (j.add 2) λI=>jF υ [.one ν] l [(Value.agg ⟨[Β D,Β E,Β F]⟩),(Value.agg ⟨[Β G,Β H,Β I]⟩)] b.drew λJ L=>∃o:Int,J=(Β o)/\
 n (decide (o<0)) L) (n false b.drew))) (f.1,()) m) (K m))) ((ο.wrap (e+1)),()) w):=χ Tryz.func297 (gB (.blk (.loop [(8,ν)] (gB (.seq (.blk (gB (.blk (.loop [(9,ν)] .leaf)))) .leaf)))))
theorem NC {a w K}:gV (wV a w K)
 (let d:Int->Int->Prop:=λb e=>(let f:Int->Int->Prop:=λc g=>(let h:Int->Int->Prop:=λi j=>(afs (bs [0,1,2,2,3,3,3,3,4,4,4,4,4,4,4,4,5,5,5,5,5,5,5,5,5,5,5,5,5,5,5,5,6,6,6,6,6,6,6,6,6,6,6,6,6,6,6,6,6,6,6,6,6,6,6,6,6,6,6,6,6,6,6,6,7,7,7,7,7,7,7,7,7,7,7,7,7,7,7,7,7,7,7,7,7,7,7,7,7,7,7,7,7,7,7,7,7,7,7,7,7,7,7,7,7,7,7,7,7,7,7,7,7,7,7,7,7,7,7,7,7,7,7,7,7,7,7,7,8,8,8,8,8,8,8,8,8,8,8,8,8,8,8,8,8,8,8,8,8,8,8,8,8,8,8,8,8,8,8,8,8,8,8,8,8,8,8,8,8,8,8,8,8,8,8,8,8,8,8,8,8,8,8,8,8,8,8,8,8,8,8,8,8,8,8,8,8,8,8,8,8,8,8,8,8,8,8,8,8,8,8,8,8,8,8,8,8,8,8,8,8,8,8,8,8,8,8,8,8,8,8,8,8,8,8,8,8,8,8,8,8,8,8,8,8,8,8,8,8,8,8,8,8,8,8,8]) (IntKind.u8.wrap i) λk=>K (ο.wrap (j+(ο.wrap k))) w)
 (cond (decide (c>=256)) (0<=(8:Int)/\
 h (jR .u64 c 8) (ο.wrap (g+8))) (h c g)))
 (cond (decide (b>=65536)) (0<=(16:Int)/\
 f (jR .u64 b 16) (ο.wrap (e+16))) (f b e)))
 (cond (decide (a>=4294967296)) (0<=(32:Int)/\
 d (jR .u64 a 32) 32) (d a 0))):=χ Tryz.func306
theorem UY {a0 f0 f1 w K}:gV (WJ a0 f0 f1 w K)
 (f_ w f0 λe=>iQ (S:=Int×Unit) (λa b f=>(cond (decide (a.1>=0)) (f_ b f1 λg=>0<=(ο.wrap (8 * a.1))/\
 jF υ [.one .bool] a0 [(Value.int .u8 (IntKind.u8.wrap (jR .i64 g (ο.wrap (8 * a.1)))))] b λh c=>∃d:Bool,h=(Value.bool d)/\
 (cond (!d) (K c) (f ((ο.wrap (a.1 - 1)),()) c))) (K b))) ((ο.wrap (e - 1)),()) w):=χ Tryz.func307 (gB (.blk (.loop [(4,ν)] .leaf)))
theorem Qx {b c d e f w K}:gV (iq b c d e f w K)
 (Ε w [Δ b,Β c,Β d] 394 λh g=>Ld .slice g h λi=>zL i e f g λj _ k=>K j k):=χ Tryz.func308
theorem Qu {h b i e w K}:gV (vW h b i e w K)
 (Ε w anz 417 λc j=>lG h 1 b (ο.wrap (b+e)) λk=>iD k j λf l=>oP ⟨none,0,0⟩ i e l λg m=>iE [Β b,Δ f,Δ g] m c 0 λd=>f_ d (c.add 0) λn=>Ld .slice d (c.add 1) λo=>Ld .slice d (c.add 2) λp=>K n o p d):=χ Tryz.func309
theorem Xt {f g h w K}:gV (w_ f g h w K)
 (iD f w λi p=>iQ (S:=gG×gG×Int×Unit) (λb d q=>(cond (decide (b.2.2.1<(h.len:Int))) (iK h 3 b.2.2.1 λj=>f_ d (j.add 0) λr=>Ld .slice d (j.add 1) λk=>Ld .slice d (j.add 2) λl=>Ε d anz 417 λc s=>iE [Β r,Δ k,Δ l] s c 0 λm=>f_ m.drew c λt=>lG i 1 t (i.len:Int) λu=>Ld .slice m.drew (c.add 2) λv=>Bg 1 u v m.drew λ _ n=>Ld .slice n.drew (c.add 1) λx=>Ld .slice n.drew (c.add 2) λe=>nH 5 1 1 [(Value.int .u8 0)] b.1 x n.drew λy o=>o.cell? (c.add 2)=some (Δ e)/\
 nH 5 1 1 [(Value.int .u8 0)] b.2.1 e o λz A=>q (y,z,(ο.wrap (b.2.2.1+1)),()) A) (zL f g 2 d λB _ C=>Gn B b.1 b.2.1 C λD E=>zM i g D 2 E λF _ G=>K F G))) (⟨none,0,0⟩,⟨none,0,0⟩,0,()) p):=χ Tryz.func310 (gB (gB (gB (.seq (gB (.blk (.loop [(8,.slice),(9,.slice),(18,ν)] .leaf))) .leaf))))
theorem H_ {f g h i j k l m n o p q r w K}:gV (tX f g h i j k l m n o p q r w K)
 (Ε w (oI f g h i j k l m n o p q r) 294 λc b=>Al b (.map #[] 0) λ _ t=>pq υ 3 (some b.heap.size) (Β 17) (Β 6) t λu=>pq υ 3 (some b.heap.size) (Β 6) (Β 16) u λv=>pq υ 3 (some b.heap.size) (Β 1) (Β 2) v λa=>f_ a ((c.add 1).add 4) λx=>qF υ 3 ν (some b.heap.size) (Β x) (Β 0) a λd=>let e:Bool->b_:=λy s=>((cond y (K (-1) s) (K d s)))
 Ld .slice a ((c.add 1).add 10) λz=>(cond (decide ((ο.wrap (d+2))>(z.len:Int))) (e true a) (f_ a ((c.add 1).add 4) λA=>(cond (A==17) (uN a c λB C D E F G H I J L M N O=>jZ B C D E F G H I J L M N O d a λP Q=>e (P==0) Q) (e false a))))):=χ Tryz.func311
theorem ZI {c d a b w K}:gV (tK c d a b w K)
 (Ε w [Β c,Β d] 161 λe f=>iP (Β a)=true/\
 Ε f [Β a] 3 λg h=>iP (Β b)=true/\
 Ε h [Β b] 3 λi j=>K (Value.func (.func 324) #[] #[(Value.pointer (some g)),(Value.pointer (some e)),(Value.pointer (some i))]) j):=χ Tryz.func312
theorem O_ {d e f g w K}:gV (gW d e f g w K)
 (Ε w [Β d,Β e] 161 λh n=>Ε n [Β f,Β g] 161 λi o=>Ε o anl 161 λb a=>f_ a h λj=>f_ a i λk=>f_ a (h.add 1) λl=>f_ a (i.add 1) λm=>iE [Β (if k>j then k else j),Β (if m<l then m else l)] a b 0 λc=>f_ c (b.add 0) λp=>f_ c (b.add 1) λq=>K p q c):=χ Tryz.func313
theorem Xm {d w K}:gV (lI d w K)
 (Ε w anl 161 λa e=>(cond (decide (d<1024)) (iE [Β 0,Β 1023] e a 0 λb=>f_ b (a.add 0) λf=>f_ b (a.add 1) λg=>K f g b) (iE [Β 1024,Β 65535] e a 0 λc=>f_ c (a.add 0) λh=>f_ c (a.add 1) λi=>K h i c))):=χ Tryz.func314
theorem Xn {d w K}:gV (iU d w K)
 (Ε w anl 161 λa e=>(cond (decide (d<1024)) (lI 1024 e λf g h=>iE [Β f,Β g] h a 0 λb=>f_ b (a.add 0) λi=>f_ b (a.add 1) λj=>K i j b) (lI 0 e λk l m=>iE [Β k,Β l] m a 0 λc=>f_ c (a.add 0) λn=>f_ c (a.add 1) λo=>K n o c))):=χ Tryz.func315
theorem Xl {b c d w K}:gV (uo b c d w K)
 (Ε w [Β b,Β c] 161 λe a=>f_ a e λf=>f_ a e λg=>K (ο.wrap (f+(lZ .i64 (Wu .i64 g d) 1))) a):=χ Tryz.func316
theorem XG {c h d w K}:gV (Gn c h d w K)
 (let i:Bool->Prop:=λm=>((cond m (K 0 w) (Ε w [Δ d] 31 λn o=>Dv ⟨(some n),1,1⟩ o λp q=>Ε q [Β 0] 3 λe r=>St r e (Β (ο.wrap ((ο.wrap (65535 - c))+p))) λs=>FM h s λt b=>xO υ none [.one ν,.one ν] t b (λf u g v=>g.heap[f]? =g.heap[f]? /\
 f_ (gQ g f) e λx=>St (gQ g f) e (Β (ο.wrap (x+(ο.wrap (65535 - u.2.1))))) λy=>v .normal y)
 (λj=>f_ j e λz=>Gq z j λA k=>Η k b/\
 K (ο.wrap (65535 - A)) (Ζ k b))
 (λl=>Η l b/\
 K 0 (Ζ l b))
 [])))
 (cond (decide (c<0)) (i true) (i (decide (c>65535))))):=χ Tryz.func323 (gB (gB (gB (.seq (gB (.blk (.rng [.one ν,.one ν] .leaf .leaf))) .leaf))))
theorem Vg {d e f g w K}:gV (WL d e f g w K)
 (f_ w e λi=>iQ (S:=Int×Unit) (λa b j=>f_ b (f.add 1) λk=>(cond (decide (a.1<=k)) (jF υ [.one .bool] d [(Β a.1)] b λl c=>∃h:Bool,l=(Value.bool h)/\
 (cond (!h) (K c) (f_ c g λm=>j ((ο.wrap (a.1+m)),()) c))) (K b))) (i,()) w):=χ Tryz.func324 (gB (.blk (.loop [(5,ν)] .leaf)))
end Go.Proofs
