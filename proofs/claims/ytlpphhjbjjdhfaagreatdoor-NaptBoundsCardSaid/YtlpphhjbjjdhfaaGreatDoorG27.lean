import Derived.Test.YtlpphhjbjjdhfaaGreatDoorW3
import Derived.Test.YtlpphhjbjjdhfaaGreatDoorProg
import Derived.KernelRfl
set_option maxRecDepth 100000
set_option maxHeartbeats 4000000
namespace Go.Proofs
open Gp
abbrev fM:=Ld ν
abbrev fP (T:Type):=Int->Int->Int->Int->Int->Int->Int->Int->T
abbrev fQ (x:Ann):Ann:= .seq .leaf x
theorem iw:Xo Tryz.prog:=Xo.ajz (by kernel_rfl) (by kernel_rfl)
noncomputable abbrev υ:=Tryz.prog
abbrev Β(x:Int):Value:= .int .i64 x
abbrev Δ(s:fU):Value:= .slice s.a s.len s.cap
abbrev Ε(w:θ)(l:List Value)(T:TypeId)(K:Addr->θ->Prop):Prop:=Al w (.cells ⟨l⟩ T) K
abbrev jB(w d:θ):θ:=w.putObj d.heap.size (.deferred none)
abbrev Η(w d:θ):Prop:=w.heap[d.heap.size]? =some (.deferred (some []))
abbrev ο:=IntKind.i64
theorem Α{n:Int}(h: -9223372036854775808<=n:=by omega)(k:n<=9223372036854775807:=by omega):IntKind.i64.wrap n=n:=wrap_i64 h k
abbrev amS:List Value:=[Β 0,Β 0]
abbrev amT:List Value:=[Β 0,Β 0,Β 0]
abbrev amU:List Value:=[Β 0,Β 0,Β 0,.slice none 0 0]
abbrev amV:List Value:=[Β 0,Β 0,Β 0,Β 0,Β 0,Β 0,Β 0,.bool false]
abbrev amW:List Value:=[Β 0,.bool false,Β 0,.bool false,Β 0,Β 0,Β 0]
abbrev amX:List Value:=[Β 0,Β 0,Β 0,Β 0,Β 0]
abbrev amY:List Value:=[Β 0,Β 0,.bool false,.slice none 0 0]
abbrev amZ:List Value:=[.slice none 0 0,Β 0,Β 0]
abbrev am0:List Value:=[Β 0,Β 0,Β 0,Β 0,Β 0,Β 0,Β 0]
abbrev am1:List Value:=[Β 0,.slice none 0 0,.slice none 0 0,Β 0,Β 0,Β 0,.slice none 0 0]
abbrev am2:List Value:=[Β 0,Β 0,Β 0,Β 0]
abbrev am3:List Value:=[Β 0,.slice none 0 0,.slice none 0 0]
abbrev am4:List Value:=[Β 0,Β 0,Β 0,Β 0,Β 0,.bool false]
theorem χ{f:FuncId}{k:Func}(h:υ.funcs[f]? =some k){a:List Value}{s:List Shape}{w:World}{K:SL (flat s)}{S:Prop}(n:Ann:= .leaf)(e:akh υ k s n a w K=S:=by kernel_rfl):gB (fZ υ f a s w K) S:=okF iw h n e
abbrev aeM:List Kind:=(.int .u8)::(.int .u8)::(.int .u8)::(.int .u8)::(.int .u8)::(.int .u8)::(.int .u8)::(.int .u8)::(.int .u8)::(.int .u8)::(.int .u8)::(.int .u8)::(.int .u8)::(.int .u8)::(.int .u8)::(.int .u8):: .slice:: .slice::ν::ν::ν::ν::ν::ν::ν::ν::ν::ν::ν::ν::ν::ν::ν::ν::ν:: .slice::[]
@[reducible] def jd (e f g h i j k l m n o p q r s t:Int) (b c:fU) (u v w x y z A B C D E F G H I J K:Int) (d:fU):List Value:= .int .u8 e:: .int .u8 f:: .int .u8 g:: .int .u8 h:: .int .u8 i:: .int .u8 j:: .int .u8 k:: .int .u8 l:: .int .u8 m:: .int .u8 n:: .int .u8 o:: .int .u8 p:: .int .u8 q:: .int .u8 r:: .int .u8 s:: .int .u8 t:: Δ b:: Δ c:: Β u:: Β v:: Β w:: Β x:: Β y:: Β z:: Β A:: Β B:: Β C:: Β D:: Β E:: Β F:: Β G:: Β H:: Β I:: Β J:: Β K:: Δ d::[]
@[reducible] def oN (w:θ) (a:Addr) (K:fP (fP (fU->fU->Int->Int->Int->Int->Int->Int->Int->Int->Int->Int->Int->Int->Int->Int->Int->Int->Int->fU->Prop))):Prop:=Ld (.int .u8) w (a.add 0) λb=>Ld (.int .u8) w (a.add 1) λc=>Ld (.int .u8) w (a.add 2) λd=>Ld (.int .u8) w (a.add 3) λe=>Ld (.int .u8) w (a.add 4) λf=>Ld (.int .u8) w (a.add 5) λg=>Ld (.int .u8) w (a.add 6) λh=>Ld (.int .u8) w (a.add 7) λi=>Ld (.int .u8) w (a.add 8) λj=>Ld (.int .u8) w (a.add 9) λk=>Ld (.int .u8) w (a.add 10) λl=>Ld (.int .u8) w (a.add 11) λm=>Ld (.int .u8) w (a.add 12) λn=>Ld (.int .u8) w (a.add 13) λo=>Ld (.int .u8) w (a.add 14) λp=>Ld (.int .u8) w (a.add 15) λq=>Ld .slice w (a.add 16) λr=>Ld .slice w (a.add 17) λs=>Ld ν w (a.add 18) λt=>Ld ν w (a.add 19) λu=>Ld ν w (a.add 20) λv=>Ld ν w (a.add 21) λx=>Ld ν w (a.add 22) λy=>Ld ν w (a.add 23) λz=>Ld ν w (a.add 24) λA=>Ld ν w (a.add 25) λB=>Ld ν w (a.add 26) λC=>Ld ν w (a.add 27) λD=>Ld ν w (a.add 28) λE=>Ld ν w (a.add 29) λF=>Ld ν w (a.add 30) λG=>Ld ν w (a.add 31) λH=>Ld ν w (a.add 32) λI=>Ld ν w (a.add 33) λJ=>Ld ν w (a.add 34) λL=>Ld .slice w (a.add 35) λM=>K b c d e f g h i j k l m n o p q r s t u v x y z A B C D E F G H I J L M
@[reducible] def NH (e f g:Int) (b:fU) (h i j k l m n:Int) (o p:Bool) (c d:fU) (q r s t u v w:Int):List Value:= Β e:: Β f:: Β g:: Δ b:: Β h:: Β i:: Β j:: Β k:: Β l:: Β m:: Β n:: .bool o:: .bool p:: Δ c:: Δ d:: Β q:: Β r:: Β s:: Β t:: Β u:: Β v:: Β w::[]
@[reducible] def SY (w:θ) (a:Addr) (K:Int->Int->Int->fU->Int->Int->Int->Int->Int->Int->Int->Bool->Bool->fU->fU->Int->Int->Int->Int->Int->Int->Int->Prop):Prop:=Ld ν w (a.add 0) λb=>Ld ν w (a.add 1) λc=>Ld ν w (a.add 2) λd=>Ld .slice w (a.add 3) λe=>Ld ν w (a.add 4) λf=>Ld ν w (a.add 5) λg=>Ld ν w (a.add 6) λh=>Ld ν w (a.add 7) λi=>Ld ν w (a.add 8) λj=>Ld ν w (a.add 9) λk=>Ld ν w (a.add 10) λl=>Ld .bool w (a.add 11) λm=>Ld .bool w (a.add 12) λn=>Ld .slice w (a.add 13) λo=>Ld .slice w (a.add 14) λp=>Ld ν w (a.add 15) λq=>Ld ν w (a.add 16) λr=>Ld ν w (a.add 17) λs=>Ld ν w (a.add 18) λt=>Ld ν w (a.add 19) λu=>Ld ν w (a.add 20) λv=>Ld ν w (a.add 21) λx=>K b c d e f g h i j k l m n o p q r s t u v x
abbrev vW:List Kind:=ν::ν::ν::ν::ν::ν::ν:: .bool:: .bool:: .slice:: .slice::[]
@[reducible] def gQ (d e f g h i j:Int) (k l:Bool) (b c:fU):List Value:= Β d:: Β e:: Β f:: Β g:: Β h:: Β i:: Β j:: .bool k:: .bool l:: Δ b:: Δ c::[]
abbrev ξ:List Value:=gQ 0 0 0 0 0 0 0 false false ⟨none,0,0⟩ ⟨none,0,0⟩
@[reducible] def iq (w:θ) (a:Addr) (K:Int->Int->Int->Int->Int->Int->Int->Bool->Bool->fU->fU->Prop):Prop:=Ld ν w (a.add 0) λb=>Ld ν w (a.add 1) λc=>Ld ν w (a.add 2) λd=>Ld ν w (a.add 3) λe=>Ld ν w (a.add 4) λf=>Ld ν w (a.add 5) λg=>Ld ν w (a.add 6) λh=>Ld .bool w (a.add 7) λi=>Ld .bool w (a.add 8) λj=>Ld .slice w (a.add 9) λk=>Ld .slice w (a.add 10) λl=>K b c d e f g h i j k l
@[reducible] def aj9 (e f g h i:fO) (j k l m n o p q r s t u v w x y:Int) (b c:fU) (z A B C D E F G H I J K L M N O P:Int) (d:fU) (Q:Int):List Value:= .pointer e:: .pointer f:: .pointer g:: .pointer h:: .pointer i:: .int .u8 j:: .int .u8 k:: .int .u8 l:: .int .u8 m:: .int .u8 n:: .int .u8 o:: .int .u8 p:: .int .u8 q:: .int .u8 r:: .int .u8 s:: .int .u8 t:: .int .u8 u:: .int .u8 v:: .int .u8 w:: .int .u8 x:: .int .u8 y:: Δ b:: Δ c:: Β z:: Β A:: Β B:: Β C:: Β D:: Β E:: Β F:: Β G:: Β H:: Β I:: Β J:: Β K:: Β L:: Β M:: Β N:: Β O:: Β P:: Δ d:: Β Q::[]
@[reducible] def aa4 (a b c d e f g:Int) (h i:Bool):List Value:= Β a:: Β b:: Β c:: Β d:: Β e:: Β f:: Β g:: .bool h:: .bool i::[]
@[reducible] def aj2 (w:θ) (a:Addr) (K:Int->Int->Int->Int->Int->Int->Int->Bool->Bool->Prop):Prop:=Ld ν w (a.add 0) λb=>Ld ν w (a.add 1) λc=>Ld ν w (a.add 2) λd=>Ld ν w (a.add 3) λe=>Ld ν w (a.add 4) λf=>Ld ν w (a.add 5) λg=>Ld ν w (a.add 6) λh=>Ld .bool w (a.add 7) λi=>Ld .bool w (a.add 8) λj=>K b c d e f g h i j
abbrev SX:List Kind:=(.int .u8)::(.int .u8)::(.int .u8)::(.int .u8)::(.int .u8)::(.int .u8)::(.int .u8)::(.int .u8)::(.int .u8)::(.int .u8)::(.int .u8)::(.int .u8)::(.int .u8)::(.int .u8)::(.int .u8)::(.int .u8)::[]
@[reducible] def nI (a b c d e f g h i j k l m n o p:Int):List Value:= .int .u8 a:: .int .u8 b:: .int .u8 c:: .int .u8 d:: .int .u8 e:: .int .u8 f:: .int .u8 g:: .int .u8 h:: .int .u8 i:: .int .u8 j:: .int .u8 k:: .int .u8 l:: .int .u8 m:: .int .u8 n:: .int .u8 o:: .int .u8 p::[]
@[reducible] def uS (w:θ) (a:Addr) (K:fP (fP (Prop))):Prop:=Ld (.int .u8) w (a.add 0) λb=>Ld (.int .u8) w (a.add 1) λc=>Ld (.int .u8) w (a.add 2) λd=>Ld (.int .u8) w (a.add 3) λe=>Ld (.int .u8) w (a.add 4) λf=>Ld (.int .u8) w (a.add 5) λg=>Ld (.int .u8) w (a.add 6) λh=>Ld (.int .u8) w (a.add 7) λi=>Ld (.int .u8) w (a.add 8) λj=>Ld (.int .u8) w (a.add 9) λk=>Ld (.int .u8) w (a.add 10) λl=>Ld (.int .u8) w (a.add 11) λm=>Ld (.int .u8) w (a.add 12) λn=>Ld (.int .u8) w (a.add 13) λo=>Ld (.int .u8) w (a.add 14) λp=>Ld (.int .u8) w (a.add 15) λq=>K b c d e f g h i j k l m n o p q
@[reducible] def aj_ (a b c d e f g h i j k l m n o p q r s t u v w x y z A B C D E F G H I J K L M N O P Q R S T U V W X Y Z aa ab ac ad ae:Int):List Value:= Β a:: Β b:: Β c:: Β d:: Β e:: Β f:: Β g:: Β h:: Β i:: Β j:: Β k:: Β l:: Β m:: Β n:: Β o:: Β p:: Β q:: Β r:: Β s:: Β t:: Β u:: Β v:: Β w:: Β x:: Β y:: Β z:: Β A:: Β B:: Β C:: Β D:: Β E:: Β F:: Β G:: Β H:: Β I:: Β J:: Β K:: Β L:: Β M:: Β N:: Β O:: Β P:: Β Q:: Β R:: Β S:: Β T:: Β U:: Β V:: Β W:: Β X:: Β Y:: Β Z:: Β aa:: Β ab:: Β ac:: Β ad:: Β ae::[]
abbrev aix:List Kind:= .slice::ν::ν::ν::ν::ν::ν::ν:: .bool:: .bool:: .slice:: .slice::ν::[]
@[reducible] def nV (b:fU) (e f g h i j k:Int) (l m:Bool) (c d:fU) (n:Int):List Value:= Δ b:: Β e:: Β f:: Β g:: Β h:: Β i:: Β j:: Β k:: .bool l:: .bool m:: Δ c:: Δ d:: Β n::[]
@[reducible] def uf (w:θ) (a:Addr) (K:fU->Int->Int->Int->Int->Int->Int->Int->Bool->Bool->fU->fU->Int->Prop):Prop:=Ld .slice w (a.add 0) λb=>Ld ν w (a.add 1) λc=>Ld ν w (a.add 2) λd=>Ld ν w (a.add 3) λe=>Ld ν w (a.add 4) λf=>Ld ν w (a.add 5) λg=>Ld ν w (a.add 6) λh=>Ld ν w (a.add 7) λi=>Ld .bool w (a.add 8) λj=>Ld .bool w (a.add 9) λk=>Ld .slice w (a.add 10) λl=>Ld .slice w (a.add 11) λm=>Ld ν w (a.add 12) λn=>K b c d e f g h i j k l m n
abbrev aj1:List Kind:=ν::ν::ν::ν::ν::ν::ν::ν:: .slice:: .slice::[]
@[reducible] def lM (d e f g h i j k:Int) (b c:fU):List Value:= Β d:: Β e:: Β f:: Β g:: Β h:: Β i:: Β j:: Β k:: Δ b:: Δ c::[]
@[reducible] def AV (w:θ) (a:Addr) (K:Int->Int->Int->Int->Int->Int->Int->Int->fU->fU->Prop):Prop:=Ld ν w (a.add 0) λb=>Ld ν w (a.add 1) λc=>Ld ν w (a.add 2) λd=>Ld ν w (a.add 3) λe=>Ld ν w (a.add 4) λf=>Ld ν w (a.add 5) λg=>Ld ν w (a.add 6) λh=>Ld ν w (a.add 7) λi=>Ld .slice w (a.add 8) λj=>Ld .slice w (a.add 9) λk=>K b c d e f g h i j k
@[reducible] def Ci (w:θ) (a:Addr) (n:Nat) (x:Int) (R:Prop):Prop:=w.cell? (a.add n)=some (Β x)/\R
@[reducible] def Cj (w:θ) (a:Addr) (x y:Int) (R:Prop):Prop:=Ci w a 0 x (Ci w a 1 y R)
@[reducible] def Cs (w:θ) (a:Addr) (n:Nat) (x:Value) (R:Prop):Prop:=w.cell? (a.add n)=some x/\R
@[reducible] def Ct (w:θ) (a:Addr) (s:fU) (x y:Int) (R:Prop):Prop:=Cs w a 0 (Δ s) (Ci w a 1 x (Ci w a 2 y R))
@[reducible] def Cw (w:θ) (a:Addr) (x:Value) (R:Prop):Prop:=w.cell? a=some x/\R
theorem cmS0 {f:FuncId} {vs:List Value} {w:θ} {K K':Bool->b_}:fZ υ f vs [.one .bool] w K->(∀x0 w,K x0 w->K' x0 w)->fZ υ f vs [.one .bool] w K':=fZ.mono
theorem cmS1 {f:FuncId} {vs:List Value} {w:θ} {K K':Int->b_}:fZ υ f vs [.one ν] w K->(∀x0 w,K x0 w->K' x0 w)->fZ υ f vs [.one ν] w K':=fZ.mono
theorem cmS2 {f:FuncId} {vs:List Value} {w:θ} {K K':fU->b_}:fZ υ f vs [.one .slice] w K->(∀x0 w,K x0 w->K' x0 w)->fZ υ f vs [.one .slice] w K':=fZ.mono
theorem cmS3 {f:FuncId} {vs:List Value} {w:θ} {K K':Int->Bool->b_}:fZ υ f vs [.one ν,.one .bool] w K->(∀x0 x1 w,K x0 x1 w->K' x0 x1 w)->fZ υ f vs [.one ν,.one .bool] w K':=fZ.mono
theorem cmS4 {f:FuncId} {vs:List Value} {w:θ} {K K':Value->b_}:fZ υ f vs [.one .any] w K->(∀x0 w,K x0 w->K' x0 w)->fZ υ f vs [.one .any] w K':=fZ.mono
theorem cmS5 {f:FuncId} {vs:List Value} {w:θ} {K K':(fO)->Int->b_}:fZ υ f vs [.one .ptr,.one ν] w K->(∀x0 x1 w,K x0 x1 w->K' x0 x1 w)->fZ υ f vs [.one .ptr,.one ν] w K':=fZ.mono
theorem cmS6 {f:FuncId} {vs:List Value} {w:θ} {K K':b_}:fZ υ f vs [] w K->(∀w,K w->K' w)->fZ υ f vs [] w K':=fZ.mono
theorem cmS7 {f:FuncId} {vs:List Value} {w:θ} {K K':fU->Int->b_}:fZ υ f vs [.one .slice,.one ν] w K->(∀x0 x1 w,K x0 x1 w->K' x0 x1 w)->fZ υ f vs [.one .slice,.one ν] w K':=fZ.mono
theorem cmS8 {f:FuncId} {vs:List Value} {w:θ} {K K':Int->Int->b_}:fZ υ f vs [.one ν,.one ν] w K->(∀x0 x1 w,K x0 x1 w->K' x0 x1 w)->fZ υ f vs [.one ν,.one ν] w K':=fZ.mono
theorem cmS9 {f:FuncId} {vs:List Value} {w:θ} {K K':ByteArray->b_}:fZ υ f vs [.one .str] w K->(∀x0 w,K x0 w->K' x0 w)->fZ υ f vs [.one .str] w K':=fZ.mono
theorem cmS10 {f:FuncId} {vs:List Value} {w:θ} {K K':Int->Int->Int->Int->b_}:fZ υ f vs [.agg [ν,ν,ν],.one ν] w K->(∀x0 x1 x2 x3 w,K x0 x1 x2 x3 w->K' x0 x1 x2 x3 w)->fZ υ f vs [.agg [ν,ν,ν],.one ν] w K':=fZ.mono
theorem cmS11 {f:FuncId} {vs:List Value} {w:θ} {K K':Int->Int->Int->Int->Int->Int->Int->Bool->Bool->fU->fU->Int->b_}:fZ υ f vs [.agg vW,.one ν] w K->(∀x0 x1 x2 x3 x4 x5 x6 x7 x8 x9 h u w,K x0 x1 x2 x3 x4 x5 x6 x7 x8 x9 h u w->K' x0 x1 x2 x3 x4 x5 x6 x7 x8 x9 h u w)->fZ υ f vs [.agg vW,.one ν] w K':=fZ.mono
theorem cmS12 {f:FuncId} {vs:List Value} {w:θ} {K K':Int->Int->Int->Int->Int->Int->Int->Bool->Bool->fU->fU->b_}:fZ υ f vs [.agg vW] w K->(∀x0 x1 x2 x3 x4 x5 x6 x7 x8 x9 h w,K x0 x1 x2 x3 x4 x5 x6 x7 x8 x9 h w->K' x0 x1 x2 x3 x4 x5 x6 x7 x8 x9 h w)->fZ υ f vs [.agg vW] w K':=fZ.mono
theorem cmS13 {f:FuncId} {vs:List Value} {w:θ} {K K':Int->Int->b_}:fZ υ f vs [.agg [ν,ν]] w K->(∀x0 x1 w,K x0 x1 w->K' x0 x1 w)->fZ υ f vs [.agg [ν,ν]] w K':=fZ.mono
theorem cmS14 {f:FuncId} {vs:List Value} {w:θ} {K K':Int->Int->Int->Int->Int->Int->Int->Bool->Bool->b_}:fZ υ f vs [.agg [ν,ν,ν,ν,ν,ν,ν,.bool],.one .bool] w K->(∀x0 x1 x2 x3 x4 x5 x6 x7 x8 w,K x0 x1 x2 x3 x4 x5 x6 x7 x8 w->K' x0 x1 x2 x3 x4 x5 x6 x7 x8 w)->fZ υ f vs [.agg [ν,ν,ν,ν,ν,ν,ν,.bool],.one .bool] w K':=fZ.mono
theorem cmS15 {f:FuncId} {vs:List Value} {w:θ} {K K':Int->Int->Int->Int->Int->Bool->b_}:fZ υ f vs [.agg [ν,ν,ν,ν,ν],.one .bool] w K->(∀x0 x1 x2 x3 x4 x5 w,K x0 x1 x2 x3 x4 x5 w->K' x0 x1 x2 x3 x4 x5 w)->fZ υ f vs [.agg [ν,ν,ν,ν,ν],.one .bool] w K':=fZ.mono
theorem cmS16 {f:FuncId} {vs:List Value} {w:θ} {K K':Int->Int->Int->b_}:fZ υ f vs [.agg [ν,ν,ν]] w K->(∀x0 x1 x2 w,K x0 x1 x2 w->K' x0 x1 x2 w)->fZ υ f vs [.agg [ν,ν,ν]] w K':=fZ.mono
theorem cmS17 {f:FuncId} {vs:List Value} {w:θ} {K K':(fO)->b_}:fZ υ f vs [.one .ptr] w K->(∀x0 w,K x0 w->K' x0 w)->fZ υ f vs [.one .ptr] w K':=fZ.mono
theorem cmS18 {f:FuncId} {vs:List Value} {w:θ} {K K':fU->Int->Int->Int->b_}:fZ υ f vs [.agg [.slice,ν,ν],.one ν] w K->(∀x0 x1 x2 x3 w,K x0 x1 x2 x3 w->K' x0 x1 x2 x3 w)->fZ υ f vs [.agg [.slice,ν,ν],.one ν] w K':=fZ.mono
theorem cmS19 {f:FuncId} {vs:List Value} {w:θ} {K K':Int->fU->fU->b_}:fZ υ f vs [.agg [ν,.slice,.slice]] w K->(∀x0 x1 x2 w,K x0 x1 x2 w->K' x0 x1 x2 w)->fZ υ f vs [.agg [ν,.slice,.slice]] w K':=fZ.mono
theorem cmS20 {f:FuncId} {vs:List Value} {w:θ} {K K':fP (fP (fU->fU->Int->Int->Int->Int->Int->Int->Int->Int->Int->Int->Int->Int->Int->Int->Int->Int->Int->fU->b_))}:fZ υ f vs [.agg aeM] w K->(∀x0 x1 x2 x3 x4 x5 x6 x7 x8 x9 h u I J N O R U W Y Z aa ab ac ae af ag ah ai aj ak am an ao aq ar w,K x0 x1 x2 x3 x4 x5 x6 x7 x8 x9 h u I J N O R U W Y Z aa ab ac ae af ag ah ai aj ak am an ao aq ar w->K' x0 x1 x2 x3 x4 x5 x6 x7 x8 x9 h u I J N O R U W Y Z aa ab ac ae af ag ah ai aj ak am an ao aq ar w)->fZ υ f vs [.agg aeM] w K':=fZ.mono
theorem cmS21 {f:FuncId} {vs:List Value} {w:θ} {K K':fP (fP (b_))}:fZ υ f vs [.agg SX] w K->(∀x0 x1 x2 x3 x4 x5 x6 x7 x8 x9 h u I J N O w,K x0 x1 x2 x3 x4 x5 x6 x7 x8 x9 h u I J N O w->K' x0 x1 x2 x3 x4 x5 x6 x7 x8 x9 h u I J N O w)->fZ υ f vs [.agg SX] w K':=fZ.mono
def Bl (c d e f g h i j k l m n o p q r:Int) (s t:fU) (u v x y z A B C D E F G H I J L M:Int) (N b:fU) (w:θ) (K:Bool->b_):=fZ υ 3 [.agg ⟨jd c d e f g h i j k l m n o p q r s t u v x y z A B C D E F G H I J L M N⟩,Δ b] [.one .bool] w K
def DU (a b c d e f g h i j k l m n o p:Int) (q r:fU) (s t u v x y z A B C D E F G H I J:Int) (L:fU) (w:θ) (K:Bool->b_):=fZ υ 4 [.agg ⟨jd a b c d e f g h i j k l m n o p q r s t u v x y z A B C D E F G H I J L⟩] [.one .bool] w K
def H_ (b:fU) (w:θ) (K:Bool->b_):=fZ υ 5 [Δ b] [.one .bool] w K
def uT (w:θ) (K:Bool->b_):=fZ υ 6 [] [.one .bool] w K
def Fz (a b c d e f g h i j k l m n o p:Int) (q r:fU) (s t u v x y z A B C D E F G H I J:Int) (L:fU) (w:θ) (K:(fO)->Int->b_):=fZ υ 7 [.agg ⟨jd a b c d e f g h i j k l m n o p q r s t u v x y z A B C D E F G H I J L⟩] [.one .ptr,.one ν] w K
def Fv (c:fO) (b:fU) (w:θ) (K:b_):=fZ υ 8 [.pointer c,Δ b] [] w K
def Bq (e f g h i j k l m n o p q r s t:Int) (u v:fU) (x y z A B C D E F G H I J L M N O:Int) (P:fU) (Q:Int) (b c:fU) (R S T:Int) (d:fU) (w:θ) (K:Int->b_):=fZ υ 9 [.agg ⟨jd e f g h i j k l m n o p q r s t u v x y z A B C D E F G H I J L M N O P⟩,(.agg ⟨[Β Q,Δ b,Δ c,Β R,Β S,Β T,Δ d]⟩)] [.one ν] w K
def vJ (a:fO) (w:θ) (K:Int->fU->fU->Int->Int->Int->fU->b_):=fZ υ 10 [.pointer a] [.agg [ν,.slice,.slice,ν,ν,ν,.slice]] w K
def DV (a b c d e f g h i j k l m n o p:Int) (q r:fU) (s t u v x y z A B C D E F G H I J:Int) (L:fU) (w:θ) (K:Bool->b_):=fZ υ 11 [.agg ⟨jd a b c d e f g h i j k l m n o p q r s t u v x y z A B C D E F G H I J L⟩] [.one .bool] w K
def yL (a b c d e f g h i j k l m n o p:Int) (q r:fU) (s t u v x y z A B C D E F G H I J:Int) (L:fU) (w:θ) (K:Int->b_):=fZ υ 12 [.agg ⟨jd a b c d e f g h i j k l m n o p q r s t u v x y z A B C D E F G H I J L⟩] [.one ν] w K
def rH (a:fO) (b c d e f g h i:Int) (j k:Bool) (l m:fU) (w:θ) (K:Int->Int->Int->Int->Int->Int->Int->Bool->Bool->fU->fU->Int->b_):=fZ υ 14 [.pointer a,Β b,.agg ⟨gQ c d e f g h i j k l m⟩] [.agg vW,.one ν] w K
def nH (a:fO) (b c d e f g h:Int) (i j:Bool) (k l:fU) (w:θ) (K:Int->Int->Int->Int->Int->Int->Int->Int->Bool->Bool->fU->fU->Int->b_):=fZ υ 17 [.pointer a,.agg ⟨gQ b c d e f g h i j k l⟩] [.one ν,.agg vW,.one ν] w K
def AZ (a b c d e f g h i j k l m n o p:Int) (q r:fU) (s t u v x y z A B C D E F G H I J:Int) (L:fU) (w:θ) (K:Int->b_):=fZ υ 18 [.agg ⟨jd a b c d e f g h i j k l m n o p q r s t u v x y z A B C D E F G H I J L⟩] [.one ν] w K
def MC (b:fU) (c d:Int) (w:θ) (K:(fO)->Int->b_):=fZ υ 19 [Δ b,Β c,Β d] [.one .ptr,.one ν] w K
def Ib (a b:Int) (w:θ) (K:(fO)->Int->b_):=fZ υ 20 [Β a,Β b] [.one .ptr,.one ν] w K
def Md (a:Int) (w:θ) (K:(fO)->Int->b_):=fZ υ 21 [Β a] [.one .ptr,.one ν] w K
def D8 (a:Int) (w:θ) (K:(fO)->Int->b_):=fZ υ 22 [Β a] [.one .ptr,.one ν] w K
def Iq (a:Int) (w:θ) (K:(fO)->Int->b_):=fZ υ 23 [Β a] [.one .ptr,.one ν] w K
def oz (a:fO) (b c d e f g h:Int) (w:θ) (K:Int->b_):=fZ υ 24 [.pointer a,(.agg ⟨[Β b,Β c,Β d,Β e,Β f,Β g,Β h]⟩)] [.one ν] w K
def xI (a b c:Int) (d:fU) (e f g h i j k:Int) (l m:Bool) (n o:fU) (p q r s t u v:Int) (w:θ) (K:Int->Int->Int->Int->Int->Int->Int->Bool->Bool->fU->fU->b_):=fZ υ 25 [.agg ⟨NH a b c d e f g h i j k l m n o p q r s t u v⟩] [.agg vW] w K
def nS (a:fO) (b:Int) (w:θ) (K:Int->b_):=fZ υ 26 [.pointer a,Β b] [.one ν] w K
def uy (a:fO) (b:Int) (w:θ) (K:Int->b_):=fZ υ 27 [.pointer a,Β b] [.one ν] w K
def uz (a:fO) (b c d e:Int) (w:θ) (K:Int->b_):=fZ υ 28 [.pointer a,(.agg ⟨[Β b,Β c,Β d,Β e]⟩)] [.one ν] w K
def BF (e f g h i j k l m n o p q r s t:Int) (u v:fU) (x y z A B C D E F G H I J L M N O:Int) (P:fU) (Q:Int) (b c:fU) (R S T:Int) (d:fU) (w:θ) (K:Int->b_):=fZ υ 29 [.agg ⟨jd e f g h i j k l m n o p q r s t u v x y z A B C D E F G H I J L M N O P⟩,(.agg ⟨[Β Q,Δ b,Δ c,Β R,Β S,Β T,Δ d]⟩)] [.one ν] w K
def jk (a:fO) (w:θ) (K:Bool->b_):=fZ υ 30 [.pointer a] [.one .bool] w K
def oG (a:fO) (w:θ) (K:Int->b_):=fZ υ 31 [.pointer a] [.one ν] w K
def yC (a:fO) (w:θ) (K:Value->b_):=fZ υ 32 [.pointer a] [.one .any] w K
def uG (a:fO) (w:θ) (K:Value->b_):=fZ υ 33 [.pointer a] [.one .any] w K
def zN (a b c d e f g h i j k l m n o p:Int) (q r:fU) (s t u v x y z A B C D E F G H I J:Int) (L:fU) (w:θ) (K:Bool->b_):=fZ υ 34 [.agg ⟨jd a b c d e f g h i j k l m n o p q r s t u v x y z A B C D E F G H I J L⟩] [.one .bool] w K
def D6 (a b c d e f g h i j k l m n o p:Int) (q r:fU) (s t u v x y z A B C D E F G H I J:Int) (L:fU) (w:θ) (K:Bool->b_):=fZ υ 35 [.agg ⟨jd a b c d e f g h i j k l m n o p q r s t u v x y z A B C D E F G H I J L⟩] [.one .bool] w K
def D7 (a b c d e f g h i j k l m n o p:Int) (q r:fU) (s t u v x y z A B C D E F G H I J:Int) (L:fU) (w:θ) (K:Bool->b_):=fZ υ 36 [.agg ⟨jd a b c d e f g h i j k l m n o p q r s t u v x y z A B C D E F G H I J L⟩] [.one .bool] w K
def mX (a:fO) (b:Int) (w:θ) (K:Bool->b_):=fZ υ 38 [.pointer a,Β b] [.one .bool] w K
def Ae (a b c d e f g:Int) (h i:Bool) (j k:fU) (w:θ) (K:Bool->b_):=fZ υ 39 [.agg ⟨gQ a b c d e f g h i j k⟩] [.one .bool] w K
def Ad (a b c d e f g:Int) (h i:Bool) (j k:fU) (w:θ) (K:Int->Int->Int->fU->Bool->b_):=fZ υ 40 [.agg ⟨gQ a b c d e f g h i j k⟩] [.agg [ν,ν,ν,.slice],.one .bool] w K
def qh (c:fO) (d e f g h i j k:Int) (l m:Bool) (n o:fU) (p q r:Int) (b:fU) (w:θ) (K:Int->Int->Int->Int->Int->Int->Int->Bool->Bool->fU->fU->Int->b_):=fZ υ 41 [.pointer c,Β d,.agg ⟨gQ e f g h i j k l m n o⟩,(.agg ⟨[Β p,Β q,Β r,Δ b]⟩)] [.agg vW,.one ν] w K
def FD (a b c d e f g:Int) (h i:Bool) (j k:fU) (w:θ) (K:Int->Int->Int->Int->b_):=fZ υ 42 [.agg ⟨gQ a b c d e f g h i j k⟩] [.agg [ν,ν,ν],.one ν] w K
def FB (a:Int) (w:θ) (K:Int->b_):=fZ υ 43 [Β a] [.one ν] w K
def jT (a:fO) (b c d e f g h i j k l m n:Int) (o p:Bool) (q r:fU) (w:θ) (K:Int->Bool->Int->Bool->Int->Int->Int->Value->b_):=fZ υ 44 [.pointer a,(.agg ⟨[Β b,Β c,Β d,Β e]⟩),(.agg ⟨[Β f,Β g]⟩),.agg ⟨gQ h i j k l m n o p q r⟩] [.agg [ν,.bool,ν,.bool,ν,ν,ν],.one .any] w K
def uU (a b c:Int) (w:θ) (K:Int->Int->b_):=fZ υ 45 [Β a,Β b,Β c] [.agg [ν,ν]] w K
def H8 (a b:Value) (w:θ) (K:Bool->b_):=fZ υ 46 [a,b] [.one .bool] w K
def nM (a:fO) (b:Int) (c:Bool) (d:Int) (e:Bool) (f g h i j:Int) (w:θ) (K:b_):=fZ υ 47 [.pointer a,(.agg ⟨[Β b,.bool c,Β d,.bool e,Β f,Β g,Β h]⟩),Β i,Β j] [] w K
def kL (a:fO) (b:Int) (w:θ) (K:Int->Int->Int->Int->Int->Int->Int->Bool->Bool->b_):=fZ υ 48 [.pointer a,Β b] [.agg [ν,ν,ν,ν,ν,ν,ν,.bool],.one .bool] w K
def FC (a b c d e f g:Int) (h i:Bool) (j k:fU) (l m:Int) (w:θ) (K:Int->Int->Int->Int->Int->Int->Int->Bool->Bool->fU->fU->Int->b_):=fZ υ 49 [.agg ⟨gQ a b c d e f g h i j k⟩,Β l,Β m] [.agg vW,.one ν] w K
def yI (b:fU) (w:θ) (K:Int->Int->Int->Int->Int->Int->Int->Bool->Bool->fU->fU->Int->b_):=fZ υ 50 [Δ b] [.agg vW,.one ν] w K
def qZ (c:fO) (d e f g h i j:Int) (k l:Bool) (m n:fU) (o p q:Int) (b:fU) (w:θ) (K:Int->Int->Int->Int->Int->Int->Int->Int->Bool->Bool->fU->fU->Int->b_):=fZ υ 53 [.pointer c,.agg ⟨gQ d e f g h i j k l m n⟩,(.agg ⟨[Β o,Β p,Β q,Δ b]⟩)] [.one ν,.agg vW,.one ν] w K
def oW (a:fO) (b c d:Int) (w:θ) (K:Int->Bool->b_):=fZ υ 54 [.pointer a,(.agg ⟨[Β b,Β c,Β d]⟩)] [.one ν,.one .bool] w K
def qj (a:fO) (b:Int) (c:Bool) (d:Int) (e:Bool) (f g h:Int) (w:θ) (K:Int->Bool->Int->Bool->Int->Int->Int->b_):=fZ υ 55 [.pointer a,(.agg ⟨[Β b,.bool c,Β d,.bool e,Β f,Β g,Β h]⟩)] [.agg [ν,.bool,ν,.bool,ν,ν,ν]] w K
def Bh (c d e:Int) (b:fU) (w:θ) (K:Bool->b_):=fZ υ 56 [Β c,(.agg ⟨[Β d,Β e]⟩),Δ b] [.one .bool] w K
def vM (a:fO) (b:Int) (w:θ) (K:fU->b_):=fZ υ 57 [.pointer a,Β b] [.one .slice] w K
def uD (a:fO) (b:Int) (c:Bool) (d:Int) (e:Bool) (f g h i j k l m n o:Int) (p q:Bool) (r s:fU) (w:θ) (K:Int->b_):=fZ υ 58 [.pointer a,(.agg ⟨[Β b,.bool c,Β d,.bool e,Β f,Β g,Β h]⟩),.agg ⟨gQ i j k l m n o p q r s⟩] [.one ν] w K
def MF (a b c d e f g:Int) (h i:Bool) (j k:fU) (l m:Int) (w:θ) (K:Int->Int->Int->Int->Int->Int->Int->Bool->Bool->fU->fU->Int->b_):=fZ υ 59 [.agg ⟨gQ a b c d e f g h i j k⟩,Β l,Β m] [.agg vW,.one ν] w K
def zJ (a b c d e f g h i j k l m n o p:Int) (q r:fU) (s t u v x y z A B C D E F G H I J:Int) (L:fU) (w:θ) (K:fU->b_):=fZ υ 60 [.agg ⟨jd a b c d e f g h i j k l m n o p q r s t u v x y z A B C D E F G H I J L⟩] [.one .slice] w K
def kN (a b c:Int) (w:θ) (K:Bool->b_):=fZ υ 61 [(.agg ⟨[Β a,Β b,Β c]⟩)] [.one .bool] w K
def Bg (a:Int) (w:θ) (K:Bool->b_):=fZ υ 62 [Β a] [.one .bool] w K
def Bc (a b c d e f g h i j k l m n o p:Int) (q r:fU) (s t u v x y z A B C D E F G H I J:Int) (L:fU) (w:θ) (K:Bool->b_):=fZ υ 63 [.agg ⟨jd a b c d e f g h i j k l m n o p q r s t u v x y z A B C D E F G H I J L⟩] [.one .bool] w K
def xG (a b c d e f g h i j k l m n o p:Int) (q r:fU) (s t u v x y z A B C D E F G H I J:Int) (L:fU) (w:θ) (K:Bool->b_):=fZ υ 64 [.agg ⟨jd a b c d e f g h i j k l m n o p q r s t u v x y z A B C D E F G H I J L⟩] [.one .bool] w K
def r_ (a:Int) (w:θ) (K:Bool->b_):=fZ υ 65 [Β a] [.one .bool] w K
def iR (b:fU) (c:Int) (w:θ) (K:Bool->b_):=fZ υ 66 [Δ b,Β c] [.one .bool] w K
def ni (b:fU) (w:θ) (K:fU->b_):=fZ υ 67 [Δ b] [.one .slice] w K
def Bj (a:Int) (w:θ) (K:(fO)->Int->b_):=fZ υ 68 [Β a] [.one .ptr,.one ν] w K
def wI (a:fO) (b c d e f g h:Int) (w:θ) (K:Bool->b_):=fZ υ 69 [.pointer a,(.agg ⟨[Β b,Β c,Β d,Β e,Β f,Β g,Β h]⟩)] [.one .bool] w K
def nJ (a:fO) (b c d e:Int) (w:θ) (K:Int->Bool->b_):=fZ υ 70 [.pointer a,(.agg ⟨[Β b,Β c,Β d,Β e]⟩)] [.one ν,.one .bool] w K
def oP (a:fO) (b:Int) (w:θ) (K:Int->b_):=fZ υ 71 [.pointer a,Β b] [.one ν] w K
def qm (a:fO) (w:θ) (K:Bool->b_):=fZ υ 72 [.pointer a] [.one .bool] w K
def qx (a:fO) (b:Int) (w:θ) (K:Int->b_):=fZ υ 73 [.pointer a,Β b] [.one ν] w K
def xM (a:fO) (b c d:Int) (w:θ) (K:Int->b_):=fZ υ 74 [.pointer a,(.agg ⟨[Β b,Β c,Β d]⟩)] [.one ν] w K
def yA (a:fO) (b c d e f g h:Int) (i:Bool) (w:θ) (K:Int->Int->b_):=fZ υ 75 [.pointer a,(.agg ⟨[Β b,Β c,Β d,Β e,Β f,Β g,Β h,.bool i]⟩)] [.one ν,.one ν] w K
def rD (a:fO) (b:Int) (w:θ) (K:fU->b_):=fZ υ 76 [.pointer a,Β b] [.one .slice] w K
def mO (a:fO) (b:Int) (w:θ) (K:Int->Int->Int->Int->Int->Bool->b_):=fZ υ 77 [.pointer a,Β b] [.agg [ν,ν,ν,ν,ν],.one .bool] w K
def mZ (a:fO) (b:Int) (w:θ) (K:Bool->b_):=fZ υ 78 [.pointer a,Β b] [.one .bool] w K
def sD (a:fO) (b:Int) (w:θ) (K:Bool->b_):=fZ υ 79 [.pointer a,Β b] [.one .bool] w K
def jZ (a:fO) (b:Int) (w:θ) (K:b_):=fZ υ 80 [.pointer a,Β b] [] w K
def xJ (a:fO) (b:Int) (w:θ) (K:Value->b_):=fZ υ 81 [.pointer a,Β b] [.one .any] w K
def mM (a:fO) (b:Int) (w:θ) (K:b_):=fZ υ 82 [.pointer a,Β b] [] w K
def rJ (e:Int) (b c:fU) (f g h:Int) (d:fU) (w:θ) (K:Bool->b_):=fZ υ 83 [(.agg ⟨[Β e,Δ b,Δ c,Β f,Β g,Β h,Δ d]⟩)] [.one .bool] w K
def Aj (e:Int) (b c:fU) (f g h:Int) (d:fU) (i:Int) (w:θ) (K:Int->b_):=fZ υ 84 [(.agg ⟨[Β e,Δ b,Δ c,Β f,Β g,Β h,Δ d]⟩),Β i] [.one ν] w K
def BG (a b c d e f g h i j k l m n o p:Int) (q r:fU) (s t u v x y z A B C D E F G H I J:Int) (L:fU) (M N O P Q R S:Int) (T:Bool) (w:θ) (K:Bool->b_):=fZ υ 85 [.agg ⟨jd a b c d e f g h i j k l m n o p q r s t u v x y z A B C D E F G H I J L⟩,(.agg ⟨[Β M,Β N,Β O,Β P,Β Q,Β R,Β S,.bool T]⟩)] [.one .bool] w K
def kX (a:fO) (w:θ) (K:Bool->b_):=fZ υ 86 [.pointer a] [.one .bool] w K
abbrev GR:FuncId:=87
def QX (a:Value) (b:Addr) (w:θ) (K:b_):=fZ υ 87 [a,(.pointer (some b))] [] w K
def lD (a:fO) (w:θ) (K:Bool->b_):=fZ υ 88 [.pointer a] [.one .bool] w K
abbrev xB:FuncId:=89
def G8 (a:Value) (b:Addr) (w:θ) (K:b_):=fZ υ 89 [a,(.pointer (some b))] [] w K
def jh (a:fO) (w:θ) (K:Bool->b_):=fZ υ 90 [.pointer a] [.one .bool] w K
def iO (a b c:Int) (w:θ) (K:Bool->b_):=fZ υ 91 [Β a,Β b,Β c] [.one .bool] w K
def Ag (a b c d e f g h i j k l m n o p:Int) (w:θ) (K:Bool->b_):=fZ υ 92 [.agg ⟨nI a b c d e f g h i j k l m n o p⟩] [.one .bool] w K
def Af (a:Int) (w:θ) (K:Bool->b_):=fZ υ 93 [Β a] [.one .bool] w K
def BD (a b c d e f g h i j k l m n o p:Int) (q r:fU) (s t u v x y z A B C D E F G H I J:Int) (L:fU) (M N O P Q R S:Int) (w:θ) (K:Bool->b_):=fZ υ 94 [.agg ⟨jd a b c d e f g h i j k l m n o p q r s t u v x y z A B C D E F G H I J L⟩,(.agg ⟨[Β M,Β N,Β O,Β P,Β Q,Β R,Β S]⟩)] [.one .bool] w K
def F6 (a b c d e f g:Int) (h i:Bool) (j k:fU) (w:θ) (K:Int->b_):=fZ υ 95 [.agg ⟨gQ a b c d e f g h i j k⟩] [.one ν] w K
def F7 (a b c d e f g:Int) (h i:Bool) (j k:fU) (w:θ) (K:Bool->b_):=fZ υ 96 [.agg ⟨gQ a b c d e f g h i j k⟩] [.one .bool] w K
def Aa (b:fU) (w:θ) (K:Int->Int->Int->fU->Int->b_):=fZ υ 97 [Δ b] [.agg [ν,ν,ν,.slice],.one ν] w K
def Fp (a:Int) (w:θ) (K:Bool->b_):=fZ υ 98 [Β a] [.one .bool] w K
def uV (b:fU) (w:θ) (K:Int->Int->Int->Int->Int->Int->Int->Bool->Bool->fU->fU->Int->Int->Int->Int->b_):=fZ υ 99 [Δ b] [.agg vW,.agg [ν,ν,ν],.one ν] w K
def Dc (c d e f g h i:Int) (j k:Bool) (l m:fU) (n o p:Int) (b:fU) (q:Bool) (r s:Int) (w:θ) (K:Int->Int->Int->Int->Int->Int->Int->Bool->Bool->fU->fU->b_):=fZ υ 100 [.agg ⟨gQ c d e f g h i j k l m⟩,(.agg ⟨[Β n,Β o,Β p,Δ b]⟩),.bool q,Β r,Β s] [.agg vW] w K
def sG (a b c d e f g:Int) (h i:Bool) (j k:fU) (w:θ) (K:Value->Int->b_):=fZ υ 101 [.agg ⟨gQ a b c d e f g h i j k⟩] [.one .any,.one ν] w K
def C_ (a:Int) (b:Bool) (c:Int) (d:Bool) (e f g h i j k l m n:Int) (o p:Bool) (q r:fU) (s:Bool) (w:θ) (K:Int->Bool->b_):=fZ υ 102 [(.agg ⟨[Β a,.bool b,Β c,.bool d,Β e,Β f,Β g]⟩),.agg ⟨gQ h i j k l m n o p q r⟩,.bool s] [.one ν,.one .bool] w K
def Bo (a b c d e f g:Int) (h i:Bool) (j k:fU) (w:θ) (K:Bool->b_):=fZ υ 103 [.agg ⟨gQ a b c d e f g h i j k⟩] [.one .bool] w K
def nU (a:fO) (w:θ) (K:Bool->b_):=fZ υ 104 [.pointer a] [.one .bool] w K
def vK (a:fO) (b c d e:Int) (w:θ) (K:Int->Value->b_):=fZ υ 105 [.pointer a,(.agg ⟨[Β b,Β c,Β d,Β e]⟩)] [.one ν,.one .any] w K
def DN (a b c d e f g h i j k l m n o p:Int) (q r:fU) (s t u v x y z A B C D E F G H I J:Int) (L:fU) (M N:Int) (w:θ) (K:Int->b_):=fZ υ 110 [.agg ⟨jd a b c d e f g h i j k l m n o p q r s t u v x y z A B C D E F G H I J L⟩,Β M,Β N] [.one ν] w K
def uI (a:fO) (b c d:Int) (w:θ) (K:Bool->b_):=fZ υ 111 [.pointer a,Β b,Β c,Β d] [.one .bool] w K
def uF (a:fO) (b c d e f:Int) (w:θ) (K:Int->Int->b_):=fZ υ 112 [.pointer a,(.agg ⟨[Β b,Β c,Β d,Β e,Β f]⟩)] [.one ν,.one ν] w K
def rO (a:fO) (b c:Int) (w:θ) (K:Int->b_):=fZ υ 113 [.pointer a,Β b,Β c] [.one ν] w K
def yE (a:fO) (b:Int) (w:θ) (K:Bool->b_):=fZ υ 114 [.pointer a,Β b] [.one .bool] w K
def yF (a b c d e f g:Int) (h i:Bool) (j k:fU) (l m n o:Int) (w:θ) (K:Int->Int->Int->Int->Int->Int->Int->Bool->Bool->fU->fU->Int->b_):=fZ υ 115 [.agg ⟨gQ a b c d e f g h i j k⟩,(.agg ⟨[Β l,Β m]⟩),(.agg ⟨[Β n,Β o]⟩)] [.agg vW,.one ν] w K
def FQ (b:fU) (c:Bool) (w:θ) (K:Int->Int->Int->Int->Int->Int->Int->Bool->Bool->fU->fU->Int->b_):=fZ υ 116 [Δ b,.bool c] [.agg vW,.one ν] w K
def yH (a b c d e f g:Int) (h i:Bool) (j k:fU) (w:θ) (K:Int->b_):=fZ υ 121 [.agg ⟨gQ a b c d e f g h i j k⟩] [.one ν] w K
def wM (a b c d e f g:Int) (h i:Bool) (j k:fU) (w:θ) (K:Int->b_):=fZ υ 123 [.agg ⟨gQ a b c d e f g h i j k⟩] [.one ν] w K
def oZ (a:fO) (b:ByteArray) (w:θ) (K:Int->Bool->b_):=fZ υ 124 [.pointer a,.string b] [.one ν,.one .bool] w K
def qM (a b c:Int) (w:θ) (K:ByteArray->b_):=fZ υ 125 [(.agg ⟨[Β a,Β b,Β c]⟩)] [.one .str] w K
def oD (a:fO) (b c d:Int) (w:θ) (K:Int->Bool->b_):=fZ υ 126 [.pointer a,Β b,(.agg ⟨[Β c,Β d]⟩)] [.one ν,.one .bool] w K
def kK (b:fU) (c:Value) (w:θ) (K:Bool->b_):=fZ υ 127 [Δ b,c] [.one .bool] w K
def Pg (a b:Int) (c:Addr) (w:θ) (K:Bool->b_):=fZ υ 128 [(.agg ⟨[Β a,Β b]⟩),(.pointer (some c))] [.one .bool] w K
def lN (b:fU) (c d:Int) (w:θ) (K:Bool->b_):=fZ υ 129 [Δ b,(.agg ⟨[Β c,Β d]⟩)] [.one .bool] w K
def nN (a:fO) (b:Int) (w:θ) (K:Value->b_):=fZ υ 130 [.pointer a,Β b] [.one .any] w K
abbrev PU:FuncId:=131
def O9 (a b c d e f g h i j k l m n o p:Int) (w:θ) (K:Bool->b_):=fZ υ 131 [.agg ⟨nI a b c d e f g h i j k l m n o p⟩] [.one .bool] w K
def FV (a b c d e f g h i j k l m n o p:Int) (w:θ) (K:Bool->b_):=fZ υ 132 [.agg ⟨nI a b c d e f g h i j k l m n o p⟩] [.one .bool] w K
abbrev PV:FuncId:=133
def O_ (a:Int) (w:θ) (K:Bool->b_):=fZ υ 133 [Β a] [.one .bool] w K
abbrev PW:FuncId:=134
def Pe (a b c d e f g:Int) (h:Addr) (w:θ) (K:Bool->b_):=fZ υ 134 [(.agg ⟨[Β a,Β b,Β c,Β d,Β e,Β f,Β g]⟩),(.pointer (some h))] [.one .bool] w K
def DR (a b c d e f g h i j k l m n o p:Int) (q r:fU) (s t u v x y z A B C D E F G H I J:Int) (L:fU) (M N O P Q R S:Int) (w:θ) (K:Bool->b_):=fZ υ 135 [.agg ⟨jd a b c d e f g h i j k l m n o p q r s t u v x y z A B C D E F G H I J L⟩,(.agg ⟨[Β M,Β N,Β O,Β P,Β Q,Β R,Β S]⟩)] [.one .bool] w K
def jS (b:fU) (c:Value) (w:θ) (K:Bool->b_):=fZ υ 136 [Δ b,c] [.one .bool] w K
def jV (b:fU) (c:Value) (w:θ) (K:Bool->b_):=fZ υ 137 [Δ b,c] [.one .bool] w K
def jq (b:fU) (c:Value) (w:θ) (K:Bool->b_):=fZ υ 138 [Δ b,c] [.one .bool] w K
def jR (b:fU) (w:θ) (K:fU->b_):=fZ υ 139 [Δ b] [.one .slice] w K
abbrev MS:FuncId:=140
def A_ (a b c d e f g:Int) (w:θ) (K:Int->Int->Int->Int->b_):=fZ υ 140 [(.agg ⟨[Β a,Β b,Β c,Β d,Β e,Β f,Β g]⟩)] [.agg [ν,ν,ν,ν]] w K
abbrev MV:FuncId:=141
def Ba (a b c d e f g:Int) (w:θ) (K:Int->Int->Int->b_):=fZ υ 141 [(.agg ⟨[Β a,Β b,Β c,Β d,Β e,Β f,Β g]⟩)] [.agg [ν,ν,ν]] w K
def qg (a:Value) (w:θ) (K:Bool->b_):=fZ υ 142 [a] [.one .bool] w K
def lY (b:fU) (c:Value) (w:θ) (K:Value->b_):=fZ υ 143 [Δ b,c] [.one .any] w K
abbrev EF:FuncId:=144
def vX (a b c d e f g h i j k l m n o p:Int) (w:θ) (K:fP (fP (b_))):=fZ υ 144 [.agg ⟨nI a b c d e f g h i j k l m n o p⟩] [.agg SX] w K
def vI (a:Value) (w:θ) (K:Bool->b_):=fZ υ 145 [a] [.one .bool] w K
def qY (b:fU) (c:Value) (w:θ) (K:Value->b_):=fZ υ 146 [Δ b,c] [.one .any] w K
abbrev KE:FuncId:=147
def Ky (a:Int) (w:θ) (K:Int->b_):=fZ υ 147 [Β a] [.one ν] w K
def oL (a:Value) (w:θ) (K:Bool->b_):=fZ υ 148 [a] [.one .bool] w K
def kD (b:fU) (c:Value) (w:θ) (K:Value->b_):=fZ υ 149 [Δ b,c] [.one .any] w K
def oM (a:Value) (w:θ) (K:Bool->b_):=fZ υ 150 [a] [.one .bool] w K
def kF (b:fU) (c:Value) (w:θ) (K:Value->b_):=fZ υ 151 [Δ b,c] [.one .any] w K
abbrev MW:FuncId:=152
def Me (a:Int) (b:Addr) (w:θ) (K:Bool->b_):=fZ υ 152 [Β a,(.pointer (some b))] [.one .bool] w K
def lS (a:Int) (w:θ) (K:Bool->b_):=fZ υ 153 [Β a] [.one .bool] w K
def TD (c:Int) (b:fU) (w:θ) (K:Bool->b_):=fZ υ 154 [Β c,Δ b] [.one .bool] w K
def nC (b:fU) (c:Int) (w:θ) (K:Int->b_):=fZ υ 155 [Δ b,Β c] [.one ν] w K
def vG (a:fO) (b:Int) (w:θ) (K:Bool->b_):=fZ υ 156 [.pointer a,Β b] [.one .bool] w K
def CZ (a:Int) (w:θ) (K:Bool->b_):=fZ υ 157 [Β a] [.one .bool] w K
def qL (a b c d:Int) (w:θ) (K:ByteArray->b_):=fZ υ 158 [(.agg ⟨[Β a,Β b,Β c,Β d]⟩)] [.one .str] w K
def pz (a:fO) (b:Int) (w:θ) (K:(fO)->Int->b_):=fZ υ 159 [.pointer a,Β b] [.one .ptr,.one ν] w K
def DL (a:fO) (w:θ) (K:Int->b_):=fZ υ 160 [.pointer a] [.one ν] w K
def vO (a b:Int) (w:θ) (K:Bool->b_):=fZ υ 161 [(.agg ⟨[Β a,Β b]⟩)] [.one .bool] w K
def jU (a:fO) (w:θ) (K:Bool->b_):=fZ υ 162 [.pointer a] [.one .bool] w K
def tC (a:Int) (w:θ) (K:Bool->b_):=fZ υ 163 [Β a] [.one .bool] w K
def AX (a:fO) (w:θ) (K:Int->Bool->b_):=fZ υ 164 [.pointer a] [.one ν,.one .bool] w K
def o9 (a:fO) (b:ByteArray) (c:Int) (w:θ) (K:Int->b_):=fZ υ 165 [.pointer a,.string b,Β c] [.one ν] w K
def vS (a:fO) (w:θ) (K:Int->Bool->b_):=fZ υ 166 [.pointer a] [.one ν,.one .bool] w K
def oH (a:fO) (b:Int) (w:θ) (K:b_):=fZ υ 167 [.pointer a,Β b] [] w K
def wO (a:fO) (w:θ) (K:fU->b_):=fZ υ 168 [.pointer a] [.one .slice] w K
def mP (a:fO) (b:Int) (w:θ) (K:Bool->b_):=fZ υ 169 [.pointer a,Β b] [.one .bool] w K
def mJ (a:fO) (b:ByteArray) (w:θ) (K:Bool->b_):=fZ υ 170 [.pointer a,.string b] [.one .bool] w K
def uY (a b c:Int) (w:θ) (K:ByteArray->b_):=fZ υ 171 [Β a,(.agg ⟨[Β b,Β c]⟩)] [.one .str] w K
def ny (b:fU) (c:Value) (w:θ) (K:fU->b_):=fZ υ 172 [Δ b,c] [.one .slice] w K
abbrev Ed:FuncId:=173
def uX (a:Int) (b:Addr) (w:θ) (K:Bool->b_):=fZ υ 173 [Β a,(.pointer (some b))] [.one .bool] w K
def xE (a:fO) (b:Int) (w:θ) (K:Bool->b_):=fZ υ 174 [.pointer a,Β b] [.one .bool] w K
def xK (a:fO) (b c d:Int) (w:θ) (K:Bool->b_):=fZ υ 175 [.pointer a,(.agg ⟨[Β b,Β c,Β d]⟩)] [.one .bool] w K
def vN (a:fO) (b:Int) (w:θ) (K:Int->b_):=fZ υ 176 [.pointer a,Β b] [.one ν] w K
abbrev BU:FuncId:=177
def MB (a:Value) (b c:Addr) (w:θ) (K:b_):=fZ υ 177 [a,(.pointer (some b)),(.pointer (some c))] [] w K
def oC (a:fO) (b:Int) (w:θ) (K:b_):=fZ υ 178 [.pointer a,Β b] [] w K
def FU (a b c d e f g h i j k l m n o p:Int) (q r:fU) (s t u v x y z A B C D E F G H I J:Int) (L:fU) (M:Int) (w:θ) (K:Bool->b_):=fZ υ 179 [.agg ⟨jd a b c d e f g h i j k l m n o p q r s t u v x y z A B C D E F G H I J L⟩,Β M] [.one .bool] w K
def zn (b:fU) (w:θ) (K:Bool->b_):=fZ υ 180 [Δ b] [.one .bool] w K
def kW (a b:Int) (w:θ) (K:Bool->b_):=fZ υ 181 [Β a,Β b] [.one .bool] w K
def Ph (a b c d e f g:Int) (h i:Bool) (j k:fU) (w:θ) (K:Int->b_):=fZ υ 182 [.agg ⟨gQ a b c d e f g h i j k⟩] [.one ν] w K
def zl (b:fU) (w:θ) (K:Bool->b_):=fZ υ 183 [Δ b] [.one .bool] w K
def yZ (b:fU) (c d:Int) (w:θ) (K:Int->Int->b_):=fZ υ 184 [Δ b,Β c,Β d] [.one ν,.one ν] w K
def g_ (b:fU) (w:θ) (K:fU->b_):=fZ υ 185 [Δ b] [.one .slice] w K
def Fq (c:Int) (b:fU) (w:θ) (K:Bool->b_):=fZ υ 186 [Β c,Δ b] [.one .bool] w K
def wK (b:fU) (w:θ) (K:fU->Int->Int->Int->Int->Int->Int->Int->Bool->Bool->fU->fU->Int->Int->b_):=fZ υ 187 [Δ b] [.agg aix,.one ν] w K
def sH (a:fU) (b c d e f g h:Int) (i j:Bool) (k l:fU) (m:Int) (w:θ) (K:Int->Int->Int->Int->b_):=fZ υ 188 [.agg ⟨nV a b c d e f g h i j k l m⟩] [.agg [ν,ν,ν],.one ν] w K
def zM (c d e:Int) (b:fU) (f:Bool) (g h:Int) (w:θ) (K:Int->Int->Int->fU->Int->b_):=fZ υ 189 [(.agg ⟨[Β c,Β d,Β e,Δ b]⟩),.bool f,Β g,Β h] [.agg [ν,ν,ν,.slice],.one ν] w K
def z_ (c d e:Int) (b:fU) (w:θ) (K:fU->Int->b_):=fZ υ 190 [(.agg ⟨[Β c,Β d,Β e,Δ b]⟩)] [.one .slice,.one ν] w K
def Io (c d:Int) (b:fU) (w:θ) (K:Int->Int->Bool->fU->Int->b_):=fZ υ 191 [Β c,Β d,Δ b] [.agg [ν,ν,.bool,.slice],.one ν] w K
def Ij (c d:Int) (b:fU) (w:θ) (K:Int->Int->Int->Int->Int->Int->Int->Int->fU->fU->Int->b_):=fZ υ 192 [Β c,Β d,Δ b] [.agg aj1,.one ν] w K
def Ac (a:Int) (w:θ) (K:Bool->b_):=fZ υ 193 [Β a] [.one .bool] w K
def FW (a:Int) (b:Bool) (c:Int) (w:θ) (K:Int->Bool->b_):=fZ υ 194 [Β a,.bool b,Β c] [.one ν,.one .bool] w K
def DW (a b c d e f g:Int) (h i:Bool) (j k:fU) (w:θ) (K:Int->b_):=fZ υ 195 [.agg ⟨gQ a b c d e f g h i j k⟩] [.one ν] w K
def uH (a:fO) (w:θ) (K:Int->b_):=fZ υ 196 [.pointer a] [.one ν] w K
def sV (a:fO) (b c d:Int) (w:θ) (K:Int->Int->Int->Int->b_):=fZ υ 197 [.pointer a,Β b,Β c,Β d] [.agg [ν,ν,ν],.one ν] w K
def jl (b:fU) (c:Value) (w:θ) (K:Int->b_):=fZ υ 201 [Δ b,c] [.one ν] w K
abbrev G_:FuncId:=202
def xA (a b c d e:Int) (f:Bool) (w:θ) (K:Bool->b_):=fZ υ 202 [(.agg ⟨[Β a,Β b,Β c,Β d,Β e,.bool f]⟩)] [.one .bool] w K
def lZ (b:fU) (c:Int) (w:θ) (K:Int->Bool->b_):=fZ υ 203 [Δ b,Β c] [.one ν,.one .bool] w K
def pG (b:fU) (d:Int) (c:fU) (w:θ) (K:fU->b_):=fZ υ 204 [Δ b,Β d,Δ c] [.one .slice] w K
def qB (a:fO) (b c d:Int) (w:θ) (K:b_):=fZ υ 205 [.pointer a,(.agg ⟨[Β b,Β c,Β d]⟩)] [] w K
def rP (a:fO) (b c d:Int) (w:θ) (K:b_):=fZ υ 206 [.pointer a,(.agg ⟨[Β b,Β c,Β d]⟩)] [] w K
def jG (b:fU) (c d:Int) (w:θ) (K:Int->b_):=fZ υ 207 [Δ b,Β c,Β d] [.one ν] w K
theorem Ap {a b c w K d}:jG a b c w K->(∀e w,K e w->d e w)->jG a b c w d:=fZ.mono
def DX (b:fU) (w:θ) (K:Bool->b_):=fZ υ 208 [Δ b] [.one .bool] w K
def Bz (b c:fU) (w:θ) (K:Int->Int->Int->Int->Int->Int->Int->Bool->Bool->fU->fU->b_):=fZ υ 209 [Δ b,Δ c] [.agg vW] w K
def mY (a b:Int) (w:θ) (K:Bool->b_):=fZ υ 210 [Β a,Β b] [.one .bool] w K
def Di (b:fU) (w:θ) (K:Int->b_):=fZ υ 212 [Δ b] [.one ν] w K
def yG (a:Int) (w:θ) (K:Bool->b_):=fZ υ 214 [Β a] [.one .bool] w K
def Ah (a b c d e f g:Int) (h i:Bool) (j k:fU) (w:θ) (K:Int->b_):=fZ υ 215 [.agg ⟨gQ a b c d e f g h i j k⟩] [.one ν] w K
def nK (a:fO) (w:θ) (K:Bool->b_):=fZ υ 216 [.pointer a] [.one .bool] w K
def jo (a:fO) (b:ByteArray) (w:θ) (K:Int->Bool->b_):=fZ υ 217 [.pointer a,.string b] [.one ν,.one .bool] w K
def Fh (b:fU) (w:θ) (K:ByteArray->b_):=fZ υ 218 [Δ b] [.one .str] w K
def lI (b:fU) (c:Value) (w:θ) (K:Int->b_):=fZ υ 219 [Δ b,c] [.one ν] w K
def mQ (b:fU) (c d:Int) (w:θ) (K:Int->b_):=fZ υ 220 [Δ b,(.agg ⟨[Β c,Β d]⟩)] [.one ν] w K
abbrev sO:FuncId:=221
def Ie (a:Value) (b c:Addr) (w:θ) (K:b_):=fZ υ 221 [a,(.pointer (some b)),(.pointer (some c))] [] w K
def Bf (a:Int) (w:θ) (K:Bool->b_):=fZ υ 222 [Β a] [.one .bool] w K
def kH (b:fU) (c:Value) (w:θ) (K:Int->b_):=fZ υ 223 [Δ b,c] [.one ν] w K
def jQ (b:fU) (c:Value) (w:θ) (K:Int->b_):=fZ υ 224 [Δ b,c] [.one ν] w K
def jJ (b:fU) (c:Value) (w:θ) (K:Int->b_):=fZ υ 225 [Δ b,c] [.one ν] w K
abbrev xu:FuncId:=226
def xq (a:Value) (b c:Addr) (w:θ) (K:b_):=fZ υ 226 [a,(.pointer (some b)),(.pointer (some c))] [] w K
abbrev ED:FuncId:=227
def Ew (a:Value) (b c:Addr) (w:θ) (K:b_):=fZ υ 227 [a,(.pointer (some b)),(.pointer (some c))] [] w K
abbrev uN:FuncId:=228
def uo (a:Value) (b c:Addr) (w:θ) (K:b_):=fZ υ 228 [a,(.pointer (some b)),(.pointer (some c))] [] w K
abbrev uO:FuncId:=229
def uq (a:Value) (b c:Addr) (w:θ) (K:b_):=fZ υ 229 [a,(.pointer (some b)),(.pointer (some c))] [] w K
def xH (a b c:Int) (w:θ) (K:Bool->b_):=fZ υ 230 [(.agg ⟨[Β a,Β b]⟩),Β c] [.one .bool] w K
def wG (a:fO) (w:θ) (K:b_):=fZ υ 231 [.pointer a] [] w K
def jK (b:fU) (c:Value) (w:θ) (K:Int->Int->Int->b_):=fZ υ 232 [Δ b,c] [.agg [ν,ν,ν]] w K
abbrev IV:FuncId:=233
def zu (a b c d e f:Int) (w:θ) (K:Int->b_):=fZ υ 233 [(.agg ⟨[Β a,Β b,Β c]⟩),(.agg ⟨[Β d,Β e,Β f]⟩)] [.one ν] w K
def rF (a b:Int) (w:θ) (K:Int->b_):=fZ υ 234 [Β a,Β b] [.one ν] w K
def yM (a b:Int) (w:θ) (K:Int->b_):=fZ υ 235 [Β a,Β b] [.one ν] w K
def nO (a:fO) (b:Int) (w:θ) (K:(fO)->b_):=fZ υ 236 [.pointer a,Β b] [.one .ptr] w K
def iJ (b:fU) (c:Value) (w:θ) (K:fU->b_):=fZ υ 237 [Δ b,c] [.one .slice] w K
def jP (b:fU) (w:θ) (K:fU->b_):=fZ υ 238 [Δ b] [.one .slice] w K
abbrev KG:FuncId:=239
def zU (a b c:Int) (d:Addr) (w:θ) (K:Bool->b_):=fZ υ 239 [(.agg ⟨[Β a,Β b,Β c]⟩),(.pointer (some d))] [.one .bool] w K
abbrev KH:FuncId:=240
def zX (a b c:Int) (d:Addr) (w:θ) (K:Bool->b_):=fZ υ 240 [(.agg ⟨[Β a,Β b,Β c]⟩),(.pointer (some d))] [.one .bool] w K
def iW (b:fU) (c:Value) (w:θ) (K:b_):=fZ υ 241 [Δ b,c] [] w K
abbrev oV:FuncId:=242
def uK (a b c d e f:Int) (w:θ) (K:Int->b_):=fZ υ 242 [(.agg ⟨[Β a,Β b,Β c]⟩),(.agg ⟨[Β d,Β e,Β f]⟩)] [.one ν] w K
def rG (a:fO) (b:Int) (w:θ) (K:Value->b_):=fZ υ 243 [.pointer a,Β b] [.one .any] w K
def ou (b:fU) (c d:Int) (w:θ) (K:fU->b_):=fZ υ 244 [Δ b,Β c,Β d] [.one .slice] w K
def sK (a:fO) (b:Int) (w:θ) (K:Bool->b_):=fZ υ 245 [.pointer a,Β b] [.one .bool] w K
def rM (b:fU) (c:Bool) (w:θ) (K:Bool->b_):=fZ υ 246 [Δ b,.bool c] [.one .bool] w K
def Fg (a:Int) (w:θ) (K:Bool->b_):=fZ υ 247 [Β a] [.one .bool] w K
def JI (a b c d e f g:Int) (h i:Bool) (j k:fU) (w:θ) (K:Int->b_):=fZ υ 248 [.agg ⟨gQ a b c d e f g h i j k⟩] [.one ν] w K
def JH (b:fU) (w:θ) (K:Int->b_):=fZ υ 249 [Δ b] [.one ν] w K
def CY (b:fU) (c d:Int) (w:θ) (K:fU->Int->b_):=fZ υ 250 [Δ b,Β c,Β d] [.one .slice,.one ν] w K
def Ip (b:fU) (w:θ) (K:Int->Int->Int->Int->Int->Int->Int->Bool->Bool->fU->fU->Int->b_):=fZ υ 251 [Δ b] [.agg vW,.one ν] w K
def jO (a:fU) (b c d e f g h:Int) (i j:Bool) (k l:fU) (m n:Int) (w:θ) (K:Int->b_):=fZ υ 252 [.agg ⟨nV a b c d e f g h i j k l m⟩,Β n] [.one ν] w K
def TF (b:fU) (c d:Int) (w:θ) (K:fU->Int->b_):=fZ υ 253 [Δ b,Β c,Β d] [.one .slice,.one ν] w K
def NP (b:fU) (c d:Int) (w:θ) (K:fU->Int->b_):=fZ υ 254 [Δ b,Β c,Β d] [.one .slice,.one ν] w K
def Fj (c d e:Int) (b:fU) (w:θ) (K:Int->b_):=fZ υ 255 [(.agg ⟨[Β c,Β d,Β e,Δ b]⟩)] [.one ν] w K
def zi (b:fU) (c d e:Int) (w:θ) (K:fU->Int->b_):=fZ υ 256 [Δ b,Β c,Β d,Β e] [.one .slice,.one ν] w K
def Ig (b:fU) (w:θ) (K:Int->b_):=fZ υ 257 [Δ b] [.one ν] w K
def Fe (b:fU) (w:θ) (K:Value->b_):=fZ υ 258 [Δ b] [.one .any] w K
def tJ (a b c d:Int) (w:θ) (K:fU->b_):=fZ υ 259 [Β a,Β b,Β c,Β d] [.one .slice] w K
abbrev V9:FuncId:=260
def VW (a b:Int) (c:Addr) (w:θ) (K:Int->b_):=fZ υ 260 [Β a,Β b,(.pointer (some c))] [.one ν] w K
def BH (a:Int) (w:θ) (K:Bool->b_):=fZ υ 261 [Β a] [.one .bool] w K
def D_ (a:Int) (b:Bool) (w:θ) (K:Int->b_):=fZ υ 262 [Β a,.bool b] [.one ν] w K
def BI (a:Int) (b:Bool) (w:θ) (K:Int->b_):=fZ υ 263 [Β a,.bool b] [.one ν] w K
def wJ (a:fO) (b c:Int) (w:θ) (K:Value->b_):=fZ υ 264 [.pointer a,Β b,Β c] [.one .any] w K
def AY (a b:Int) (w:θ) (K:Bool->b_):=fZ υ 265 [Β a,Β b] [.one .bool] w K
def qy (a:Int) (w:θ) (K:Bool->b_):=fZ υ 266 [Β a] [.one .bool] w K
def D9 (b:fU) (c:Int) (w:θ) (K:b_):=fZ υ 268 [Δ b,Β c] [] w K
abbrev IW:FuncId:=269
def zA (a b c:Int) (d:Addr) (w:θ) (K:Bool->b_):=fZ υ 269 [(.agg ⟨[Β a,Β b,Β c]⟩),(.pointer (some d))] [.one .bool] w K
def Ic (b:fU) (c d:Int) (w:θ) (K:Int->Int->b_):=fZ υ 270 [Δ b,Β c,Β d] [.one ν,.one ν] w K
def Dh (a:Int) (w:θ) (K:Int->b_):=fZ υ 271 [Β a] [.one ν] w K
def FM (b:fU) (c:Int) (w:θ) (K:Int->b_):=fZ υ 272 [Δ b,Β c] [.one ν] w K
def FN (a:Int) (w:θ) (K:Int->b_):=fZ υ 273 [Β a] [.one ν] w K
def H9 (a:ByteArray) (b:Int) (w:θ) (K:Int->b_):=fZ υ 274 [.string a,Β b] [.one ν] w K
def mD (a:Int) (w:θ) (K:Bool->b_):=fZ υ 275 [Β a] [.one .bool] w K
def jA (b:fU) (c:Value) (w:θ) (K:Int->b_):=fZ υ 276 [Δ b,c] [.one ν] w K
def iV (b:fU) (c d e:Int) (f:Value) (w:θ) (K:b_):=fZ υ 277 [Δ b,Β c,Β d,Β e,f] [] w K
def zK (a:Int) (w:θ) (K:Int->b_):=fZ υ 278 [.int .u64 a] [.one ν] w K
abbrev zY:FuncId:=279
def Kz (a:Value) (b c:Addr) (w:θ) (K:b_):=fZ υ 279 [a,(.pointer (some b)),(.pointer (some c))] [] w K
def jC (b:fU) (c:Value) (w:θ) (K:fU->b_):=fZ υ 280 [Δ b,c] [.one .slice] w K
def CX (a b:Int) (w:θ) (K:Value->b_):=fZ υ 281 [Β a,Β b] [.one .any] w K
def uZ (b:fU) (c:Bool) (w:θ) (K:Int->b_):=fZ υ 282 [Δ b,.bool c] [.one ν] w K
def FY (a:Int) (w:θ) (K:Int->b_):=fZ υ 283 [Β a] [.one ν] w K
def Dj (b:fU) (w:θ) (K:Int->b_):=fZ υ 284 [Δ b] [.one ν] w K
def Pj (b:fU) (c:Bool) (w:θ) (K:fU->Int->Int->Int->b_):=fZ υ 285 [Δ b,.bool c] [.agg [.slice,ν,ν],.one ν] w K
def vP (b:fU) (c d:Int) (w:θ) (K:Int->Int->Int->Int->Int->Int->Int->Bool->Bool->fU->fU->b_):=fZ υ 286 [(.agg ⟨[Δ b,Β c,Β d]⟩)] [.agg vW] w K
def Df (b:fU) (c d:Int) (w:θ) (K:fU->Int->Int->Int->Int->Int->Int->Int->Bool->Bool->fU->fU->Int->Int->b_):=fZ υ 287 [Δ b,Β c,Β d] [.agg aix,.one ν] w K
def oQ (a:fU) (b c d e f g h:Int) (i j:Bool) (k l:fU) (m n o p q:Int) (w:θ) (K:fU->b_):=fZ υ 288 [.agg ⟨nV a b c d e f g h i j k l m⟩,Β n,Β o,Β p,Β q] [.one .slice] w K
def ru (a:Value) (w:θ) (K:fU->b_):=fZ υ 289 [a] [.one .slice] w K
abbrev Y1:FuncId:=290
def Yq (a:Value) (b:Addr) (w:θ) (K:b_):=fZ υ 290 [a,(.pointer (some b))] [] w K
def AA (a b:Int) (w:θ) (K:Int->b_):=fZ υ 291 [Β a,Β b] [.one ν] w K
def lF (a b:Int) (c:Bool) (w:θ) (K:Int->b_):=fZ υ 292 [(.agg ⟨[Β a,Β b]⟩),.bool c] [.one ν] w K
abbrev KF:FuncId:=293
def KA (a:Value) (b c d:Addr) (w:θ) (K:b_):=fZ υ 293 [a,(.pointer (some b)),(.pointer (some c)),(.pointer (some d))] [] w K
def zL (a b c:Int) (w:θ) (K:Bool->b_):=fZ υ 294 [(.agg ⟨[Β a,Β b]⟩),Β c] [.one .bool] w K
def sZ (a:fO) (b c:Int) (w:θ) (K:fU->b_):=fZ υ 295 [.pointer a,Β b,Β c] [.one .slice] w K
def jD (b:fU) (c d:Int) (e:Value) (w:θ) (K:b_):=fZ υ 297 [Δ b,Β c,Β d,e] [] w K
def uJ (b:fU) (c d:Int) (e:Value) (w:θ) (K:b_):=fZ υ 298 [Δ b,Β c,Β d,e] [] w K
def qN (b:fU) (c d:Int) (e:Value) (w:θ) (K:b_):=fZ υ 299 [Δ b,Β c,Β d,e] [] w K
def rV (b:fU) (c d:Int) (e:Value) (w:θ) (K:Int->Int->b_):=fZ υ 300 [Δ b,Β c,Β d,e] [.one ν,.one ν] w K
def rC (b:fU) (c d:Int) (e:Value) (w:θ) (K:b_):=fZ υ 301 [Δ b,Β c,Β d,e] [] w K
def og (b:fU) (c d:Int) (e:Value) (w:θ) (K:Bool->b_):=fZ υ 302 [Δ b,Β c,Β d,e] [.one .bool] w K
def qA (b:fU) (c d e:Int) (f:Value) (w:θ) (K:Int->b_):=fZ υ 303 [Δ b,Β c,Β d,Β e,f] [.one ν] w K
def tH (b:fU) (c d e:Int) (f:Value) (w:θ) (K:Int->Bool->b_):=fZ υ 304 [Δ b,Β c,Β d,Β e,f] [.one ν,.one .bool] w K
def wH (a:Int) (w:θ) (K:Int->b_):=fZ υ 306 [.int .u64 a] [.one ν] w K
abbrev V7:FuncId:=307
def VT (a:Value) (b c:Addr) (w:θ) (K:b_):=fZ υ 307 [a,(.pointer (some b)),(.pointer (some c))] [] w K
def gW (b:fU) (c d e f:Int) (w:θ) (K:Int->b_):=fZ υ 308 [(.agg ⟨[Δ b,Β c,Β d]⟩),Β e,Β f] [.one ν] w K
theorem tN {a b c d e w K f}:gW a b c d e w K->(∀g w,K g w->f g w)->gW a b c d e w f:=fZ.mono
def vH (b:fU) (c d e:Int) (w:θ) (K:Int->fU->fU->b_):=fZ υ 309 [Δ b,Β c,Β d,Β e] [.agg [ν,.slice,.slice]] w K
def wL (b:fU) (d:Int) (c:fU) (w:θ) (K:fU->b_):=fZ υ 310 [Δ b,Β d,Δ c] [.one .slice] w K
def sJ (a:fU) (b c d e f g h:Int) (i j:Bool) (k l:fU) (m:Int) (w:θ) (K:Int->b_):=fZ υ 311 [.agg ⟨nV a b c d e f g h i j k l m⟩] [.one ν] w K
def sF (a b c d:Int) (w:θ) (K:Value->b_):=fZ υ 312 [(.agg ⟨[Β a,Β b]⟩),Β c,Β d] [.one .any] w K
def gG (a b c d:Int) (w:θ) (K:Int->Int->b_):=fZ υ 313 [(.agg ⟨[Β a,Β b]⟩),(.agg ⟨[Β c,Β d]⟩)] [.agg [ν,ν]] w K
theorem NS {a b c d w K e}:gG a b c d w K->(∀f g w,K f g w->e f g w)->gG a b c d w e:=fZ.mono
def kP (a:Int) (w:θ) (K:Int->Int->b_):=fZ υ 314 [Β a] [.agg [ν,ν]] w K
theorem Ea {a w K b}:kP a w K->(∀c d w,K c d w->b c d w)->kP a w b:=fZ.mono
def iL (a:Int) (w:θ) (K:Int->Int->b_):=fZ υ 315 [Β a] [.agg [ν,ν]] w K
theorem VX {a w K b}:iL a w K->(∀c d w,K c d w->b c d w)->iL a w b:=fZ.mono
def tq (a b c:Int) (w:θ) (K:Int->b_):=fZ υ 316 [(.agg ⟨[Β a,Β b]⟩),Β c] [.one ν] w K
def FX (d:Int) (b c:fU) (w:θ) (K:Int->b_):=fZ υ 323 [Β d,Δ b,Δ c] [.one ν] w K
abbrev V8:FuncId:=324
def VU (a:Value) (b c d:Addr) (w:θ) (K:b_):=fZ υ 324 [a,(.pointer (some b)),(.pointer (some c)),(.pointer (some d))] [] w K
theorem KP {e f g h i j k l m n o p q r s t u v x y z A B C D E F G H I J L M N O P b w K}:gB (Bl e f g h i j k l m n o p q r s t u v x y z A B C D E F G H I J L M N O P b w K)
 (Ε w (jd e f g h i j k l m n o p q r s t u v x y z A B C D E F G H I J L M N O P) 28 λa Q=>let R:Bool->b_:=λj6 c=>((cond j6 (uT c λr8 w9=>K r8 w9) (oN c a λaO aP aQ aR aS aT aU aV aW aX aY aZ a0 a2 a3 a5 a6 a7 a8 a9 ba bb bc bd be bf bg bh bi bj bk bl bm bn bo bp=>Fz aO aP aQ aR aS aT aU aV aW aX aY aZ a0 a2 a3 a5 a6 a7 a8 a9 ba bb bc bd be bf bg bh bi bj bk bl bm bn bo bp c λd bq S=>let T:Bool->Prop:=λbr=>((cond br (K false S) (Fv d b S λU=>let V:Bool->b_:=λbs bt=>(K bs bt)
 oN U.drew a λW X Y Z aa ab ac ad ae af ag ah ai aj ak al am an ao ap aq ar au av aw ax ay az aA aB aC aD aE aF aG aH=>vJ d U.drew λbu bv bw bx bz bA bB aI=>VJ (jd W X Y Z aa ab ac ad ae af ag ah ai aj ak al am an ao ap aq ar au av aw ax ay az aA aB aC aD aE aF aG aH) aI a 0 (
 Bq W X Y Z aa ab ac ad ae af ag ah ai aj ak al am an ao ap aq ar au av aw ax ay az aA aB aC aD aE aF aG aH bu bv bw bx bz bA bB aI λbC aJ=>(cond (bC==0) (uT aJ λbD bE=>V bD bE) (V false aJ))))))
 (cond (Option.isNone d) (T true) (T (bq !=0))))))
 oN Q a λbF bG bH bI bJ bK bL bM bN bO bP bQ bR bS bT bU bV bW bX bY bZ b0 b1 b2 b3 b4 b5 b6 b7 b8 b9 ca cb cc cd ce=>DU bF bG bH bI bJ bK bL bM bN bO bP bQ bR bS bT bU bV bW bX bY bZ b0 b1 b2 b3 b4 b5 b6 b7 b8 b9 ca cb cc cd ce Q λcf aK=>(cond (!cf) (R true aK) (H_ b aK λcg ch=>R (!cg) ch))):=χ Tryz.func3
theorem UM {b c d e f g h i j k l m n o p q r s t u v x y z A B C D E F G H I J L M w K}:gB (DU b c d e f g h i j k l m n o p q r s t u v x y z A B C D E F G H I J L M w K)
 (Ε w (jd b c d e f g h i j k l m n o p q r s t u v x y z A B C D E F G H I J L M) 28 λN O=>let P:Bool->b_:=λQ R=>(K Q R)
 oN O N λS T U V W X Y Z aa ab ac ad ae af ag ah ai aj ak al am an ao ap aq ar au av aw ax ay az aA aB aC aD=>DV S T U V W X Y Z aa ab ac ad ae af ag ah ai aj ak al am an ao ap aq ar au av aw ax ay az aA aB aC aD O λaE a=>(cond aE (oN a N λaF aG aH aI aJ aK aL aM aN aO aP aQ aR aS aT aU aV aW aX aY aZ a0 a1 a2 a4 a5 a6 a7 a8 a9 ba bb bc bd be bf=>yL aF aG aH aI aJ aK aL aM aN aO aP aQ aR aS aT aU aV aW aX aY aZ a0 a1 a2 a4 a5 a6 a7 a8 a9 ba bb bc bd be bf a λbg bh=>P (bg==0) bh) (P false a))):=χ Tryz.func4
theorem Za {e w K}:gB (H_ e w K)
 (iH (S:=Int×Int×Unit) (λa f g=>(cond (decide (a.2.1<(e.len:Int))) (iE e 22 a.2.1 λh=>SY f h λi j k l m n o p q r s t u v x y z A B C D E=>Ε f (NH 0 0 0 ⟨none,0,0⟩ 0 0 0 0 0 0 0 false false ⟨none,0,0⟩ ⟨none,0,0⟩ 0 0 0 0 0 0 0) 56 λc F=>h_ (NH i j k l m n o p q r s t u v x y z A B C D E) F c 0 λb=>let d:Bool->Prop:=λG=>((cond G (K false b) (Ld .slice b (c.add 3) λH=>g ((ο.wrap (a.1+(H.len:Int))),(ο.wrap (a.2.1+1)),()) b)))
 (cond (decide (a.2.1>=40)) (d true) (Ld .slice b (c.add 3) λI=>(cond (decide ((I.len:Int)>1500)) (d true) (Ld .slice b ((c.add 4).add 10) λJ=>(cond (decide ((J.len:Int)>1500)) (d true) (Ld .slice b ((c.add 4).add 9) λL=>d (decide ((L.len:Int)>100))))))))) (K (decide (a.1<=20000)) f))) (0,0,()) w):=χ Tryz.func5 (fQ (fQ (.seq (fQ (.blk (.loop [(3,ν),(8,ν)] .leaf))) .leaf)))
theorem ϱ {k l m n o p q r s t u v x y z A B C D E F G H I J L M N O P Q R T U V W w K}:gB (Fz k l m n o p q r s t u v x y z A B C D E F G H I J L M N O P Q R T U V W w K)
 (Ε w (jd k l m n o p q r s t u v x y z A B C D E F G H I J L M N O P Q R T U V W) 28 λa X=>oN X a λx4 x5 x6 x7 x8 x9 ak al am an ao ap aq ar au av aw ax ay az aA aB aC aD aE aF aG aH aI aJ aK aL aM aN aO aP=>AZ x4 x5 x6 x7 x8 x9 ak al am an ao ap aq ar au av aw ax ay az aA aB aC aD aE aF aG aH aI aJ aK aL aM aN aO aP X λY h=>(cond (Y !=0) (K none Y h) (oN h a λaQ aR aS aT aU aV aW aX aY aZ a0 a1 a2 a4 a5 a6 a7 a8 a9 ba bb bc bd be bf bg bh bi bj bk bl bm bn bo bp bq=>Ε h (aj9 none none none none none aQ aR aS aT aU aV aW aX aY aZ a0 a1 a2 a4 a5 a6 a7 a8 a9 ba bb bc bd be bf bg bh bi bj bk bl bm bn bo bp bq 0) 72 λe g=>Ld .slice g (a.add 17) λbr=>fM g (a.add 18) λbs=>fM g (a.add 19) λbt=>MC br bs bt g λbu b6 bv=>Pt (some e) λbw=>St bv bw (.pointer bu) λi=>Ld .slice i (a.add 16) λbx=>fM i (a.add 20) λbz=>Ib (bx.len:Int) bz i λbA b7 bB=>Pt (some e) λbC=>St bB (bC.add 1) (.pointer bA) λZ=>fM Z (a.add 21) λbD=>Md bD Z λbE b8 bF=>Pt (some e) λbG=>St bF (bG.add 2) (.pointer bE) λaa=>fM aa (a.add 22) λbH=>D8 bH aa λbI b9 bJ=>Pt (some e) λbK=>St bJ (bK.add 3) (.pointer bI) λab=>fM ab (a.add 22) λbL=>Iq bL ab λbM ca bN=>Pt (some e) λbO=>St bN (bO.add 4) (.pointer bM) λac=>Ld .slice ac (a.add 35) λad=>iH (S:=Int×Unit) (λj b bP=>(cond (decide (j.1<(ad.len:Int))) (iE ad 7 j.1 λf=>fM b (f.add 0) λbQ=>fM b (f.add 1) λbR=>fM b (f.add 2) λbS=>fM b (f.add 3) λbT=>fM b (f.add 4) λbU=>fM b (f.add 5) λbV=>fM b (f.add 6) λbW=>Ε b am0 54 λc bX=>h_ [Β bQ,Β bR,Β bS,Β bT,Β bU,Β bV,Β bW] bX c 0 λd=>fM d (c.add 0) λbY=>fM d (c.add 1) λbZ=>fM d (c.add 2) λb0=>fM d (c.add 3) λb1=>fM d (c.add 4) λb2=>fM d (c.add 5) λb3=>fM d (c.add 6) λb4=>oz (some e) bY bZ b0 b1 b2 b3 b4 d λcb b5=>bP ((ο.wrap (j.1+1)),()) b5) (K (some e) 0 b))) (0,()) ac))):=χ Tryz.func7 (fQ (fQ (fQ (fQ (fQ (fQ (fQ (fQ (.seq (fQ (.blk (.loop [(76,ν)] .leaf))) .leaf)))))))))
theorem Wv {d g w K}:gB (Fv d g w K)
 (iH (S:=Int×Unit) (λh i m=>(cond (decide (h.1<(g.len:Int))) (let e:b_:=λn=>(m ((ο.wrap (h.1+1)),()) n)
 iE g 22 h.1 λo=>SY i o λp q r s t u v x y z A B C D E F G H I J L M=>Ε i (NH 0 0 0 ⟨none,0,0⟩ 0 0 0 0 0 0 0 false false ⟨none,0,0⟩ ⟨none,0,0⟩ 0 0 0 0 0 0 0) 56 λb N=>h_ (NH p q r s t u v x y z A B C D E F G H I J L M) N b 0 λl=>SY l b λO P Q R T U V W X Y Z aa ab ac ad ae af ag ah ai aj ak=>xI O P Q R T U V W X Y Z aa ab ac ad ae af ag ah ai aj ak l λal am an ao ap aq ar au av aw ax ay=>Ε ay ξ 48 λj az=>h_ (gQ al am an ao ap aq ar au av aw ax) az j 0 λa=>fM a b λc=>let f:Bool->Prop:=λaA=>((cond aA (fM a (b.add 1) λaB=>iq a j λaC aD aE aF aG aH aI aJ aK aL aM=>rH d aB aC aD aE aF aG aH aI aJ aK aL aM a λbl bm bn bo bp bq br bs bt bu bv bw aN=>e aN) (let k:Bool->Prop:=λaO=>((cond aO (iq a j λaP aQ aR aS aT aU aV aW aX aY aZ=>nH d aP aQ aR aS aT aU aV aW aX aY aZ a λbx bz bA bB bC bD bE bF bG bH bI bJ bK a2=>e a2) (cond (c==7) (fM a (b.add 2) λa3=>nS d a3 a λbL a4=>e a4) (cond (c==8) (fM a (b.add 1) λa5=>uy d a5 a λbM a6=>e a6) (cond (c==9) (fM a ((b.add 15).add 0) λa7=>fM a ((b.add 15).add 1) λa9=>fM a ((b.add 15).add 2) λba=>fM a ((b.add 15).add 3) λbb=>fM a ((b.add 15).add 4) λbc=>fM a ((b.add 15).add 5) λbd=>fM a ((b.add 15).add 6) λbe=>oz d a7 a9 ba bb bc bd be a λbN bf=>e bf) (fM a ((b.add 15).add 0) λbg=>fM a ((b.add 15).add 1) λbh=>fM a ((b.add 15).add 2) λbi=>fM a ((b.add 15).add 3) λbj=>uz d bg bh bi bj a λbO bk=>e bk))))))
 (cond (c==4) (k (c==4)) (cond (c==5) (k (c==5)) (k (c==6)))))))
 (cond (c==0) (f (c==0)) (cond (c==1) (f (c==1)) (cond (c==2) (f (c==2)) (f (c==3)))))) (K i))) (0,()) w):=χ Tryz.func8 (fQ (.blk (.loop [(9,ν)] .leaf)))
theorem Ru {g h i j k l m n o p q r s t u v x y z A B C D E F G H I J L M N O P Q R S d e T U V f w K}:gB (Bq g h i j k l m n o p q r s t u v x y z A B C D E F G H I J L M N O P Q R S d e T U V f w K)
 (Ε w (jd g h i j k l m n o p q r s t u v x y z A B C D E F G H I J L M N O P Q R) 28 λW X=>Ε X [Β S,Δ d,Δ e,Β T,Β U,Β V,Δ f] 42 λc b=>oN b W λY Z x9 ab ac ad ae af ag ah ai aj ak al am an ao ap aq ar au av aw ax ay az aA aB aC aD aE aF aG aH aI aJ=>fM b (c.add 0) λaK=>Ld .slice b (c.add 1) λaL=>Ld .slice b (c.add 2) λaM=>fM b (c.add 3) λaN=>fM b (c.add 4) λaO=>fM b (c.add 5) λaP=>Ld .slice b (c.add 6) λaQ=>BF Y Z x9 ab ac ad ae af ag ah ai aj ak al am an ao ap aq ar au av aw ax ay az aA aB aC aD aE aF aG aH aI aJ aK aL aM aN aO aP aQ b λaR aS=>K aR aS):=χ Tryz.func9
theorem KQ {p w K}:gB (vJ p w K)
 (Ε w am1 42 λb U=>jk p U λV s=>(cond (!V) (h_ am1 s b 0 λl=>fM l (b.add 0) λW=>Ld .slice l (b.add 1) λX=>Ld .slice l (b.add 2) λY=>fM l (b.add 3) λZ=>fM l (b.add 4) λaa=>fM l (b.add 5) λab=>Ld .slice l (b.add 6) λac=>K W X Y Z aa ab ac l) (let J:Addr->b_:=λe L=>(Al L (.map #[] 0) λbo ad=>Ε ad [.map none] 88 λA ae=>St ae A (.map (some L.heap.size)) λM=>Pt p λaf=>Ld .ptr M (af.add 2) λag=>yC ag M λah c=>xk υ none [.one ν,.agg [ν,ν,ν,ν,ν,ν,ν,.bool]] ah c (λt i N ai=>Ε N amV 93 λj aj=>h_ [Β i.2.1.1,Β i.2.1.2.1,Β i.2.1.2.2.1,Β i.2.1.2.2.2.1,Β i.2.1.2.2.2.2.1,Β i.2.1.2.2.2.2.2.1,Β i.2.1.2.2.2.2.2.2.1,.bool i.2.1.2.2.2.2.2.2.2.1] aj j 0 λy=>y.heap[t]? =N.heap[t]? /\
 Ld .map (gu y t) A λak=>Ld .slice (gu y t) (e.add 1) λal=>oK υ 3 ak (Β i.1) (Β (al.len:Int)) (gu y t) λf=>Ld .slice f (e.add 1) λam=>fM f (j.add 0) λan=>fM f (j.add 1) λao=>fM f (j.add 2) λap=>fM f (j.add 3) λaq=>fM f (j.add 4) λar=>fM f (j.add 5) λau=>fM f (j.add 6) λav=>Ld .bool f (j.add 7) λaw=>Ε f [Β an,Β ao,Β ap,Β aq,Β ar,Β au,Β av,.bool aw] 93 λax ay=>mG 93 8 64 [(Β 0),(Β 0),(Β 0),(Β 0),(Β 0),(Β 0),(Β 0),(Value.bool false)] am ⟨(some ax),1,1⟩ ay λB az=>St az (e.add 1) (Δ B) λaA=>ai .normal aA)
 (λO=>Pt p λaB=>Ld .ptr O (aB.add 3) λaC=>uG aC O λaD d=>xk υ none [.one ν,.agg [ν,ν,ν,ν,ν]] aD d (λq u P aE=>Ε P amX 100 λm aF=>h_ [Β u.2.1.1,Β u.2.1.2.1,Β u.2.1.2.2.1,Β u.2.1.2.2.2.1,Β u.2.1.2.2.2.2.1] aF m 0 λv=>v.heap[q]? =P.heap[q]? /\
 Ld .map (gu v q) A λaG=>fM (gu v q) m λaH=>pY υ 3 ν aG (Β aH) (Β 0) (gu v q) λaI=>St (gu v q) m (Β aI) λo=>Ld .slice o (e.add 2) λaJ=>fM o (m.add 0) λaK=>fM o (m.add 1) λaL=>fM o (m.add 2) λaM=>fM o (m.add 3) λaN=>fM o (m.add 4) λaO=>Ε o [Β aK,Β aL,Β aM,Β aN,Β aO] 100 λaP aQ=>mG 100 5 40 [(Β 0),(Β 0),(Β 0),(Β 0),(Β 0)] aJ ⟨(some aP),1,1⟩ aQ λC aR=>St aR (e.add 2) (Δ C) λaS=>aE .normal aS)
 (λn=>fM n (e.add 0) λaT=>Ld .slice n (e.add 1) λD=>Ld .slice n (e.add 2) λE=>fM n (e.add 3) λaU=>fM n (e.add 4) λaV=>fM n (e.add 5) λaW=>Ld .slice n (e.add 6) λF=>h_ [Β aT,Δ D,Δ E,Β aU,Β aV,Β aW,Δ F] n b 0 λg=>Η g d/\
 Η (jB g d) c/\
 fM (jB (jB g d) c) (b.add 0) λaX=>Ld .slice (jB (jB g d) c) (b.add 1) λaY=>Ld .slice (jB (jB g d) c) (b.add 2) λaZ=>fM (jB (jB g d) c) (b.add 3) λa1=>fM (jB (jB g d) c) (b.add 4) λa2=>fM (jB (jB g d) c) (b.add 5) λa4=>Ld .slice (jB (jB g d) c) (b.add 6) λa5=>K aX aY aZ a1 a2 a4 a5 (jB (jB g d) c))
 (λh=>Η h d/\
 Η (jB h d) c/\
 fM (jB (jB h d) c) (b.add 0) λa6=>Ld .slice (jB (jB h d) c) (b.add 1) λa7=>Ld .slice (jB (jB h d) c) (b.add 2) λa8=>fM (jB (jB h d) c) (b.add 3) λa9=>fM (jB (jB h d) c) (b.add 4) λba=>fM (jB (jB h d) c) (b.add 5) λbb=>Ld .slice (jB (jB h d) c) (b.add 6) λbc=>K a6 a7 a8 a9 ba bb bc (jB (jB h d) c))
 [])
 (λk=>Η k c/\
 fM (jB k c) (b.add 0) λbd=>Ld .slice (jB k c) (b.add 1) λbe=>Ld .slice (jB k c) (b.add 2) λbf=>fM (jB k c) (b.add 3) λbg=>fM (jB k c) (b.add 4) λbh=>fM (jB k c) (b.add 5) λbi=>Ld .slice (jB k c) (b.add 6) λbj=>K bd be bf bg bh bi bj (jB k c))
 [])
 Pt p λx=>fM s.drew (x.add 41) λr=>Pt p λG=>Ld .ptr s.drew (G.add 4) λz=>(oG z s.drew λbk Q=>Ci Q x 41 r<|Ε Q am1 42 λR H=>Cs H G 4 (.pointer z)<|Ci H x 41 r<|h_ [Β r,.slice none 0 0,.slice none 0 0,Β 0,Β 0,Β bk,.slice none 0 0] H R 0 λbl=>J R bl)/\
 (Ε s.drew am1 42 λS I=>Cs I G 4 (.pointer z)<|Ci I x 41 r<|oG z I λbm T=>Ci T x 41 r<|h_ [Β r,.slice none 0 0,.slice none 0 0,Β 0,Β 0,Β bm,.slice none 0 0] T S 0 λbn=>J S bn)))):=χ Tryz.func10 (fQ (fQ (fQ (fQ (.seq (fQ (.blk (.rng [.one ν,.agg [ν,ν,ν,ν,ν,ν,ν,.bool]] .leaf .leaf))) (.seq (fQ (.blk (.rng [.one ν,.agg [ν,ν,ν,ν,ν]] .leaf .leaf))) .leaf))))))
theorem UN {d e f g h i j k l m n o p q r s t u v x y z A B C D E F G H I J L M N O w K}:gB (DV d e f g h i j k l m n o p q r s t u v x y z A B C D E F G H I J L M N O w K)
 (Ε w (jd d e f g h i j k l m n o p q r s t u v x y z A B C D E F G H I J L M N O) 28 λb a=>let c:Bool->Prop:=λP=>(K P a)
 Ld .slice a (b.add 16) λQ=>(cond (decide ((Q.len:Int)<=8)) (Ld .slice a (b.add 17) λR=>(cond (decide ((R.len:Int)<=4)) (Ld .slice a (b.add 35) λS=>c (decide ((S.len:Int)<=12))) (c false))) (c false))):=χ Tryz.func11
theorem U5 {d e f g h i j k l m n o p q r s t u v x y z A B C D E F G H I J L M N O w K}:gB (yL d e f g h i j k l m n o p q r s t u v x y z A B C D E F G H I J L M N O w K)
 (Ε w (jd d e f g h i j k l m n o p q r s t u v x y z A B C D E F G H I J L M N O) 28 λa P=>let Q:Bool->b_:=λS b=>((cond S (K 1 b) (oN b a λT U V W X Y Z aa ab ac ad ae af ag ah ai aj ak al am an ao ap aq ar au av aw ax ay az aA aB aC aD aE=>D7 T U V W X Y Z aa ab ac ad ae af ag ah ai aj ak al am an ao ap aq ar au av aw ax ay az aA aB aC aD aE b λaF R=>(cond aF (K 9 R) (K 0 R)))))
 oN P a λaG aH aI aJ aK aL aM aN aO aP aQ aR aS aT aU aV aW aX aY aZ a0 a1 a2 a4 a5 a6 a7 a8 a9 ba bb bc bd be bf bg=>zN aG aH aI aJ aK aL aM aN aO aP aQ aR aS aT aU aV aW aX aY aZ a0 a1 a2 a4 a5 a6 a7 a8 a9 ba bb bc bd be bf bg P λbh c=>(cond (!bh) (Q true c) (oN c a λbi bj bk bl bm bn bo bp bq br bs bt bu bv bw bx bz bA bB bC bD bE bF bG bH bI bJ bK bL bM bN bO bP bQ bR bS=>D6 bi bj bk bl bm bn bo bp bq br bs bt bu bv bw bx bz bA bB bC bD bE bF bG bH bI bJ bK bL bM bN bO bP bQ bR bS c λbT bU=>Q (!bT) bU))):=χ Tryz.func12
theorem Nh {i L C0 C1 C2 C3 C4 C5 C6 C7 C8 C9 ak w K}:gB (rH i L C0 C1 C2 C3 C4 C5 C6 C7 C8 C9 ak w K)
 (Ε w (gQ C0 C1 C2 C3 C4 C5 C6 C7 C8 C9 ak) 48 λc w4=>Ε w4 ξ 48 λg w6=>let Q:Bool->b_:=λj9 R=>((cond j9 (h_ ξ R g 0 λal=>iq al g λaI aJ aK aL aM aN aO aP aQ aR aS=>K aI aJ aK aL aM aN aO aP aQ aR aS 1 al) (iq R c λaT aU aV aW aX aY aZ a2 a3 a4 a6=>Ad aT aU aV aW aX aY aZ a2 a3 a4 a6 R λa8 a9 ba S bb bc=>Ε bc amU 105 λE bd=>h_ [Β a8,Β a9,Β ba,Δ S] bd E 0 λj=>(cond bb (iq j c λbe bf bg bh bi bj bk bl bm bn bo=>fM j (E.add 0) λbp=>fM j (E.add 1) λbq=>fM j (E.add 2) λbr=>Ld .slice j (E.add 3) λbs=>qh i L be bf bg bh bi bj bk bl bm bn bo bp bq br bs j λbt bu bv bw bx bz bA bB bC bD bE bF bG=>h_ (gQ bt bu bv bw bx bz bA bB bC bD bE) bG g 0 λam=>iq am g λbH bI bJ bK bL bM bN bO bP bQ bR=>K bH bI bJ bK bL bM bN bO bP bQ bR bF am) (iq j c λbS bT bU bV bW bX bY bZ b0 b1 b2=>FD bS bT bU bV bW bX bY bZ b0 b1 b2 j λb3 b4 b5 an b6=>Ε b6 amT 110 λd b7=>h_ [Β b3,Β b4,Β b5] b7 d 0 λF=>(cond (an !=0) (FB an F λb8 b9=>h_ ξ b9 g 0 λao=>iq ao g λca cb cc cd ce cf cg ch ci cj ck=>K ca cb cc cd ce cf cg ch ci cj ck b8 ao) (fM F d λcl=>fM F (c.add 5) λcm=>fM F (d.add 1) λcn=>Ε F am2 50 λb co=>h_ [Β L,Β cl,Β cm,Β cn] co b 0 λh=>let T:Addr->Value->b_:=λf cp cq=>(Ε cq [Β 0] 121 λU cr=>H8 cp (Value.iface 123 (Value.pointer (some U))) cr λcs e=>(cond cs (fM e.drew U λap=>h_ ξ e.drew g 0 λV=>Cw V U (Β ap)<|iq V g λct cu cv cw cx cy cz cA cB cC cD=>K ct cu cv cw cx cy cz cA cB cC cD ap V) (fM e (f.add 0) λcE=>Ld .bool e (f.add 1) λcF=>fM e (f.add 2) λcG=>Ld .bool e (f.add 3) λcH=>fM e (f.add 4) λcI=>fM e (f.add 5) λcJ=>fM e (f.add 6) λcK=>fM e d λcL=>fM e (f.add 4) λcM=>nM i cE cF cG cH cI cJ cK cL cM e λM=>let aq:Addr->b_:=λar N=>(iq N c λcN cO cP cQ cR cS cT cU cV cW cX=>fM N ((ar.add 4).add 1) λcY=>fM N ((ar.add 4).add 2) λcZ=>FC cN cO cP cQ cR cS cT cU cV cW cX cY cZ N λc0 c1 c2 c3 c4 c5 c6 c7 c8 c9 da eF db=>Ε db ξ 48 λau dc=>h_ (gQ c0 c1 c2 c3 c4 c5 c6 c7 c8 c9 da) dc au 0 λav=>iq av au λdd de df dg dh di dj dk dl dm dn=>h_ (gQ dd de df dg dh di dj dk dl dm dn) av g 0 λaw=>iq aw g λdp dq dr ds dt du dv dw dx dy dz=>K dp dq dr ds dt du dv dw dx dy dz 0 aw)
 Pt i λW=>Ld .ptr M.drew (W.add 2) λO=>fM M.drew f λP=>(kL O P M.drew λdA dB dC dD dE dF dG dH eG dI=>Ε dI amV 93 λax X=>Cw X f (Β P)<|Cs X W 2 (.pointer O)<|h_ [Β dA,Β dB,Β dC,Β dD,Β dE,Β dF,Β dG,.bool dH] X ax 0 λdJ=>aq ax dJ)/\
 (Ε M.drew amV 93 λay Y=>Cw Y f (Β P)<|Cs Y W 2 (.pointer O)<|kL O P Y λdK dL dM dN dO dP dQ dR eH dS=>h_ [Β dK,Β dL,Β dM,Β dN,Β dO,Β dP,Β dQ,.bool dR] dS ay 0 λdT=>aq ay dT))))
 fM h.drew (b.add 0) λk=>fM h.drew (b.add 1) λl=>fM h.drew (b.add 2) λm=>fM h.drew (b.add 3) λn=>fM h.drew d λG=>fM h.drew (c.add 6) λH=>fM h.drew (d.add 2) λI=>iq h.drew c λo p q r s t u v x y z=>(uU G H I h.drew λaz aA D=>VJ (gQ o p q r s t u v x y z) D c 0 (
 Cj D b k l<|Ci D b 2 m<|Ci D b 3 n<|(jT i k l m n az aA o p q r s t u v x y z D λdU dV dW dX dY dZ d0 d1 d2=>Ε d2 amW 115 λaB A=>VJ (gQ o p q r s t u v x y z) A c 0 (
 Ci A d 2 I<|Ci A c 6 H<|Cw A d (Β G)<|Cj A b k l<|Ci A b 2 m<|Ci A b 3 n<|h_ [Β dU,.bool dV,Β dW,.bool dX,Β dY,Β dZ,Β d0] A aB 0 λd3=>T aB d1 d3))/\
 (Ε D amW 115 λaC B=>VJ (gQ o p q r s t u v x y z) B c 0 (
 Ci B d 2 I<|Ci B c 6 H<|Cw B d (Β G)<|Cj B b k l<|Ci B b 2 m<|Ci B b 3 n<|jT i k l m n az aA o p q r s t u v x y z B λd4 d5 d6 d7 d8 d9 ea eb ec=>h_ [Β d4,.bool d5,Β d6,.bool d7,Β d8,Β d9,Β ea] ec aC 0 λed=>T aC eb ed))))/\
 (Ε h.drew amW 115 λaD C=>VJ (gQ o p q r s t u v x y z) C c 0 (
 Ci C d 2 I<|Ci C c 6 H<|Cw C d (Β G)<|Cj C b k l<|Ci C b 2 m<|Ci C b 3 n<|uU G H I C λee ef J=>VJ (gQ o p q r s t u v x y z) J c 0 (
 Cj J b k l<|Ci J b 2 m<|Ci J b 3 n<|jT i k l m n ee ef o p q r s t u v x y z J λeg eh ei ej ek el em en eo=>h_ [Β eg,.bool eh,Β ei,.bool ej,Β ek,Β el,Β em] eo aD 0 λep=>T aD en ep))))))))))
 jk i w6 λeq aE=>(cond (!eq) (Q true aE) (mX i L aE λer Z=>(cond (!er) (Q true Z) (iq Z c λes et eu ev ew ex ey ez eA eB eC=>Ae es et eu ev ew ex ey ez eA eB eC Z λeD eE=>Q (!eD) eE))))):=χ Tryz.func14
theorem OB {e v x y z A B C D E F G w K}:gB (nH e v x y z A B C D E F G w K)
 (Ε w (gQ v x y z A B C D E F G) 48 λf Y=>Ε Y ξ 48 λb Z=>let H:Bool->b_:=λj8 o=>((cond j8 (h_ ξ o b 0 λI=>iq I b λab ac ad ae af ag ah ai aj ak al=>K 0 ab ac ad ae af ag ah ai aj ak al 1 I) (iq o f λam an ao ap aq ar au av aw ax ay=>Ad am an ao ap aq ar au av aw ax ay o λaz aA aB p aC aD=>Ε aD amU 105 λj aE=>h_ [Β az,Β aA,Β aB,Δ p] aE j 0 λg=>(cond aC (iq g f λaF aG aH aI aJ aK aL aM aN aO aP=>fM g (j.add 0) λaQ=>fM g (j.add 1) λaR=>fM g (j.add 2) λaS=>Ld .slice g (j.add 3) λaT=>qZ e aF aG aH aI aJ aK aL aM aN aO aP aQ aR aS aT g λaU aV aW aX aY aZ a1 a2 a3 a5 a7 a8 a9 ba=>h_ (gQ aV aW aX aY aZ a1 a2 a3 a5 a7 a8) ba b 0 λJ=>iq J b λbb bc bd be bf bg bh bi bj bk bl=>K aU bb bc bd be bf bg bh bi bj bk bl a9 J) (iq g f λbm bn bo bp bq br bs bt bu bv bw=>FD bm bn bo bp bq br bs bt bu bv bw g λbx bz bA L bB=>Ε bB amT 110 λk bC=>h_ [Β bx,Β bz,Β bA] bC k 0 λh=>(cond (L !=0) (FB L h λbD bE=>h_ ξ bE b 0 λM=>iq M b λbF bG bH bI bJ bK bL bM bN bO bP=>K 0 bF bG bH bI bJ bK bL bM bN bO bP bD M) (Pt e λbQ=>Ld .ptr h.drew (bQ.add 2) λbR=>fM h.drew k λbS=>fM h.drew (f.add 6) λbT=>fM h.drew (k.add 2) λbU=>oW bR bS bT bU h.drew λq bV r=>(cond (!bV) (h_ ξ r b 0 λN=>iq N b λbW bX bY bZ b0 b1 b2 b3 b4 b5 b6=>K 0 bW bX bY bZ b0 b1 b2 b3 b4 b5 b6 9 N) (Pt e λb7=>Ld .ptr r (b7.add 2) λb8=>kL b8 q r λb9 ca cb cc cd ce cf cg ej ch=>Ε ch amV 93 λl ci=>h_ [Β b9,Β ca,Β cb,Β cc,Β cd,Β ce,Β cf,.bool cg] ci l 0 λn=>fM n k λcj=>fM n (f.add 5) λck=>fM n (k.add 1) λcl=>uU cj ck cl n λcm cn co=>qj e q true 0 false 0 cm cn co λcp cq cr cs ct cu cv cw=>Ε cw amW 115 λc cx=>h_ [Β cp,.bool cq,Β cr,.bool cs,Β ct,Β cu,Β cv] cx c 0 λi=>let O:Bool->b_:=λcy d=>((cond cy (h_ ξ d b 0 λP=>iq P b λcz cA cB cC cD cE cF cG cH cI cJ=>K 0 cz cA cB cC cD cE cF cG cH cI cJ 10 P) (fM d (c.add 0) λcK=>Ld .bool d (c.add 1) λcL=>fM d (c.add 2) λcM=>Ld .bool d (c.add 3) λcN=>fM d (c.add 4) λcO=>fM d (c.add 5) λcP=>fM d (c.add 6) λcQ=>iq d f λcR cS cT cU cV cW cX cY cZ c0 c1=>uD e cK cL cM cN cO cP cQ cR cS cT cU cV cW cX cY cZ c0 c1 d λQ m=>(cond (Q !=0) (h_ ξ m b 0 λR=>iq R b λc2 c3 c4 c5 c6 c7 c8 c9 da db dc=>K 0 c2 c3 c4 c5 c6 c7 c8 c9 da db dc Q R) (iq m f λdd de df dg dh di dj dk dl dm dn=>fM m (l.add 2) λdp=>fM m (l.add 3) λdq=>MF dd de df dg dh di dj dk dl dm dn dp dq m λdr ds dt du dv dw dx dy dz dA dB ek dC=>Ε dC ξ 48 λS dD=>h_ (gQ dr ds dt du dv dw dx dy dz dA dB) dD S 0 λs=>fM s.drew l λdE=>iq s.drew S λdF dG dH dI dJ dK dL dM dN dO dP=>h_ (gQ dF dG dH dI dJ dK dL dM dN dO dP) s.drew b 0 λT=>iq T b λdQ dR dS dT dU dV dW dX dY dZ d0=>K dE dQ dR dS dT dU dV dW dX dY dZ d0 0 T)))))
 Ld .bool i.drew (l.add 7) λd1=>(cond (!d1) (Pt e λU=>fM i.drew ((U.add 5).add 29) λV=>fM i.drew ((c.add 5).add 0) λW=>fM i.drew ((c.add 5).add 1) λX=>vM e q i.drew λd2 t=>Cj t (c.add 5) W X<|Ci t (U.add 5) 29 V<|Bh V W X d2 t λd3 d4=>O (!d3) d4) (O false i.drew)))))))))))
 jk e Z λd5 u=>(cond (!d5) (H true u) (iq u f λd6 d7 d8 d9 ea eb ec ed ee ef eg=>Ae d6 d7 d8 d9 ea eb ec ed ee ef eg u λeh ei=>H (!eh) ei))):=χ Tryz.func17
theorem Rj {i j k l m n o p q r s t u v x y z A B C D E F G H I J L M N O P Q R T U w K}:gB (AZ i j k l m n o p q r s t u v x y z A B C D E F G H I J L M N O P Q R T U w K)
 (Ε w (jd i j k l m n o p q r s t u v x y z A B C D E F G H I J L M N O P Q R T U) 28 λb V=>oN V b λx4 x5 x6 x7 x8 x9 ag ah ai aj ak al am an ao ap aq ar au av aw ax ay az aA aB aC aD aE aF aG aH aI aJ aK aL=>zJ x4 x5 x6 x7 x8 x9 ag ah ai aj ak al am an ao ap aq ar au av aw ax ay az aA aB aC aD aE aF aG aH aI aJ aK aL V λW aM=>iH (S:=Int×Unit) (λe a aN=>(cond (decide (e.1<(W.len:Int))) (iE W 3 e.1 λf=>fM a (f.add 0) λaO=>fM a (f.add 1) λaP=>fM a (f.add 2) λaQ=>Ε a amT 146 λc aR=>h_ [Β aO,Β aP,Β aQ] aR c 0 λd=>fM d (c.add 0) λaS=>fM d (c.add 1) λaT=>fM d (c.add 2) λaU=>kN aS aT aU d λaV X=>(cond (!aV) (K 1 X) (aN ((ο.wrap (e.1+1)),()) X))) (let Y:Bool->b_:=λaW g=>((cond aW (K 1 g) (oN g b λaX aY aZ a0 a1 a2 a4 a5 a6 a7 a8 a9 ba bb bc bd be bf bg bh bi bj bk bl bm bn bo bp bq br bs bt bu bv bw bx=>xG aX aY aZ a0 a1 a2 a4 a5 a6 a7 a8 a9 ba bb bc bd be bf bg bh bi bj bk bl bm bn bo bp bq br bs bt bu bv bw bx g λbz Z=>(cond bz (K 9 Z) (K 0 Z)))))
 fM a (b.add 28) λbA=>Bg bA a λbB h=>(cond (!bB) (Y true h) (oN h b λbC bD bE bF bG bH bI bJ bK bL bM bN bO bP bQ bR bS bT bU bV bW bX bY bZ b0 b1 b2 b3 b4 b5 b6 b7 b8 b9 ca cb=>Bc bC bD bE bF bG bH bI bJ bK bL bM bN bO bP bQ bR bS bT bU bV bW bX bY bZ b0 b1 b2 b3 b4 b5 b6 b7 b8 b9 ca cb h λcc cd=>Y (!cc) cd))))) (0,()) aM):=χ Tryz.func18 (fQ (.seq (fQ (.blk (.loop [(8,ν)] .leaf))) .leaf))
theorem ϳ {b d e w K}:gB (MC b d e w K)
 (let c:Bool->Prop:=λn=>((cond n (K none 1 w) (iH (S:=Int×Unit) (λf g o=>(cond (decide (f.1<(b.len:Int))) (iE b 1 f.1 λp=>fM g p λi=>let j:Bool->b_:=λq k=>((cond q (K none 1 k) (o ((ο.wrap (f.1+1)),()) k)))
 r_ i g λr l=>(cond (!r) (j true l) (kM b 1 0 f.1 λs=>iR s i l λt u=>j t u))) (ni b g λh m=>Al m (.map #[] 0) λz v=>Ε v [Β d,Β e,Δ h,.map (some m.heap.size)] 153 λx y=>K (some x) 0 y))) (0,()) w)))
 (cond (decide ((b.len:Int)<1)) (c true) (cond (decide ((b.len:Int)>16)) (c true) (cond (decide (d<1)) (c true) (cond (decide (e<d)) (c true) (c (decide (e>=65536)))))))):=χ Tryz.func19 (fQ (fQ (.seq (fQ (.blk (.loop [(33,ν)] .leaf))) .leaf)))
theorem Zf {b c w K}:gB (Ib b c w K)
 (let d:Bool->Prop:=λj=>((cond j (K none 1 w) (Z9 158 2 16 [(Β 0),(Β 0)] b b w λe k=>Ε k [Δ e] 156 λf i=>Pt (some f) λl=>Ld .slice i l λm=>iH (S:=Int×Unit) (λg h n=>(cond (decide (g.1<(m.len:Int))) (Pt (some f) λo=>Ld .slice h o λp=>iE p 2 g.1 λq=>St h (q.add 1) (Β c) λr=>n ((ο.wrap (g.1+1)),()) r) (K (some f) 0 h))) (0,()) i)))
 (cond (decide (b<1)) (d true) (cond (decide (b>64)) (d true) (cond (decide (c<0)) (d true) (d (decide (c>4096))))))):=χ Tryz.func20 (fQ (fQ (fQ (.seq (fQ (.blk (.loop [(31,ν)] .leaf))) .leaf))))
theorem ϭ {b w K}:gB (Md b w K)
 (let d:Bool->Prop:=λg=>((cond g (K none 1 w) (Bj b w λh i j=>Bj b j λk l e=>let f:Bool->Prop:=λm=>((cond m (K none 1 e) (Z9 192 9 72 (aa4 0 0 0 0 0 0 0 false false) b b e λc n=>Ε n [Δ c,.pointer h,.pointer k,Β 0] 164 λo p=>K (some o) 0 p)))
 (cond (i !=0) (f true) (f (l !=0))))))
 (cond (decide (b<0)) (d true) (d (decide (b>4096))))):=χ Tryz.func21
theorem U8 {b w K}:gB (D8 b w K)
 (let d:Bool->Prop:=λh=>((cond h (K none 1 w) (Bj b w λi e f=>(cond (e !=0) (K none e f) (Z9 195 6 48 [(Β 0),(Β 0),(Β 0),(Β 0),(Β 0),(Value.bool false)] b b f λc g=>Al g (.map #[] 0) λm j=>Ε j [Δ c,.pointer i,.map (some g.heap.size),Β 0] 168 λk l=>K (some k) 0 l)))))
 (cond (decide (b<0)) (d true) (d (decide (b>4096))))):=χ Tryz.func22
theorem Zx {a w K}:gB (Iq a w K)
 (let b:Bool->Prop:=λc=>((cond c (K none 1 w) (Al w (.map #[] 0) λg d=>Ε d (List.replicate 448 (Value.slice none 0 0)++([(Value.map (some w.heap.size)),(Β 0),(Β 0),(Β a)])) 175 λe f=>K (some e) 0 f)))
 (cond (decide (a<0)) (b true) (b (decide (a>1048576))))):=χ Tryz.func23
theorem Nc {b k l m n o p q w K}:gB (oz b k l m n o p q w K)
 (Ε w [Β k,Β l,Β m,Β n,Β o,Β p,Β q] 54 λa v=>jk b v λx c=>(cond (!x) (K 2 c) (fM c (a.add 0) λy=>fM c (a.add 1) λz=>fM c (a.add 2) λA=>fM c (a.add 3) λB=>fM c (a.add 4) λC=>fM c (a.add 5) λD=>fM c (a.add 6) λE=>wI b y z A B C D E c λF e=>(cond (!F) (K 1 e) (Pt b λG=>Ld .ptr e.drew (G.add 2) λH=>fM e.drew (a.add 0) λI=>fM e.drew (a.add 1) λJ=>fM e.drew (a.add 2) λL=>fM e.drew (a.add 3) λM=>nJ H I J L M e.drew λau r f=>Pt b λN=>Ld .ptr f.drew (N.add 2) λO=>fM f.drew ((a.add 4).add 0) λP=>fM f.drew ((a.add 4).add 1) λQ=>fM f.drew ((a.add 4).add 2) λR=>oW O P Q R f.drew λav S g=>let s:Bool->Prop:=λT=>((cond T (K 9 g) (Pt b λU=>Ld .ptr g.drew (U.add 1) λV=>fM g.drew a λW=>Pt b λt=>fM g.drew ((t.add 5).add 20) λu=>oP V W g.drew λX j=>j.cell? ((t.add 5).add 20)=some (Β u)/\
 (cond (decide (X>=u)) (K 10 j) (qm b j λY i=>(cond Y (K 7 i) (Pt b λZ=>Ld .ptr i.drew (Z.add 1) λaa=>fM i.drew a λab=>qx aa ab i.drew λaw h=>Pt b λac=>Ld .ptr h.drew ac λad=>fM h.drew ((a.add 4).add 0) λae=>fM h.drew ((a.add 4).add 1) λaf=>fM h.drew ((a.add 4).add 2) λag=>xM ad ae af ag h.drew λax d=>Pt b λah=>Ld .ptr d.drew (ah.add 2) λai=>fM d.drew (a.add 0) λaj=>fM d.drew (a.add 1) λak=>fM d.drew (a.add 2) λal=>fM d.drew (a.add 3) λam=>fM d.drew ((a.add 4).add 0) λan=>fM d.drew ((a.add 4).add 1) λao=>fM d.drew ((a.add 4).add 2) λap=>yA ai aj ak al am an ao ap true d.drew λay aq ar=>K aq ar)))))))
 (cond r (s r) (s S))))))):=χ Tryz.func24
theorem OA {c d e f g h i j k l m n o p q r s t u v x y w K}:gB (xI c d e f g h i j k l m n o p q r s t u v x y w K)
 (Ε w (NH c d e f g h i j k l m n o p q r s t u v x y) 56 λz E=>Ε E ξ 48 λa A=>Ld .slice A (z.add 3) λF=>yI F A λG H I J L M N O P Q R S T=>Ε T ξ 48 λB U=>h_ (gQ G H I J L M N O P Q R) U B 0 λb=>(cond (S==0) (iq b B λV W X Y Z aa ab ac ad ae af=>h_ (gQ V W X Y Z aa ab ac ad ae af) b a 0 λC=>iq C a λag ah ai aj ak al am an ao ap aq=>K ag ah ai aj ak al am an ao ap aq C) (iq b (z.add 4) λar au av aw ax ay az aA aB aC aD=>h_ (gQ ar au av aw ax ay az aA aB aC aD) b a 0 λD=>iq D a λaE aF aG aH aI aJ aK aL aM aN aO=>K aE aF aG aH aI aJ aK aL aM aN aO D))):=χ Tryz.func25
theorem Gl {a c w K}:gB (nS a c w K)
 (jk a w λo e=>(cond (!o) (K 0 e) (Pt a λp=>fM e (p.add 41) λi=>Pt a λq=>St e (q.add 41) (Β (if (if (1099511627776:Int)<c then 1099511627776 else c)>i then (if (1099511627776:Int)<c then 1099511627776 else c) else i)) λf=>Pt a λr=>Ld .ptr f.drew (r.add 4) λs=>Pt a λt=>fM f.drew (t.add 41) λu=>rD s u f.drew λj v=>iH (S:=Int×Int×Unit) (λb d x=>(cond (decide (b.2.1<(j.len:Int))) (let k:Int->b_:=λy z=>(x (y,(ο.wrap (b.2.1+1)),()) z)
 iE j 1 b.2.1 λA=>fM d A λl=>Pt a λB=>Ld .ptr d (B.add 3) λC=>mO C l d λD E F G H R I=>Ε I amX 100 λg J=>h_ [Β D,Β E,Β F,Β G,Β H] J g 0 λm=>Pt a λL=>Ld .ptr m (L.add 3) λM=>mZ M l m λT n=>fM n g λN=>sD a N n λO h=>(cond O (fM h g λP=>jZ a P h λQ=>k (ο.wrap (b.1+1)) Q) (k b.1 h))) (K b.1 d))) (0,0,()) v))):=χ Tryz.func26 (fQ (fQ (fQ (fQ (.seq (fQ (.blk (.loop [(5,ν),(34,ν)] .leaf))) .leaf)))))
theorem I7 {g i w K}:gB (uy g i w K)
 (iI (Value.pointer g)=true/\
 Ε w [.pointer g] 33 λe j=>Ld .ptr j e λr=>jk r j λs k=>(cond (!s) (K 0 k) (Ε k [Β 0] 3 λf t=>St t f (Β 0) λl=>Ld .ptr l e λu=>xJ u i l λv d=>xk υ none [.one ν,.agg [ν,ν,ν,ν,ν,ν,ν,.bool]] v d (λb a m n=>Ε m amV 93 λo x=>h_ [Β a.2.1.1,Β a.2.1.2.1,Β a.2.1.2.2.1,Β a.2.1.2.2.2.1,Β a.2.1.2.2.2.2.1,Β a.2.1.2.2.2.2.2.1,Β a.2.1.2.2.2.2.2.2.1,.bool a.2.1.2.2.2.2.2.2.2.1] x o 0 λc=>c.heap[b]? =m.heap[b]? /\
 Ld .bool (gu c b) (o.add 7) λy=>(cond y (Ld .ptr (gu c b) e λz=>mM z a.1 (gu c b) λA=>n .normal A) (Ld .ptr (gu c b) e λB=>jZ B a.1 (gu c b) λp=>fM p f λC=>St p f (Β (ο.wrap (C+1))) λD=>n .normal D)))
 (λh=>fM h f λE=>Η h d/\
 K E (jB h d))
 (λq=>Η q d/\
 K 0 (jB q d))
 [(1,(λF=>False))]))):=χ Tryz.func27 (fQ (fQ (fQ (fQ (.seq (fQ (.blk (.rng [.one ν,.agg [ν,ν,ν,ν,ν,ν,ν,.bool]] .leaf .leaf))) .leaf)))))
theorem I8 {b e f g h w K}:gB (uz b e f g h w K)
 (Ε w [Β e,Β f,Β g,Β h] 50 λc m=>jk b m λn a=>(cond (!n) (K 2 a) (Pt b λo=>Ld .ptr a.drew (o.add 2) λp=>fM a.drew (c.add 0) λq=>fM a.drew (c.add 1) λr=>fM a.drew (c.add 2) λs=>fM a.drew (c.add 3) λt=>nJ p q r s t a.drew λi u j=>Pt b λv=>Ld .ptr j (v.add 2) λx=>kL x i j λy z A B C D E F M G=>Ε G amV 93 λk H=>h_ [Β y,Β z,Β A,Β B,Β C,Β D,Β E,.bool F] H k 0 λd=>let l:Bool->Prop:=λI=>((cond I (K 8 d) (jZ b i d λJ=>K 0 J)))
 (cond (!u) (l true) (Ld .bool d (k.add 7) λL=>l (!L)))))):=χ Tryz.func28
theorem RD {q r s t u v x y z A B C D E F G H I J L M N O P Q R T U V W X Y Z aa ab ac B0 j k B3 B4 B5 l w K}:gB (BF q r s t u v x y z A B C D E F G H I J L M N O P Q R T U V W X Y Z aa ab ac B0 j k B3 B4 B5 l w K)
 (Ε w (jd q r s t u v x y z A B C D E F G H I J L M N O P Q R T U V W X Y Z aa ab ac) 28 λg w3=>Ε w3 [Β B0,Δ j,Δ k,Β B3,Β B4,Β B5,Δ l] 42 λb w5=>oN w5 g λx7 x8 x9 av aw ax ay az aA aB aC aD aE aF aG aH aI aJ aK aL aM aN aO aP aQ aR aS aT aU aV aW aX aY aZ a0 a1=>yL x7 x8 x9 av aw ax ay az aA aB aC aD aE aF aG aH aI aJ aK aL aM aN aO aP aQ aR aS aT aU aV aW aX aY aZ a0 a1 w5 λai e=>(cond (ai !=0) (K ai e) (fM e (b.add 0) λa2=>Ld .slice e (b.add 1) λa3=>Ld .slice e (b.add 2) λa5=>fM e (b.add 3) λa7=>fM e (b.add 4) λa8=>fM e (b.add 5) λa9=>Ld .slice e (b.add 6) λba=>rJ a2 a3 a5 a7 a8 a9 ba e λbb aj=>(cond (!bb) (K 9 aj) (iH (S:=Int×Unit) (λn c bc=>Ld .slice c (b.add 1) λbd=>(cond (decide (n.1<(bd.len:Int))) (fM c.drew (b.add 0) λbe=>Ld .slice c.drew (b.add 1) λbf=>Ld .slice c.drew (b.add 2) λbg=>fM c.drew (b.add 3) λbh=>fM c.drew (b.add 4) λbi=>fM c.drew (b.add 5) λbj=>Ld .slice c.drew (b.add 6) λbk=>Ld .slice c.drew (b.add 1) λbl=>iE bl 8 n.1 λbm=>fM c.drew bm λbn=>fM c.drew (g.add 20) λak=>Aj be bf bg bh bi bj bk bn c.drew λbo o=>o.cell? (g.add 20)=some (Β ak)/\
 (cond (decide (bo>ak)) (K 10 o) (bc ((ο.wrap (n.1+1)),()) o))) (let al:Bool->Prop:=λbp=>(let i:Bool->Prop:=λbq=>((cond bq (K 7 c) (iH (S:=Int×Unit) (λp d br=>Ld .slice d (b.add 1) λbs=>(cond (decide (p.1<(bs.len:Int))) (oN d.drew g λbt bu bv bw bx bz bA bB bC bD bE bF bG bH bI bJ bK bL bM bN bO bP bQ bR bS bT bU bV bW bX bY bZ b0 b1 b2 b3=>Ld .slice d.drew (b.add 1) λb4=>iE b4 8 p.1 λh=>fM d.drew (h.add 0) λb5=>fM d.drew (h.add 1) λb6=>fM d.drew (h.add 2) λb7=>fM d.drew (h.add 3) λb8=>fM d.drew (h.add 4) λb9=>fM d.drew (h.add 5) λca=>fM d.drew (h.add 6) λcb=>Ld .bool d.drew (h.add 7) λcc=>BG bt bu bv bw bx bz bA bB bC bD bE bF bG bH bI bJ bK bL bM bN bO bP bQ bR bS bT bU bV bW bX bY bZ b0 b1 b2 b3 b5 b6 b7 b8 b9 ca cb cc d.drew λcd am=>(cond (!cd) (K 12 am) (br ((ο.wrap (p.1+1)),()) am))) (iH (S:=Int×Unit) (λm f ce=>Ld .slice f (b.add 2) λcf=>(cond (decide (m.1<(cf.len:Int))) (let an:Bool->b_:=λcg ao=>((cond cg (K 1 ao) (ce ((ο.wrap (m.1+1)),()) ao)))
 Ld .slice f.drew (b.add 2) λch=>iE ch 5 m.1 λci=>fM f.drew ci λcj=>(cond (decide (cj<0)) (an true f.drew) (Ld .slice f.drew (b.add 2) λck=>iE ck 5 m.1 λcl=>fM f.drew cl λcm=>Ld .slice f.drew (b.add 1) λcn=>an (decide (cm>=(cn.len:Int))) f.drew))) (K 0 f))) (0,()) d))) (0,()) c)))
 Ld .slice c (b.add 1) λco=>fM c (g.add 21) λcp=>(cond (decide ((co.len:Int)>cp)) (i true) (Ld .slice c (b.add 2) λcq=>fM c (g.add 22) λcr=>(cond (decide ((cq.len:Int)>cr)) (i true) (fM c (b.add 4) λcs=>fM c (g.add 23) λct=>(cond (decide (cs>(ο.wrap (2 * ct)))) (i true) (fM c (b.add 3) λcu=>fM c (g.add 24) λcv=>(cond (decide (cu>(ο.wrap (2 * cv)))) (i true) (i (!bp))))))))))
 Ld .slice c (b.add 2) λcw=>fM c (b.add 5) λcx=>(cond (decide ((cw.len:Int)<=cx)) (fM c (b.add 5) λcy=>Ld .slice c (b.add 2) λcz=>fM c (b.add 4) λcA=>al ((ο.wrap (cy - (cz.len:Int)))==cA)) (al false))))) (0,()) aj))))):=χ Tryz.func29 (fQ (fQ (fQ (.seq (fQ (.blk (.loop [(6,ν)] .leaf))) (fQ (fQ (.seq (fQ (.blk (.loop [(8,ν)] .leaf))) (.seq (fQ (.blk (.loop [(9,ν)] .leaf))) .leaf))))))))
theorem Jb {a w K}:gB (jk a w K)
 (let b:Bool->Prop:=λc=>(K c w)
 (cond (!(Option.isNone a)) (Pt a λd=>Ld .ptr w d λe=>b (!(Option.isNone e))) (b false))):=χ Tryz.func30
theorem Nq {b w K}:gB (oG b w K)
 (kX b w λc a=>(cond (!c) (K 0 a) (Pt b λd=>Ld .map a (d.add 448) λe=>S_ a e λf=>K f a))):=χ Tryz.func31
theorem UC {a w K}:gB (yC a w K)
 (iI (Value.pointer a)=true/\
 Ε w [.pointer a] 66 λb c=>K (Value.func (.func 87) #[] #[(Value.pointer (some b))]) c):=χ Tryz.func32
theorem Ji {a w K}:gB (uG a w K)
 (iI (Value.pointer a)=true/\
 Ε w [.pointer a] 67 λb c=>K (Value.func (.func 89) #[] #[(Value.pointer (some b))]) c):=χ Tryz.func33
theorem Qb {t u v x y z A B C D E F G H I J L M N O P Q R S T U V W X Y Z aa ab ac ad ae w K}:gB (zN t u v x y z A B C D E F G H I J L M N O P Q R S T U V W X Y Z aa ab ac ad ae w K)
 (Ε w (jd t u v x y z A B C D E F G H I J L M N O P Q R S T U V W X Y Z aa ab ac ad ae) 28 λa w2=>let d:Bool->b_:=λj5 w6=>(let b:Bool->b_:=λj8 w9=>(let e:Bool->b_:=λak f=>(let g:Bool->b_:=λal am=>(K al am)
 (cond j5 (cond j8 (cond ak (fM f (a.add 18) λan=>iO an 1 65535 f λao h=>(cond ao (fM h (a.add 19) λap=>fM h (a.add 18) λaq=>iO ap aq 65535 h λar au=>g ar au) (g false h))) (g false f)) (g false f)) (g false f)))
 fM w9 (a.add 30) λav=>iO av 120 1048576 w9 λaw i=>(cond aw (fM i (a.add 31) λax=>iO ax 7440 1048576 i λay j=>(cond ay (fM j (a.add 32) λaz=>iO az 240 1048576 j λaA k=>(cond aA (fM k (a.add 33) λaB=>iO aB 60 1048576 k λaC l=>(cond aC (fM l (a.add 34) λaD=>iO aD 1 1048576 l λaE aF=>e aE aF) (e false l))) (e false k))) (e false j))) (e false i)))
 fM w6 (a.add 25) λaG=>iO aG 1280 65535 w6 λaH m=>(cond aH (fM m (a.add 26) λaI=>iO aI 1280 65535 m λaJ n=>(cond aJ (fM n (a.add 27) λaK=>iO aK 1 255 n λaL c=>(cond aL (fM c (a.add 28) λaM=>(cond (aM==0) (fM c (a.add 29) λaN=>iO aN 0 2 c λaO aP=>b aO aP) (fM c (a.add 28) λaQ=>iO aQ 536 65535 c λaR o=>(cond aR (fM o (a.add 29) λaS=>iO aS 0 2 o λaT aU=>b aT aU) (b false o))))) (b false c))) (b false n))) (b false m)))
 fM w2 (a.add 20) λaV=>iO aV 1 4096 w2 λaW p=>(cond aW (fM p (a.add 21) λaX=>iO aX 1 4096 p λaY q=>(cond aY (fM q (a.add 22) λaZ=>iO aZ 1 4096 q λa0 r=>(cond a0 (fM r (a.add 23) λa1=>iO a1 0 4096 r λa2 s=>(cond a2 (fM s (a.add 24) λa4=>iO a4 0 67108864 s λa5 a6=>d a5 a6) (d false s))) (d false r))) (d false q))) (d false p))):=χ Tryz.func34
theorem U6 {m n o p q r s t u v x y z A B C D E F G H I J L M N O P Q R T U V W X Y w K}:gB (D6 m n o p q r s t u v x y z A B C D E F G H I J L M N O P Q R T U V W X Y w K)
 (Ε w (jd m n o p q r s t u v x y z A B C D E F G H I J L M N O P Q R T U V W X Y) 28 λa Z=>let e:Bool->b_:=λj5 w6=>((cond j5 (K false w6) (iH (S:=Int×Unit) (λh f af=>Ld .slice f (a.add 16) λag=>(cond (decide (h.1<(ag.len:Int))) (Ld .slice f (a.add 16) λah=>iE ah 16 h.1 λai=>uS f ai λaj ak al am an ao ap aq ar au av aw ax ay az aA=>Ag aj ak al am an ao ap aq ar au av aw ax ay az aA f λaB ab=>(cond (!aB) (K false ab) (af ((ο.wrap (h.1+1)),()) ab))) (iH (S:=Int×Unit) (λi g aC=>Ld .slice g (a.add 17) λaD=>(cond (decide (i.1<(aD.len:Int))) (Ld .slice g (a.add 17) λaE=>iE aE 1 i.1 λaF=>fM g aF λaG=>Af aG g λaH ac=>(cond (!aH) (K false ac) (aC ((ο.wrap (i.1+1)),()) ac))) (iH (S:=Int×Unit) (λj b aI=>Ld .slice b (a.add 35) λaJ=>(cond (decide (j.1<(aJ.len:Int))) (oN b.drew a λaK aL aM aN aO aP aQ aR aS aT aU aV aW aX aY aZ a0 a1 a2 a4 a5 a6 a7 a8 a9 ba bb bc bd be bf bg bh bi bj bk=>Ld .slice b.drew (a.add 35) λbl=>iE bl 7 j.1 λc=>fM b.drew (c.add 0) λbm=>fM b.drew (c.add 1) λbn=>fM b.drew (c.add 2) λbo=>fM b.drew (c.add 3) λbp=>fM b.drew (c.add 4) λbq=>fM b.drew (c.add 5) λbr=>fM b.drew (c.add 6) λbs=>BD aK aL aM aN aO aP aQ aR aS aT aU aV aW aX aY aZ a0 a1 a2 a4 a5 a6 a7 a8 a9 ba bb bc bd be bf bg bh bi bj bk bm bn bo bp bq br bs b.drew λbt ad=>(cond (!bt) (K false ad) (aI ((ο.wrap (j.1+1)),()) ad))) (K true b))) (0,()) g))) (0,()) f))) (0,()) w6)))
 uS Z a λbu bv bw bx bz bA bB bC bD bE bF bG bH bI bJ bK=>Ag bu bv bw bx bz bA bB bC bD bE bF bG bH bI bJ bK Z λbL k=>(cond (!bL) (e true k) (Ld .slice k (a.add 16) λbM=>iO (bM.len:Int) 1 64 k λbN l=>(cond (!bN) (e true l) (Ld .slice l (a.add 17) λbO=>iO (bO.len:Int) 1 16 l λbP d=>(cond (!bP) (e true d) (Ld .slice d (a.add 35) λbQ=>(cond (decide ((bQ.len:Int)>64)) (e true d) (Ld .slice d (a.add 35) λbR=>fM d (a.add 21) λbS=>e (decide ((bR.len:Int)>bS)) d))))))))):=χ Tryz.func35 (fQ (fQ (.seq (fQ (.blk (.loop [(3,ν)] .leaf))) (.seq (fQ (.blk (.loop [(4,ν)] .leaf))) (.seq (fQ (.blk (.loop [(5,ν)] .leaf))) .leaf)))))
theorem U7 {s t u v x y z A B C D E F G H I J L M N O P Q R T U V W X Y Z aa ab ac ad ae w K}:gB (D7 s t u v x y z A B C D E F G H I J L M N O P Q R T U V W X Y Z aa ab ac ad ae w K)
 (Ε w (jd s t u v x y z A B C D E F G H I J L M N O P Q R T U V W X Y Z aa ab ac ad ae) 28 λb w2=>iH (S:=Int×Unit) (λh l ai=>Ld .slice l (b.add 16) λx7=>(cond (decide (h.1<(x7.len:Int))) (iH (S:=Int×Unit) (λm c ak=>(cond (decide (m.1<h.1)) (Ld .slice c.drew (b.add 16) λal=>iE al 16 m.1 λam=>uS c.drew am λan ao ap aq ar au av aw ax ay az aA aB aC aD aE=>Ld .slice c.drew (b.add 16) λaF=>iE aF 16 h.1 λaG=>uS c.drew aG λaH aI aJ aK aL aM aN aO aP aQ aR aS aT aU aV aW=>(cond ((an==aH) && ((ao==aI) && ((ap==aJ) && ((aq==aK) && ((ar==aL) && ((au==aM) && ((av==aN) && ((aw==aO) && ((ax==aP) && ((ay==aQ) && ((az==aR) && ((aA==aS) && ((aB==aT) && ((aC==aU) && ((aD==aV) && ((aE==aW) && true)))))))))))))))) (K true c.drew) (ak ((ο.wrap (m.1+1)),()) c.drew))) (Ld .slice c.drew (b.add 16) λaX=>iE aX 16 h.1 λaY=>uS c.drew aY λaZ a0 a1 a2 a4 a5 a6 a7 a8 a9 ba bb bc bd be bf=>uS c.drew b λbg bh bi bj bk bl bm bn bo bp bq br bs bt bu bv=>(cond ((aZ==bg) && ((a0==bh) && ((a1==bi) && ((a2==bj) && ((a4==bk) && ((a5==bl) && ((a6==bm) && ((a7==bn) && ((a8==bo) && ((a9==bp) && ((ba==bq) && ((bb==br) && ((bc==bs) && ((bd==bt) && ((be==bu) && ((bf==bv) && true)))))))))))))))) (K true c.drew) (ai ((ο.wrap (h.1+1)),()) c.drew))))) (0,()) l) (iH (S:=Int×Unit) (λi n bw=>Ld .slice n (b.add 17) λbx=>(cond (decide (i.1<(bx.len:Int))) (iH (S:=Int×Unit) (λo e bz=>(cond (decide (o.1<i.1)) (Ld .slice e.drew (b.add 17) λbA=>iE bA 1 o.1 λbB=>fM e.drew bB λbC=>Ld .slice e.drew (b.add 17) λbD=>iE bD 1 i.1 λbE=>fM e.drew bE λbF=>(cond (bC==bF) (K true e.drew) (bz ((ο.wrap (o.1+1)),()) e.drew))) (bw ((ο.wrap (i.1+1)),()) e))) (0,()) n) (iH (S:=Int×Unit) (λg p bG=>Ld .slice p (b.add 35) λbH=>(cond (decide (g.1<(bH.len:Int))) (iH (S:=Int×Int×Unit) (λd a bI=>(cond (decide (d.2.1<g.1)) (let af:Int->b_:=λbJ bK=>(bI (bJ,(ο.wrap (d.2.1+1)),()) bK)
 let ag:Bool->b_:=λbL f=>((cond bL (K true f) (Ld .slice f.drew (b.add 35) λbM=>iE bM 7 d.2.1 λbN=>fM f.drew bN λbO=>Ld .slice f.drew (b.add 35) λbP=>iE bP 7 g.1 λbQ=>fM f.drew bQ λbR=>(cond (bO==bR) (af (ο.wrap (d.1+1)) f.drew) (af d.1 f.drew)))))
 Ld .slice a.drew (b.add 35) λbS=>iE bS 7 d.2.1 λj=>fM a.drew (j.add 0) λbT=>fM a.drew (j.add 1) λbU=>fM a.drew (j.add 2) λbV=>fM a.drew (j.add 3) λbW=>Ld .slice a.drew (b.add 35) λbX=>iE bX 7 g.1 λk=>fM a.drew (k.add 0) λbY=>fM a.drew (k.add 1) λbZ=>fM a.drew (k.add 2) λb0=>fM a.drew (k.add 3) λb1=>(cond ((bT==bY) && ((bU==bZ) && ((bV==b0) && ((bW==b1) && true)))) (ag true a.drew) (Ld .slice a.drew (b.add 35) λb2=>iE b2 7 d.2.1 λq=>fM a.drew ((q.add 4).add 0) λb3=>fM a.drew ((q.add 4).add 1) λb4=>fM a.drew ((q.add 4).add 2) λb5=>Ld .slice a.drew (b.add 35) λb6=>iE b6 7 g.1 λr=>fM a.drew ((r.add 4).add 0) λb7=>fM a.drew ((r.add 4).add 1) λb8=>fM a.drew ((r.add 4).add 2) λb9=>ag ((b3==b7) && ((b4==b8) && ((b5==b9) && true))) a.drew))) (fM a (b.add 20) λca=>(cond (decide (d.1>ca)) (K true a) (bG ((ο.wrap (g.1+1)),()) a))))) (1,0,()) p) (K false p))) (0,()) n))) (0,()) l))) (0,()) w2):=χ Tryz.func36 (fQ (.seq (fQ (.blk (.loop [(3,ν)] (fQ (.seq (.blk (.seq (fQ (.blk (.loop [(4,ν)] .leaf))) .leaf)) .leaf))))) (.seq (fQ (.blk (.loop [(5,ν)] (fQ (.seq (.blk (fQ (.blk (.loop [(6,ν)] .leaf)))) .leaf))))) (.seq (fQ (.blk (.loop [(7,ν)] (fQ (.seq (.blk (fQ (.seq (fQ (.blk (.loop [(8,ν),(9,ν)] .leaf))) .leaf))) .leaf))))) .leaf))))
theorem EJ {b a w K}:gB (mX b a w K)
 (let c:Bool->Prop:=λd=>(K d w)
 (cond (decide (a>=0)) (Pt b λe=>Ld .slice w ((e.add 5).add 16) λf=>c (decide (a<(f.len:Int)))) (c false))):=χ Tryz.func38
theorem Wy {b c d e f g h i j k l w K}:gB (Ae b c d e f g h i j k l w K)
 (Ε w (gQ b c d e f g h i j k l) 48 λm n=>let o:Bool->b_:=λp q=>(K p q)
 iq n m λr s t u v x y z A B C=>F6 r s t u v x y z A B C n λD a=>(cond (D==0) (iq a m λE F G H I J L M N O P=>F7 E F G H I J L M N O P a λQ R=>o Q R) (o false a))):=χ Tryz.func39
theorem Wx {n o p q r s t u v x y w K}:gB (Ad n o p q r s t u v x y w K)
 (Ε w (gQ n o p q r s t u v x y) 48 λz B=>Ε B amU 105 λd h=>fM h (z.add 4) λC=>(cond (C !=1) (h_ amU h d 0 λf=>fM f (d.add 0) λD=>fM f (d.add 1) λE=>fM f (d.add 2) λF=>Ld .slice f (d.add 3) λG=>K D E F G false f) (Ld .slice h (z.add 10) λH=>Aa H h λI J L m M N=>Ε N amU 105 λb O=>h_ [Β I,Β J,Β L,Δ m] O b 0 λe=>let A:Bool->b_:=λP g=>(fM g (d.add 0) λQ=>fM g (d.add 1) λR=>fM g (d.add 2) λS=>Ld .slice g (d.add 3) λT=>K Q R S T P g)
 fM e.drew (b.add 0) λi=>fM e.drew (b.add 1) λj=>fM e.drew (b.add 2) λk=>Ld .slice e.drew (b.add 3) λc=>(cond (M==0) (fM e.drew b λU=>Fp U e.drew λV l=>Cj l b i j<|Ci l b 2 k<|Cs l b 3 (Δ c)<|h_ [Β i,Β j,Β k,Δ c] l d 0 λW=>A V W) (e.drew.cell? (b.add 0)=some (Β i)/\
 e.drew.cell? (b.add 1)=some (Β j)/\
 e.drew.cell? (b.add 2)=some (Β k)/\
 e.drew.cell? (b.add 3)=some (Δ c)/\
 h_ [Β i,Β j,Β k,Δ c] e.drew d 0 λX=>A false X))))):=χ Tryz.func40
theorem EI {i l m n o p q r s t u v x y z A f w K}:gB (qh i l m n o p q r s t u v x y z A f w K)
 (Ε w (gQ m n o p q r s t u v x) 48 λg I=>Ε I [Β y,Β z,Β A,Δ f] 105 λe J=>Ε J ξ 48 λc B=>Ld .slice B (e.add 3) λL=>uV L B λM N O P Q R S T U V W X Y Z aa ab=>Ε ab ξ 48 λC ac=>Ε ac amT 110 λj ad=>h_ (gQ M N O P Q R S T U V W) ad C 0 λae=>h_ [Β X,Β Y,Β Z] ae j 0 λd=>(cond (aa !=0) (h_ ξ d c 0 λD=>iq D c λaf ag ah ai aj ak al am an ao ap=>K af ag ah ai aj ak al am an ao ap 1 D) (Pt i λaq=>Ld .ptr d.drew (aq.add 2) λar=>fM d.drew j λau=>fM d.drew (C.add 6) λav=>fM d.drew (j.add 2) λaw=>nJ ar l au av aw d.drew λax ay k=>(cond (!ay) (h_ ξ k c 0 λE=>iq E c λaz aA aB aC aD aE aF aG aH aI aJ=>K az aA aB aC aD aE aF aG aH aI aJ 9 E) (Pt i λaK=>Ld .ptr k (aK.add 2) λaL=>kL aL ax k λaM aN aO aP aQ aR aS aT bR aU=>Ε aU amV 93 λh aV=>h_ [Β aM,Β aN,Β aO,Β aP,Β aQ,Β aR,Β aS,.bool aT] aV h 0 λb=>iq b g λaW aX aY aZ a2 a3 a4 a5 a7 a9 ba=>fM b (e.add 0) λbb=>fM b (e.add 1) λbc=>fM b (e.add 2) λbd=>Ld .slice b (e.add 3) λbe=>fM b ((h.add 4).add 1) λbf=>fM b ((h.add 4).add 2) λbg=>Dc aW aX aY aZ a2 a3 a4 a5 a7 a9 ba bb bc bd be false bf bg b λbh bi bj bk bl bm bn bo bp bq br bs=>h_ (gQ bh bi bj bk bl bm bn bo bp bq br) bs g 0 λF=>fM F ((h.add 4).add 1) λbt=>St F (g.add 5) (Β bt) λG=>iq G g λbu bv bw bx bz bA bB bC bD bE bF=>h_ (gQ bu bv bw bx bz bA bB bC bD bE bF) G c 0 λH=>iq H c λbG bH bI bJ bK bL bM bN bO bP bQ=>K bG bH bI bJ bK bL bM bN bO bP bQ 0 H))))):=χ Tryz.func41
theorem ϴ {d e f g h i j k l m n w K}:gB (FD d e f g h i j k l m n w K)
 (Ε w (gQ d e f g h i j k l m n) 48 λr s=>Ε s amT 110 λa o=>iq o r λt u v x y z A B C D E=>sG t u v x y z A B C D E o λF p q=>(cond (p !=0) (h_ amT q a 0 λb=>fM b (a.add 0) λG=>fM b (a.add 1) λH=>fM b (a.add 2) λI=>K G H I p b) (LY υ F "goosepond/ports.ports" [] [.agg [ν,ν,ν]] q λJ L M N=>h_ [Β J,Β L,Β M] N a 0 λc=>fM c (a.add 0) λO=>fM c (a.add 1) λP=>fM c (a.add 2) λQ=>K O P Q 0 c))):=χ Tryz.func42
theorem ϲ {a w K}:gB (FB a w K)
 ((cond (a==8) (K 4 w) (K 1 w))):=χ Tryz.func43
theorem I_ {n r s t u v x y z A B C D E F G H I w K}:gB (jT n r s t u v x y z A B C D E F G H I w K)
 (Ε w [Β r,Β s,Β t,Β u] 50 λd R=>Ε R [Β v,Β x] 98 λJ S=>Ε S (gQ y z A B C D E F G H I) 48 λL T=>Ε T amW 115 λa q=>fM q (J.add 0) λU=>fM q (J.add 1) λV=>Ε q amW 115 λb W=>h_ [Β 0,.bool false,Β 0,.bool false,Β 0,Β U,Β V] W b 0 λm=>Pt n λX=>Ld .ptr m.drew (X.add 2) λY=>fM m.drew (d.add 0) λZ=>fM m.drew (d.add 1) λaa=>fM m.drew (d.add 2) λab=>fM m.drew (d.add 3) λac=>nJ Y Z aa ab ac m.drew λad ae af=>St af b (Β ad) λag=>St ag (b.add 1) (.bool ae) λe=>fM e (b.add 0) λah=>Ld .bool e (b.add 1) λai=>fM e (b.add 2) λaj=>Ld .bool e (b.add 3) λak=>fM e (b.add 4) λal=>fM e (b.add 5) λam=>fM e (b.add 6) λan=>qj n ah ai aj ak al am an e λao ap aq ar au av aw ax=>h_ [Β ao,.bool ap,Β aq,.bool ar,Β au,Β av,Β aw] ax b 0 λc=>fM c (b.add 0) λay=>Ld .bool c (b.add 1) λaz=>fM c (b.add 2) λaA=>Ld .bool c (b.add 3) λaB=>fM c (b.add 4) λaC=>fM c (b.add 5) λaD=>fM c (b.add 6) λaE=>iq c L λaF aG aH aI aJ aK aL aM aN aO aP=>C_ ay az aA aB aC aD aE aF aG aH aI aJ aK aL aM aN aO aP true c λaQ aR o=>(cond (!aR) (h_ amW o a 0 λf=>fM f (a.add 0) λaS=>Ld .bool f (a.add 1) λaT=>fM f (a.add 2) λaU=>Ld .bool f (a.add 3) λaV=>fM f (a.add 4) λaW=>fM f (a.add 5) λaX=>fM f (a.add 6) λaY=>K aS aT aU aV aW aX aY (Value.iface 121 (Β 8)) f) (let M:Bool->b_:=λaZ p=>((cond aZ (h_ amW p a 0 λg=>fM g (a.add 0) λa1=>Ld .bool g (a.add 1) λa2=>fM g (a.add 2) λa3=>Ld .bool g (a.add 3) λa4=>fM g (a.add 4) λa5=>fM g (a.add 5) λa7=>fM g (a.add 6) λa9=>K a1 a2 a3 a4 a5 a7 a9 (Value.iface 121 (Β 9)) g) (let N:Bool->b_:=λba h=>((cond ba (h_ amW h a 0 λi=>fM i (a.add 0) λbb=>Ld .bool i (a.add 1) λbc=>fM i (a.add 2) λbd=>Ld .bool i (a.add 3) λbe=>fM i (a.add 4) λbf=>fM i (a.add 5) λbg=>fM i (a.add 6) λbh=>K bb bc bd be bf bg bh (Value.iface 121 (Β 6)) i) (let O:b_:=λbi=>(St bi (b.add 4) (Β aQ) λj=>fM j (b.add 0) λbj=>Ld .bool j (b.add 1) λbk=>fM j (b.add 2) λbl=>Ld .bool j (b.add 3) λbm=>fM j (b.add 4) λbn=>fM j (b.add 5) λbo=>fM j (b.add 6) λbp=>h_ [Β bj,.bool bk,Β bl,.bool bm,Β bn,Β bo,Β bp] j a 0 λk=>fM k (a.add 0) λbq=>Ld .bool k (a.add 1) λbr=>fM k (a.add 2) λbs=>Ld .bool k (a.add 3) λbt=>fM k (a.add 4) λbu=>fM k (a.add 5) λbv=>fM k (a.add 6) λbw=>K bq br bs bt bu bv bw Value.nilIface k)
 Ld .bool h (b.add 1) λbx=>(cond (!bx) (fM h (d.add 0) λbz=>fM h (d.add 1) λbA=>fM h (d.add 2) λbB=>fM h (d.add 3) λbC=>vK n bz bA bB bC h λbD P Q=>GN υ .neq 117 P .nilIface λbE=>IfB bE λbF=>(cond bF (h_ amW Q a 0 λl=>fM l (a.add 0) λbG=>Ld .bool l (a.add 1) λbH=>fM l (a.add 2) λbI=>Ld .bool l (a.add 3) λbJ=>fM l (a.add 4) λbK=>fM l (a.add 5) λbL=>fM l (a.add 6) λbM=>K bG bH bI bJ bK bL bM P l) (St Q b (Β bD) λbN=>St bN (b.add 1) (.bool true) λbO=>O bO))) (O h)))))
 Ld .bool p (b.add 3) λbP=>(cond (!bP) (nU n p λbQ bR=>N bQ bR) (N false p)))))
 Ld .bool o (b.add 1) λbS=>(cond (!bS) (iq o L λbT bU bV bW bX bY bZ b0 b1 b2 b3=>Bo bT bU bV bW bX bY bZ b0 b1 b2 b3 o λb4 b5=>M b4 b5) (M false o))))):=χ Tryz.func44
theorem UL {c d e w K}:gB (uU c d e w K)
 (Ε w amS 98 λa g=>let f:Int->Prop:=λh=>(h_ [Β d,Β h] g a 0 λb=>fM b (a.add 0) λi=>fM b (a.add 1) λj=>K i j b)
 (cond (c==1) (f 0) (f e))):=χ Tryz.func45
theorem KW {d i j k l m n o p f w K}:gB (nM d i j k l m n o p f w K)
 (Ε w [Β i,.bool j,Β k,.bool l,Β m,Β n,Β o] 115 λb g=>Pt d λq=>fM g.drew (q.add 41) λc=>Pt d λs=>oN g.drew (s.add 5) λt u v x y z A B C D E F G H I J L M N O P Q R S T U V W X Y Z aa ab ac ad ae=>DN t u v x y z A B C D E F G H I J L M N O P Q R S T U V W X Y Z aa ab ac ad ae p f g.drew λe a=>a.cell? (q.add 41)=some (Β c)/\
 let r:b_:=λh=>(Pt d λaf=>Ld .ptr h.drew (af.add 4) λag=>fM h.drew (b.add 2) λah=>rO ag ah (if (1099511627776:Int)<(ο.wrap (c+e)) then 1099511627776 else (ο.wrap (c+e))) h.drew λay ai=>K ai)
 Ld .bool a (b.add 3) λaj=>(cond aj (Pt d λak=>Ld .ptr a.drew (ak.add 3) λal=>fM a.drew (b.add 2) λam=>uI al am f (if (1099511627776:Int)<(ο.wrap (c+e)) then 1099511627776 else (ο.wrap (c+e))) a.drew λaz an=>r an) (Pt d λao=>Ld .ptr a.drew (ao.add 3) λap=>fM a.drew b λaq=>fM a.drew ((b.add 5).add 0) λar=>fM a.drew ((b.add 5).add 1) λau=>uF ap aq f (if (1099511627776:Int)<(ο.wrap (c+e)) then 1099511627776 else (ο.wrap (c+e))) ar au a.drew λav aA aw=>St aw (b.add 2) (Β av) λax=>r ax))):=χ Tryz.func47
theorem UD {f g w K}:gB (kL f g w K)
 (Ε w amV 93 λa h=>yE f g h λi b=>(cond (!i) (h_ amV b a 0 λc=>fM c (a.add 0) λj=>fM c (a.add 1) λk=>fM c (a.add 2) λl=>fM c (a.add 3) λm=>fM c (a.add 4) λn=>fM c (a.add 5) λo=>fM c (a.add 6) λp=>Ld .bool c (a.add 7) λq=>K j k l m n o p q false c) (Pt f λr=>Ld .slice b r λs=>iE s 9 g λe=>fM b (e.add 0) λt=>fM b (e.add 1) λu=>fM b (e.add 2) λv=>fM b (e.add 3) λx=>fM b (e.add 4) λy=>fM b (e.add 5) λz=>fM b (e.add 6) λA=>Ld .bool b (e.add 7) λB=>h_ [Β t,Β u,Β v,Β x,Β y,Β z,Β A,.bool B] b a 0 λd=>fM d (a.add 0) λC=>fM d (a.add 1) λD=>fM d (a.add 2) λE=>fM d (a.add 3) λF=>fM d (a.add 4) λG=>fM d (a.add 5) λH=>fM d (a.add 6) λI=>Ld .bool d (a.add 7) λJ=>K C D E F G H I J true d))):=χ Tryz.func48
theorem WE {b c d e f g h i j k l m n w K}:gB (FC b c d e f g h i j k l m n w K)
 (Ε w (gQ b c d e f g h i j k l) 48 λo r=>Ε r ξ 48 λp a=>iq a o λs t u v x y z A B C D=>fM a (o.add 6) λE=>yF s t u v x y z A B C D m E n (-1) a λF G H I J L M N O P Q R S=>h_ (gQ F G H I J L M N O P Q) S p 0 λq=>iq q p λT U V W X Y Z aa ab ac ad=>K T U V W X Y Z aa ab ac ad R q):=χ Tryz.func49
theorem U1 {a w K}:gB (yI a w K)
 (Ε w ξ 48 λb d=>FQ a false d λe f g h i j k l m n o p q=>h_ (gQ e f g h i j k l m n o) q b 0 λc=>iq c b λr s t u v x y z A B C=>K r s t u v x y z A B C p c):=χ Tryz.func50
theorem Gn {i m n o p q r s t u v x y z A g w K}:gB (qZ i m n o p q r s t u v x y z A g w K)
 (Ε w (gQ m n o p q r s t u v x) 48 λh H=>Ε H [Β y,Β z,Β A,Δ g] 105 λe I=>Ε I ξ 48 λc B=>Ld .slice B (e.add 3) λJ=>uV J B λL M N O P Q R S T U V W X Y Z aa=>Ε aa ξ 48 λC ab=>Ε ab amT 110 λj ac=>h_ (gQ L M N O P Q R S T U V) ac C 0 λad=>h_ [Β W,Β X,Β Y] ad j 0 λd=>(cond (Z !=0) (h_ ξ d c 0 λD=>iq D c λae af ag ah ai aj ak al am an ao=>K 0 ae af ag ah ai aj ak al am an ao 1 D) (Pt i λap=>Ld .ptr d.drew (ap.add 2) λaq=>fM d.drew j λar=>fM d.drew (C.add 5) λau=>fM d.drew (j.add 1) λav=>oW aq ar au av d.drew λaw ax k=>(cond (!ax) (h_ ξ k c 0 λE=>iq E c λay az aA aB aC aD aE aF aG aH aI=>K 0 ay az aA aB aC aD aE aF aG aH aI 9 E) (Pt i λaJ=>Ld .ptr k (aJ.add 2) λaK=>kL aK aw k λaL aM aN aO aP aQ aR aS bR aT=>Ε aT amV 93 λf aU=>h_ [Β aL,Β aM,Β aN,Β aO,Β aP,Β aQ,Β aR,.bool aS] aU f 0 λb=>iq b h λaV aW aX aY aZ a1 a2 a3 a4 a6 a8=>fM b (e.add 0) λba=>fM b (e.add 1) λbb=>fM b (e.add 2) λbc=>Ld .slice b (e.add 3) λbd=>fM b (f.add 2) λbe=>fM b (f.add 3) λbf=>Dc aV aW aX aY aZ a1 a2 a3 a4 a6 a8 ba bb bc bd true be bf b λbg bh bi bj bk bl bm bn bo bp bq br=>h_ (gQ bg bh bi bj bk bl bm bn bo bp bq) br h 0 λF=>fM F (f.add 2) λbs=>St F (h.add 6) (Β bs) λl=>fM l.drew f λbt=>iq l.drew h λbu bv bw bx bz bA bB bC bD bE bF=>h_ (gQ bu bv bw bx bz bA bB bC bD bE bF) l.drew c 0 λG=>iq G c λbG bH bI bJ bK bL bM bN bO bP bQ=>K bt bG bH bI bJ bK bL bM bN bO bP bQ 0 G))))):=χ Tryz.func53
theorem Q_ {b d e f w K}:gB (oW b d e f w K)
 (Ε w [Β d,Β e,Β f] 52 λc j=>lD b j λk a=>(cond (!k) (K 0 false a) (Pt b λg=>Ld .ptr a.drew (g.add 2) λh=>fM a.drew (c.add 0) λl=>fM a.drew (c.add 1) λm=>fM a.drew (c.add 2) λn=>qM l m n a.drew λo i=>i.cell? (g.add 2)=some (.pointer h)/\
 oZ h o i λp q r=>K p q r))):=χ Tryz.func54
theorem KT {j n o p q r s t w K}:gB (qj j n o p q r s t w K)
 (Ε w [Β n,.bool o,Β p,.bool q,Β r,Β s,Β t] 115 λa A=>Ε A amW 115 λb c=>Ld .bool c (a.add 1) λB=>(cond (!B) (fM c (a.add 0) λC=>Ld .bool c (a.add 1) λD=>fM c (a.add 2) λE=>Ld .bool c (a.add 3) λF=>fM c (a.add 4) λG=>fM c (a.add 5) λH=>fM c (a.add 6) λI=>h_ [Β C,.bool D,Β E,.bool F,Β G,Β H,Β I] c b 0 λd=>fM d (b.add 0) λJ=>Ld .bool d (b.add 1) λL=>fM d (b.add 2) λM=>Ld .bool d (b.add 3) λN=>fM d (b.add 4) λO=>fM d (b.add 5) λP=>fM d (b.add 6) λQ=>K J L M N O P Q d) (Pt j λR=>Ld .ptr c.drew (R.add 3) λS=>fM c.drew a λT=>fM c.drew ((a.add 5).add 0) λU=>fM c.drew ((a.add 5).add 1) λV=>oD S T U V c.drew λW X Y=>St Y (a.add 2) (Β W) λZ=>St Z (a.add 3) (.bool X) λg=>let u:b_:=λe=>(fM e (a.add 0) λaa=>Ld .bool e (a.add 1) λab=>fM e (a.add 2) λac=>Ld .bool e (a.add 3) λad=>fM e (a.add 4) λae=>fM e (a.add 5) λaf=>fM e (a.add 6) λag=>h_ [Β aa,.bool ab,Β ac,.bool ad,Β ae,Β af,Β ag] e b 0 λf=>fM f (b.add 0) λah=>Ld .bool f (b.add 1) λai=>fM f (b.add 2) λaj=>Ld .bool f (b.add 3) λak=>fM f (b.add 4) λal=>fM f (b.add 5) λam=>fM f (b.add 6) λan=>K ah ai aj ak al am an f)
 Ld .bool g (a.add 3) λao=>(cond ao (let v:Addr->b_:=λap x=>(fM x (ap.add 1) λaq=>St x (a.add 4) (Β aq) λar=>u ar)
 Pt j λk=>Ld .ptr g.drew (k.add 3) λh=>fM g.drew (a.add 2) λi=>(mO h i g.drew λau av aw ax ay aI az=>Ε az amX 100 λy l=>Ci l a 2 i<|Cs l k 3 (.pointer h)<|h_ [Β au,Β av,Β aw,Β ax,Β ay] l y 0 λaA=>v y aA)/\
 (Ε g.drew amX 100 λz m=>Ci m a 2 i<|Cs m k 3 (.pointer h)<|mO h i m λaB aC aD aE aF aJ aG=>h_ [Β aB,Β aC,Β aD,Β aE,Β aF] aG z 0 λaH=>v z aH)) (u g))))):=χ Tryz.func55
theorem Ro {b e f c w K}:gB (Bh b e f c w K)
 (Ε w [Β e,Β f] 98 λd a=>(cond (b==0) (K true a) (cond (b==1) (kK c (Value.func (.func 128) #[] #[(Value.pointer (some d))]) a λg h=>K g h) (cond (b==2) (fM a (d.add 0) λi=>fM a (d.add 1) λj=>lN c i j a λk l=>K k l) (K false a))))):=χ Tryz.func56
theorem KY {j k w K}:gB (vM j k w K)
 (Ε w [.slice none 0 0] 140 λf l=>Pt j λo=>Ld .ptr l (o.add 3) λp=>nN p k l λq c=>xk υ none [.one ν,.agg [ν,ν,ν,ν,ν]] q c (λb d m r=>Ε m amX 100 λg s=>h_ [Β d.2.1.1,Β d.2.1.2.1,Β d.2.1.2.2.1,Β d.2.1.2.2.2.1,Β d.2.1.2.2.2.2.1] s g 0 λe=>e.heap[b]? =m.heap[b]? /\
 Ld .slice (gu e b) f λt=>fM (gu e b) ((g.add 3).add 0) λu=>fM (gu e b) ((g.add 3).add 1) λv=>Al (gu e b) (.cells ⟨[Β u,Β v]⟩ 98) λx y=>mG 98 2 16 [(Β 0),(Β 0)] t ⟨(some x),1,1⟩ y λh z=>St z f (Δ h) λA=>r .normal A)
 (λi=>Ld .slice i f λB=>Η i c/\
 K B (jB i c))
 (λn=>Η n c/\
 K ⟨none,0,0⟩ (jB n c))
 []):=χ Tryz.func57 (fQ (fQ (.seq (fQ (.blk (.rng [.one ν,.agg [ν,ν,ν,ν,ν]] .leaf .leaf))) .leaf)))
theorem Ja {e g h i j k l m n o p q r s t u v x y w K}:gB (uD e g h i j k l m n o p q r s t u v x y w K)
 (Ε w [Β g,.bool h,Β i,.bool j,Β k,Β l,Β m] 115 λa A=>Ε A (gQ n o p q r s t u v x y) 48 λf b=>fM b (f.add 4) λB=>(cond (B !=6) (K 0 b) (fM b (a.add 0) λC=>Ld .bool b (a.add 1) λD=>fM b (a.add 2) λE=>Ld .bool b (a.add 3) λF=>fM b (a.add 4) λG=>fM b (a.add 5) λH=>fM b (a.add 6) λI=>iq b f λJ L M N O P Q R S T U=>C_ C D E F G H I J L M N O P Q R S T U false b λV W d=>(cond (!W) (K 8 d) (let z:Bool->b_:=λX c=>((cond X (K 6 c) (fM c (a.add 0) λY=>Ld .bool c (a.add 1) λZ=>fM c (a.add 2) λaa=>Ld .bool c (a.add 3) λab=>fM c (a.add 4) λac=>fM c (a.add 5) λad=>fM c (a.add 6) λae=>fM c (f.add 4) λaf=>nM e Y Z aa ab ac ad ae af V c λag=>K 0 ag)))
 Ld .bool d (a.add 3) λah=>(cond (!ah) (nU e d λai aj=>z ai aj) (z false d))))))):=χ Tryz.func58
theorem ϵ {b c d e f g h i j k l m n w K}:gB (MF b c d e f g h i j k l m n w K)
 (Ε w (gQ b c d e f g h i j k l) 48 λo r=>Ε r ξ 48 λp a=>iq a o λs t u v x y z A B C D=>fM a (o.add 5) λE=>yF s t u v x y z A B C D E m (-1) n a λF G H I J L M N O P Q R S=>h_ (gQ F G H I J L M N O P Q) S p 0 λq=>iq q p λT U V W X Y Z aa ab ac ad=>K T U V W X Y Z aa ab ac ad R q):=χ Tryz.func59
theorem P6 {c d e f g h i j k l m n o p q r s t u v x y z A B C D E F G H I J L M N w K}:gB (zJ c d e f g h i j k l m n o p q r s t u v x y z A B C D E F G H I J L M N w K)
 (Ε w (jd c d e f g h i j k l m n o p q r s t u v x y z A B C D E F G H I J L M N) 28 λb a=>Ld .slice a (b.add 16) λP=>Ld .slice a (b.add 17) λQ=>Ld .slice a (b.add 35) λR=>fM a (b.add 21) λO=>fM a (b.add 18) λS=>fM a (b.add 19) λT=>fM a (b.add 18) λU=>fM a (b.add 20) λV=>fM a (b.add 21) λW=>fM a (b.add 22) λX=>fM a (b.add 23) λY=>fM a (b.add 24) λZ=>fM a (b.add 25) λaa=>fM a (b.add 26) λab=>fM a (b.add 27) λac=>fM a (b.add 29) λad=>fM a (b.add 30) λae=>fM a (b.add 31) λaf=>fM a (b.add 32) λag=>fM a (b.add 33) λah=>fM a (b.add 34) λai=>Ε a (aj_ (P.len:Int) 1 64 (Q.len:Int) 1 16 (R.len:Int) 0 (if O<64 then O else 64) S 1 65535 T U 65535 V 1 4096 W 1 4096 X 1 4096 Y 0 4096 Z 0 67108864 aa 1280 65535 ab 1280 65535 ac 1 255 ad 0 2 ae 120 1048576 af 7440 1048576 ag 240 1048576 ah 60 1048576 ai 1 1048576) 146 λaj ak=>K ⟨(some aj),19,19⟩ ak):=χ Tryz.func60
theorem MZ {c d e w K}:gB (kN c d e w K)
 (Ε w [Β c,Β d,Β e] 146 λb a=>let f:Bool->Prop:=λg=>(K g a)
 fM a (b.add 1) λh=>fM a b λi=>(cond (decide (h<=i)) (fM a b λj=>fM a (b.add 2) λk=>f (decide (j<=k))) (f false))):=χ Tryz.func61
theorem Rn {a w K}:gB (Bg a w K)
 (let b:Bool->b_:=λc d=>(K c d)
 (cond (a==0) (b true w) (kN a 536 65535 w λe f=>b e f))):=χ Tryz.func62
theorem Rk {e f g h i j k l m n o p q r s t u v x y z A B C D E F G H I J L M N O P w K}:gB (Bc e f g h i j k l m n o p q r s t u v x y z A B C D E F G H I J L M N O P w K)
 (Ε w (jd e f g h i j k l m n o p q r s t u v x y z A B C D E F G H I J L M N O P) 28 λa Q=>let R:Bool->b_:=λW b=>((cond W (K false b) (let S:Bool->b_:=λX T=>((cond X (K false T) (K true T)))
 Ld .slice b (a.add 17) λY=>jV Y (Value.func (.func 133) #[] #[]) b λU c=>(cond U (S U c) (Ld .slice c (a.add 35) λZ=>jq Z (Value.func (.func 134) #[] #[(Value.pointer (some a))]) c λaa ab=>S aa ab)))))
 uS Q a λac ad ae af ag ah ai aj ak al am an ao ap aq ar=>FV ac ad ae af ag ah ai aj ak al am an ao ap aq ar Q λV d=>(cond (!V) (R (!V) d) (Ld .slice d (a.add 16) λau=>jS au (Value.func (.func 131) #[] #[]) d λav aw=>R av aw))):=χ Tryz.func63
theorem Om {F G H I J L M N O P Q R T U V W X Y Z aa ab ac ad ae af ag ah ai aj ak al am an ao ap aq w K}:gB (xG F G H I J L M N O P Q R T U V W X Y Z aa ab ac ad ae af ag ah ai aj ak al am an ao ap aq w K)
 (Ε w (jd F G H I J L M N O P Q R T U V W X Y Z aa ab ac ad ae af ag ah ai aj ak al am an ao ap aq) 28 λb f=>let J4:fU->b_:=λj5 w6=>(let g:Bool->b_:=λj8 y=>((cond j8 (K true y) (Ld .slice y (b.add 16) λau=>Z9 3 1 8 [(Β 0)] (au.len:Int) (au.len:Int) y λz av=>Ld .slice av (b.add 35) λaw=>iH (S:=Int×Unit) (λA c aG=>(cond (decide (A.1<(aw.len:Int))) (iE aw 7 A.1 λe=>fM c (e.add 0) λaH=>fM c (e.add 1) λaI=>fM c (e.add 2) λaJ=>fM c (e.add 3) λaK=>fM c (e.add 4) λaL=>fM c (e.add 5) λaM=>fM c (e.add 6) λaN=>Ε c am0 54 λax aO=>h_ [Β aH,Β aI,Β aJ,Β aK,Β aL,Β aM,Β aN] aO ax 0 λB=>fM B ax λay=>iE z 1 ay λaP=>fM B aP λaQ=>iE z 1 ay λaR=>St B aR (Β (ο.wrap (aQ+1))) λaS=>aG ((ο.wrap (A.1+1)),()) aS) (jV z (Value.func (.func 152) #[] #[(Value.pointer (some b))]) c λaT aU=>K aT aU))) (0,()) av)))
 lY j5 (Value.func (.func 144) #[] #[]) w6 λaV aW=>qg aV aW λaX C=>(cond aX (g true C) (Ld .slice C (b.add 17) λaY=>qY aY (Value.func (.func 147) #[] #[]) C λaZ a0=>vI aZ a0 λa1 D=>(cond a1 (g true D) (Ld .slice D (b.add 35) λa2=>kD a2 (Value.func (.func 140) #[] #[]) D λa4 a5=>oL a4 a5 λa6 E=>(cond a6 (g true E) (Ld .slice E (b.add 35) λa7=>kF a7 (Value.func (.func 141) #[] #[]) E λa8 a9=>oM a8 a9 λba bb=>g ba bb)))))))
 Ld .slice f.drew (b.add 16) λd=>uS f.drew b λh i j k l m n o p q r s t u v x=>(jR d f.drew λbc az=>VJ (nI h i j k l m n o p q r s t u v x) az b 0 (
 Ε az (nI h i j k l m n o p q r s t u v x) 23 λbd aA=>aA.cell? (b.add 16)=some (Δ d)/\
 mG 23 16 16 (nI 0 0 0 0 0 0 0 0 0 0 0 0 0 0 0 0) bc ⟨(some bd),1,1⟩ aA λbe bf=>J4 be bf))/\
 (Ε f.drew (nI h i j k l m n o p q r s t u v x) 23 λbg aB=>aB.cell? (b.add 16)=some (Δ d)/\
 jR d aB λbh aC=>VJ (nI h i j k l m n o p q r s t u v x) aC b 0 (
 mG 23 16 16 (nI 0 0 0 0 0 0 0 0 0 0 0 0 0 0 0 0) bh ⟨(some bg),1,1⟩ aC λbi bj=>J4 bi bj))):=χ Tryz.func64 (fQ (fQ (fQ (fQ (fQ (fQ (.seq (fQ (.blk (.loop [(46,ν)] .leaf))) .leaf)))))))
theorem Ov {a w K}:gB (r_ a w K)
 (lS a w λc b=>(cond (!c) (K false b) (Ε b [Β 0,Β 8,Β 2130706432,Β 8,Β 3758096384,Β 3] 270 λd e=>TD a ⟨(some d),3,3⟩ e λf g=>K (!f) g))):=χ Tryz.func65
theorem sS {a b w K}:gB (iR a b w K)
 (nC a b w λc d=>K (decide (c>=0)) d):=χ Tryz.func66
theorem EO {b w K}:gB (ni b w K)
 ((cond (Option.isNone b.a) (K ⟨none,0,0⟩ w) (Ε w [] 3 λc d=>mG 3 1 8 [(Β 0)] ⟨(some c),0,0⟩ b d λe f=>K e f))):=χ Tryz.func67
theorem ϯ {a w K}:gB (Bj a w K)
 (let b:Bool->Prop:=λc=>((cond c (K none 1 w) (Ε w [.slice none 0 0,Β 0,Β a,.bool true] 274 λd e=>K (some d) 0 e)))
 (cond (decide (a<0)) (b true) (b (decide (a>65536))))):=χ Tryz.func68
theorem Nj {g l m n o p q r w K}:gB (wI g l m n o p q r w K)
 (Ε w [Β l,Β m,Β n,Β o,Β p,Β q,Β r] 54 λa d=>fM d (a.add 1) λc=>let h:Bool->Prop:=λs=>((cond s (let e:Bool->b_:=λt b=>(let i:Bool->b_:=λu v=>(K u v)
 (cond t (fM b (a.add 1) λx=>fM b (a.add 4) λy=>(cond (x==y) (fM b a λz=>mX g z b λA B=>i A B) (i false b))) (i false b)))
 fM d.drew (a.add 2) λC=>r_ C d.drew λD f=>(cond D (Pt g λE=>Ld .ptr f E λF=>fM f ((a.add 4).add 1) λG=>vG F G f λH j=>(cond H (fM j (a.add 3) λI=>CZ I j λJ k=>(cond J (fM k ((a.add 4).add 2) λL=>CZ L k λM N=>e M N) (e false k))) (e false j))) (e false f))) (K false d)))
 (cond (c==1) (h (c==1)) (cond (c==6) (h (c==6)) (h (c==17))))):=χ Tryz.func69
theorem Rf {c d e f g w K}:gB (nJ c d e f g w K)
 (Ε w [Β d,Β e,Β f,Β g] 50 λb k=>lD c k λl a=>(cond (!l) (K 0 false a) (Pt c λh=>Ld .ptr a.drew (h.add 1) λi=>fM a.drew (b.add 0) λm=>fM a.drew (b.add 1) λn=>fM a.drew (b.add 2) λo=>fM a.drew (b.add 3) λp=>qL m n o p a.drew λq j=>j.cell? (h.add 1)=some (.pointer i)/\
 oZ i q j λr s t=>K r s t))):=χ Tryz.func70
theorem Jf {b c w K}:gB (oP b c w K)
 (pz b c w λd e a=>(cond (e !=0) (K 0 a) (Pt d λf=>fM a f λg=>K g a))):=χ Tryz.func71
theorem KU {a w K}:gB (qm a w K)
 (Pt a λe=>Ld .ptr w.drew (e.add 2) λf=>Pt a λb=>fM w.drew ((b.add 5).add 21) λc=>DL f w.drew λg d=>d.cell? ((b.add 5).add 21)=some (Β c)/\
 K (decide (g>=c)) d):=χ Tryz.func72
theorem La {d e w K}:gB (qx d e w K)
 (pz d e w λb f a=>(cond (f !=0) (K f a) (Pt b λg=>fM a (g.add 0) λh=>fM a (g.add 1) λi=>vO h i a λj c=>(cond j (K 10 c) (Pt b λk=>fM c k λl=>Pt b λm=>St c m (Β (ο.wrap (l+1))) λn=>K 0 n))))):=χ Tryz.func73
theorem OG {c h i j w K}:gB (xM c h i j w K)
 (Ε w [Β h,Β i,Β j] 52 λb n=>jU c n λo f=>(cond (!o) (K 2 f) (let e:Bool->b_:=λp a=>((cond p (K 1 a) (Pt c λq=>Ld .map a.drew (q.add 3) λr=>fM a.drew (b.add 0) λs=>fM a.drew (b.add 1) λt=>fM a.drew (b.add 2) λu=>pY υ 52 .bool r (Value.agg ⟨[Β s,Β t,Β u]⟩) (Value.bool false) a.drew λv=>(cond v (K 9 a.drew) (Pt c λx=>Ld .map a.drew.drew (x.add 3) λy=>fM a.drew.drew (b.add 0) λz=>fM a.drew.drew (b.add 1) λA=>fM a.drew.drew (b.add 2) λB=>oK υ 52 y (Value.agg ⟨[Β z,Β A,Β B]⟩) (Value.bool true) a.drew.drew λC=>K 0 C)))))
 fM f b λD=>tC D f λk g=>(cond (!k) (e (!k) g) (fM g (b.add 1) λE=>vG c E g λl d=>(cond (!l) (e (!l) d) (fM d (b.add 2) λm=>(cond (decide (m<0)) (e (decide (m<0)) d) (fM d (b.add 2) λF=>e (decide (F>=65536)) d))))))))):=χ Tryz.func74
theorem UA {c i j k l m n o p w K}:gB (yA c i j k l m n o p w K)
 (Ε w [Β i,Β j,Β k,Β l,Β m,Β n,Β o,.bool p] 93 λa A=>lD c A λB d=>(cond (!B) (K 0 2 d) (fM d (a.add 0) λC=>fM d (a.add 1) λD=>fM d (a.add 2) λE=>fM d (a.add 3) λF=>nJ c C D E F d λam G g=>fM g ((a.add 4).add 0) λH=>fM g ((a.add 4).add 1) λI=>fM g ((a.add 4).add 2) λJ=>oW c H I J g λan L q=>let r:Bool->Prop:=λM=>((cond M (K 0 9 q) (AX c q λh N b=>(cond (!N) (K 0 7 b) (Pt c λO=>Ld .slice b.drew O λP=>fM b.drew (a.add 0) λQ=>fM b.drew (a.add 1) λR=>fM b.drew (a.add 2) λS=>fM b.drew (a.add 3) λT=>fM b.drew (a.add 4) λU=>fM b.drew (a.add 5) λV=>fM b.drew (a.add 6) λW=>Ld .bool b.drew (a.add 7) λX=>iE P 9 h λY=>h_ (aa4 Q R S T U V W X true) b.drew Y 0 λe=>Pt c λs=>Ld .ptr e.drew (s.add 1) λt=>fM e.drew (a.add 0) λZ=>fM e.drew (a.add 1) λaa=>fM e.drew (a.add 2) λab=>fM e.drew (a.add 3) λac=>qL Z aa ab ac e.drew λad u=>u.cell? (s.add 1)=some (.pointer t)/\
 o9 t ad h u λao f=>Pt c λv=>Ld .ptr f.drew (v.add 2) λx=>fM f.drew ((a.add 4).add 0) λae=>fM f.drew ((a.add 4).add 1) λaf=>fM f.drew ((a.add 4).add 2) λag=>qM ae af ag f.drew λah y=>y.cell? (v.add 2)=some (.pointer x)/\
 o9 x ah h y λap z=>Pt c λai=>fM z (ai.add 3) λaj=>Pt c λak=>St z (ak.add 3) (Β (ο.wrap (aj+1))) λal=>K h 0 al)))))
 (cond G (r true) (r L))))):=χ Tryz.func75
theorem Gz {b a w K}:gB (rD b a w K)
 (kX b w λi d=>(cond (!i) (K ⟨none,0,0⟩ d) (Pt b λj=>fM d (j.add 449) λc=>iH (S:=fU×Unit) (λe k l=>vS b k λf m g=>let h:Bool->Prop:=λn=>((cond n (oH b (if (if (1099511627776:Int)<a then 1099511627776 else a)>c then (if (1099511627776:Int)<a then 1099511627776 else a) else c) g λo=>K e.1 o) (oH b f g λp=>wO b p λq r=>mG 3 1 8 [(Β 0)] e.1 q r λs t=>l (s,()) t)))
 (cond (!m) (h true) (h (decide (f>(if (if (1099511627776:Int)<a then 1099511627776 else a)>c then (if (1099511627776:Int)<a then 1099511627776 else a) else c)))))) (⟨none,0,0⟩,()) d))):=χ Tryz.func76 (fQ (fQ (fQ (fQ (fQ (.seq (.blk (.loop [(5,.slice)] .leaf)) .leaf))))))
theorem Jj {f g w K}:gB (mO f g w K)
 (Ε w amX 100 λa h=>mP f g h λi b=>(cond (!i) (h_ amX b a 0 λc=>fM c (a.add 0) λj=>fM c (a.add 1) λk=>fM c (a.add 2) λl=>fM c (a.add 3) λm=>fM c (a.add 4) λn=>K j k l m n false c) (Pt f λo=>Ld .slice b o λp=>iE p 6 g λe=>fM b (e.add 0) λq=>fM b (e.add 1) λr=>fM b (e.add 2) λs=>fM b (e.add 3) λt=>fM b (e.add 4) λu=>h_ [Β q,Β r,Β s,Β t,Β u] b a 0 λd=>fM d (a.add 0) λv=>fM d (a.add 1) λx=>fM d (a.add 2) λy=>fM d (a.add 3) λz=>fM d (a.add 4) λA=>K v x y z A true d))):=χ Tryz.func77
theorem EM {b m w K}:gB (mZ b m w K)
 (iI (Β m)=true/\
 Ε w [Β m] 3 λg p=>fM p g λD=>mP b D p λE c=>(cond (!E) (K false c) (Pt b λq=>Ld .slice c.drew q λi=>fM c.drew g λr=>iE i 6 r λd=>fM c.drew (d.add 0) λs=>fM c.drew (d.add 1) λt=>fM c.drew (d.add 2) λu=>fM c.drew (d.add 3) λv=>fM c.drew (d.add 4) λx=>Ε c.drew amX 100 λe f=>Cj f d s t<|Ci f d 2 u<|Ci f d 3 v<|Ci f d 4 x<|Cw f g (Β r)<|Cw f q (Δ i)<|h_ [Β s,Β t,Β u,Β v,Β x] f e 0 λh=>Pt b λy=>Ld .ptr h.drew (y.add 1) λz=>fM h.drew e λF=>fM h.drew ((e.add 3).add 0) λG=>fM h.drew ((e.add 3).add 1) λH=>uY F G H h.drew λI A=>Cs A y 1 (.pointer z)<|mJ z I A λad j=>Pt b λJ=>Ld .map j.drew (J.add 2) λL=>fM j.drew e λM=>pY υ 3 .slice L (Β M) (Value.slice none 0 0) j.drew λN=>ny N (Value.func (.func 173) #[] #[(Value.pointer (some g))]) j.drew λk n=>Pt b λO=>Ld .map n.drew (O.add 2) λP=>fM n.drew e λQ=>oK υ 3 P (Β Q) (Δ k) n.drew λl=>let B:b_:=λo=>(Pt b λR=>Ld .slice o.drew R λS=>fM o.drew g λT=>iE S 6 T λU=>h_ am4 o.drew U 0 λC=>Pt b λV=>fM C (V.add 3) λW=>Pt b λX=>St C (X.add 3) (Β (ο.wrap (W - 1))) λY=>K true Y)
 (cond ((k.len:Int)==0) (Pt b λZ=>Ld .map l.drew (Z.add 2) λaa=>fM l.drew e λab=>E5 υ 3 aa (Β ab) l.drew λac=>B ac) (B l))))):=χ Tryz.func78
theorem Hf {d e w K}:gB (sD d e w K)
 (Ε w [.bool false] 4 λb j=>Pt d λn=>Ld .ptr j (n.add 2) λo=>kL o e j λp q r s t u v x y z=>Ε z amV 93 λk A=>h_ [Β p,Β q,Β r,Β s,Β t,Β u,Β v,.bool x] A k 0 λc=>let l:Bool->Prop:=λB=>((cond B (St c b (.bool false) λm=>Ld .bool m b λC=>K C m) (Pt d λD=>Ld .ptr c (D.add 3) λE=>nN E e c λF a=>xk υ none [.one ν,.agg [ν,ν,ν,ν,ν]] F a (λf N g G=>g.heap[f]? =g.heap[f]? /\
 St (gu g f) b (Value.bool false) λH=>G .ret H)
 (λI=>St I b (.bool true) λh=>Η h a/\
 Ld .bool (jB h a) b λJ=>K J (jB h a))
 (λi=>Η i a/\
 Ld .bool (jB i a) b λL=>K L (jB i a))
 [])))
 (cond (!y) (l true) (Ld .bool c (k.add 7) λM=>l M))):=χ Tryz.func79 (fQ (fQ (fQ (.seq (fQ (.blk (.rng [.one ν,.agg [ν,ν,ν,ν,ν]] .leaf .leaf))) .leaf))))
theorem Gq {a d w K}:gB (jZ a d w K)
 (Pt a λh=>Ld .ptr w (h.add 2) λi=>kL i d w λj k l m n o p q r s=>Ε s amV 93 λb t=>h_ [Β j,Β k,Β l,Β m,Β n,Β o,Β p,.bool q] t b 0 λf=>(cond (!r) (K f) (mM a d f λg=>Pt a λu=>Ld .ptr g (u.add 2) λv=>xE v d g λG c=>Pt a λx=>Ld .ptr c.drew x λy=>fM c.drew ((b.add 4).add 0) λz=>fM c.drew ((b.add 4).add 1) λA=>fM c.drew ((b.add 4).add 2) λB=>xK y z A B c.drew λH e=>Pt a λC=>Ld .ptr e.drew (C.add 1) λD=>fM e.drew b λE=>vN D E e.drew λI F=>K F))):=χ Tryz.func80
theorem OC {a b w K}:gB (xJ a b w K)
 (iI (Value.pointer a)=true/\
 Ε w [.pointer a] 33 λc d=>iI (Β b)=true/\
 Ε d [Β b] 3 λe f=>K (Value.func (.func 177) #[] #[(Value.pointer (some c)),(Value.pointer (some e))]) f):=χ Tryz.func81
theorem I9 {d f w K}:gB (mM d f w K)
 (iI (Value.pointer d)=true/\
 Ε w [.pointer d] 33 λg e=>Ld .ptr e g λj=>Pt j λk=>Ld .ptr e (k.add 3) λl=>nN l f e λm a=>xk υ none [.one ν,.agg [ν,ν,ν,ν,ν]] m a (λb n c o=>c.heap[b]? =c.heap[b]? /\
 Ld .ptr (gu c b) g λp=>oC p n.1 (gu c b) λq=>o .normal q)
 (λh=>Η h a/\
 K (jB h a))
 (λi=>Η i a/\
 K (jB i a))
 []):=χ Tryz.func82 (fQ (fQ (.blk (.rng [.one ν,.agg [ν,ν,ν,ν,ν]] .leaf .leaf))))
theorem Nl {n e f o p q g w K}:gB (rJ n e f o p q g w K)
 (Ε w [Β n,Δ e,Δ f,Β o,Β p,Β q,Δ g] 42 λc t=>iH (S:=Int×Unit) (λd k u=>Ld .slice k (c.add 1) λv=>(cond (decide (d.1<(v.len:Int))) (iH (S:=Int×Unit) (λh b x=>(cond (decide (h.1<d.1)) (let r:Bool->b_:=λy s=>((cond y (K false s) (x ((ο.wrap (h.1+1)),()) s)))
 Ld .slice b.drew (c.add 1) λz=>iE z 8 h.1 λi=>fM b.drew (i.add 0) λA=>fM b.drew (i.add 1) λB=>fM b.drew (i.add 2) λC=>fM b.drew (i.add 3) λD=>Ld .slice b.drew (c.add 1) λE=>iE E 8 d.1 λj=>fM b.drew (j.add 0) λF=>fM b.drew (j.add 1) λG=>fM b.drew (j.add 2) λH=>fM b.drew (j.add 3) λI=>(cond ((A==F) && ((B==G) && ((C==H) && ((D==I) && true)))) (r true b.drew) (Ld .slice b.drew (c.add 1) λJ=>iE J 8 h.1 λl=>fM b.drew ((l.add 4).add 0) λL=>fM b.drew ((l.add 4).add 1) λM=>fM b.drew ((l.add 4).add 2) λN=>Ld .slice b.drew (c.add 1) λO=>iE O 8 d.1 λm=>fM b.drew ((m.add 4).add 0) λP=>fM b.drew ((m.add 4).add 1) λQ=>fM b.drew ((m.add 4).add 2) λR=>r ((L==P) && ((M==Q) && ((N==R) && true))) b.drew))) (u ((ο.wrap (d.1+1)),()) b))) (0,()) k) (K true k))) (0,()) t):=χ Tryz.func83 (fQ (.seq (fQ (.blk (.loop [(3,ν)] (fQ (.seq (.blk (fQ (.blk (.loop [(4,ν)] .leaf)))) .leaf))))) .leaf))
theorem Xa {g d e h i j f k w K}:gB (Aj g d e h i j f k w K)
 (Ε w [Β g,Δ d,Δ e,Β h,Β i,Β j,Δ f] 42 λl n=>iH (S:=Int×Int×Unit) (λb c o=>Ld .slice c (l.add 1) λp=>(cond (decide (b.2.1<(p.len:Int))) (let m:Int->Prop:=λq=>(o (q,(ο.wrap (b.2.1+1)),()) c)
 Ld .slice c (l.add 1) λr=>iE r 8 b.2.1 λs=>fM c s λt=>(cond (t==k) (m (ο.wrap (b.1+1))) (m b.1))) (K b.1 c))) (0,0,()) n):=χ Tryz.func84 (fQ (fQ (.seq (fQ (.blk (.loop [(5,ν),(6,ν)] .leaf))) .leaf)))
theorem RF {f g h i j k l m n o p q r s t u v x y z A B C D E F G H I J L M N O P Q R T U V W X Y Z w K}:gB (BG f g h i j k l m n o p q r s t u v x y z A B C D E F G H I J L M N O P Q R T U V W X Y Z w K)
 (Ε w (jd f g h i j k l m n o p q r s t u v x y z A B C D E F G H I J L M N O P Q) 28 λb w3=>Ε w3 [Β R,Β T,Β U,Β V,Β W,Β X,Β Y,.bool Z] 93 λc w5=>iH (S:=Int×Unit) (λd a ac=>Ld .slice a (b.add 17) λad=>(cond (decide (d.1<(ad.len:Int))) (Ld .slice a.drew (b.add 17) λae=>iE ae 1 d.1 λaf=>fM a.drew af λag=>fM a.drew ((c.add 4).add 1) λah=>(cond (ag==ah) (let e:Bool->Prop:=λai=>(K ai a.drew)
 Ld .bool a.drew (c.add 7) λaj=>(cond aj (e true) (fM a.drew ((c.add 4).add 2) λak=>fM a.drew (b.add 18) λal=>(cond (decide (ak>=al)) (fM a.drew ((c.add 4).add 2) λam=>fM a.drew (b.add 19) λan=>e (decide (am<=an))) (e false))))) (ac ((ο.wrap (d.1+1)),()) a.drew))) (K false a))) (0,()) w5):=χ Tryz.func85 (fQ (.seq (fQ (.blk (.loop [(5,ν)] .leaf))) .leaf))
theorem Jr {a w K}:gB (kX a w K)
 (let b:Bool->Prop:=λc=>(K c w)
 (cond (!(Option.isNone a)) (Pt a λd=>Ld .map w (d.add 448) λe=>b (!(Option.isNone e))) (b false))):=χ Tryz.func86
theorem PX {a0 f0 w K}:gB (QX a0 f0 w K)
 (Ld .ptr w f0 λj=>lD j w λk c=>(cond (!k) (K c) (Ld .ptr c f0 λl=>Pt l λm=>Ld .slice c m λf=>iH (S:=Int×Unit) (λd e n=>(cond (decide (d.1<(f.len:Int))) (iE f 9 d.1 λo=>aj2 e o λp q r s t u v x y=>Ε e (aa4 0 0 0 0 0 0 0 false false) 192 λb z=>h_ (aa4 p q r s t u v x y) z b 0 λa=>let g:Bool->b_:=λA h=>((cond A (K h) (n ((ο.wrap (d.1+1)),()) h)))
 Ld .bool a (b.add 8) λB=>(cond B (fM a (b.add 0) λC=>fM a (b.add 1) λD=>fM a (b.add 2) λE=>fM a (b.add 3) λF=>fM a (b.add 4) λG=>fM a (b.add 5) λH=>fM a (b.add 6) λI=>Ld .bool a (b.add 7) λJ=>jy υ [.one .bool] a0 [(Β d.1),(Value.agg ⟨[Β C,Β D,Β E,Β F,Β G,Β H,Β I,.bool J]⟩)] a λL M=>∃i:Bool,L=(Value.bool i)/\
 g (!i) M) (g false a))) (K e))) (0,()) c))):=χ Tryz.func87 (fQ (fQ (.blk (.loop [(13,ν)] .leaf))))
theorem PY {a w K}:gB (lD a w K)
 (let b:Bool->Prop:=λc=>(K c w)
 (cond (!(Option.isNone a)) (Pt a λd=>Ld .ptr w (d.add 1) λe=>b (!(Option.isNone e))) (b false))):=χ Tryz.func88
theorem Gw {h g w K}:gB (G8 h g w K)
 (Ld .ptr w g λm=>jh m w λn e=>(cond (!n) (K e) (Ld .ptr e g λo=>Pt o λp=>Ld .slice e p λi=>iH (S:=Int×Unit) (λf a q=>(cond (decide (f.1<(i.len:Int))) (iE i 6 f.1 λd=>fM a (d.add 0) λr=>fM a (d.add 1) λs=>fM a (d.add 2) λt=>fM a (d.add 3) λu=>fM a (d.add 4) λv=>Ld .bool a (d.add 5) λx=>Ε a am4 195 λc y=>h_ [Β r,Β s,Β t,Β u,Β v,.bool x] y c 0 λb=>let j:Bool->b_:=λz k=>((cond z (K k) (q ((ο.wrap (f.1+1)),()) k)))
 Ld .bool b (c.add 5) λA=>(cond A (fM b (c.add 0) λB=>fM b (c.add 1) λC=>fM b (c.add 2) λD=>fM b (c.add 3) λE=>fM b (c.add 4) λF=>jy υ [.one .bool] h [(Β f.1),(Value.agg ⟨[Β B,Β C,Β D,Β E,Β F]⟩)] b λG H=>∃l:Bool,G=(Value.bool l)/\
 j (!l) H) (j false b))) (K a))) (0,()) e))):=χ Tryz.func89 (fQ (fQ (.blk (.loop [(13,ν)] .leaf))))
theorem Gx {a w K}:gB (jh a w K)
 (let b:Bool->Prop:=λc=>(K c w)
 (cond (!(Option.isNone a)) (Pt a λd=>Ld .ptr w (d.add 1) λe=>b (!(Option.isNone e))) (b false))):=χ Tryz.func90
theorem Ϻ {a b c w K}:gB (iO a b c w K)
 (let d:Bool->Prop:=λe=>(K e w)
 (cond (decide (a>=b)) (d (decide (a<=c))) (d false))):=χ Tryz.func91
theorem WU {b c d e f g h i j k l m n o p q w K}:gB (Ag b c d e f g h i j k l m n o p q w K)
 (Ε w (nI b c d e f g h i j k l m n o p q) 23 λr a=>let s:Bool->Prop:=λt=>(K t a)
 uS a r λu v x y z A B C D E F G H I J L=>(cond (!((u==0) && ((v==0) && ((x==0) && ((y==0) && ((z==0) && ((A==0) && ((B==0) && ((C==0) && ((D==0) && ((E==0) && ((F==0) && ((G==0) && ((H==0) && ((I==0) && ((J==0) && ((L==0) && true))))))))))))))))) ((0:Int)<=0/\0<(16:Int)/\
 Ld (.int .u8) a (r.add (Int.toNat 0 * 1)) λM=>s (M !=255)) (s false))):=χ Tryz.func92
theorem WT {a w K}:gB (Af a w K)
 (let b:Bool->Prop:=λc=>(K c w)
 (cond (decide (a>=16777216)) (cond (decide (a<3758096384)) ((16777216:Int)≠0/\
 b ((ο.wrap (Int.tdiv a 16777216)) !=127)) (b false)) (b false))):=χ Tryz.func93
theorem Rz {i j k l m n o p q r s t u v x y z A B C D E F G H I J L M N O P Q R S T U V W X Y Z B6 w K}:gB (BD i j k l m n o p q r s t u v x y z A B C D E F G H I J L M N O P Q R S T U V W X Y Z B6 w K)
 (Ε w (jd i j k l m n o p q r s t u v x y z A B C D E F G H I J L M N O P Q R S T) 28 λa4 w3=>Ε w3 [Β U,Β V,Β W,Β X,Β Y,Β Z,Β B6] 54 λa d=>let f:Bool->Prop:=λj8=>(let J9:Bool->b_:=λaf b=>(let c:Bool->b_:=λag ah=>(K ag ah)
 (cond j8 (cond af (fM b (a.add 4) λai=>fM b (a.add 1) λaj=>(cond (ai==aj) (fM b a λak=>Ld .slice b (a4.add 16) λal=>iO ak 0 (ο.wrap ((al.len:Int) - 1)) b λam g=>(cond am (fM g (a.add 2) λan=>Af an g λao e=>(cond ao (oN e a4 λap aq ar au av aw ax ay az aA aB aC aD aE aF aG aH aI aJ aK aL aM aN aO aP aQ aR aS aT aU aV aW aX aY aZ a0=>fM e ((a.add 4).add 1) λa1=>FU ap aq ar au av aw ax ay az aA aB aC aD aE aF aG aH aI aJ aK aL aM aN aO aP aQ aR aS aT aU aV aW aX aY aZ a0 a1 e λa2 a3=>c a2 a3) (c false e))) (c false g))) (c false b))) (c false b)) (c false b)))
 fM d (a.add 3) λa5=>iO a5 0 65535 d λa7 h=>(cond a7 (fM h ((a.add 4).add 2) λa8=>iO a8 0 65535 h λa9 ba=>J9 a9 ba) (J9 false h)))
 fM d (a.add 1) λbb=>(cond (bb==1) (f true) (fM d (a.add 1) λbc=>(cond (bc==6) (f true) (fM d (a.add 1) λbd=>f (bd==17)))))):=χ Tryz.func94
theorem aae {l m n o p q r s t u v w K}:gB (F6 l m n o p q r s t u v w K)
 (Ε w (gQ l m n o p q r s t u v) 48 λa c=>fM c.drew a λH=>fM c.drew (a.add 3) λx=>fM c.drew (a.add 4) λg=>fM c.drew (a.add 1) λd=>kW H 1 c.drew λI e=>Ci e a 1 d<|Ci e a 4 g<|Ci e a 3 x<|kW x 1 e λJ h=>Ci h a 1 d<|Ci h a 4 g<|kW g 1 h λL y=>Ci y a 1 d<|kW d 2 y λM N=>Ε N [.bool I,.bool J,.bool L,.bool M] 4 λO P=>zn ⟨(some O),4,4⟩ P λQ i=>fM i.drew (a.add 5) λR=>fM i.drew (a.add 6) λz=>lS R i.drew λS A=>Ci A a 6 z<|lS z A λT U=>Ε U [.bool S,.bool T] 4 λV W=>zn ⟨(some V),2,2⟩ W λX b=>let B:Bool->b_:=λY j=>(Ld .slice j (a.add 9) λZ=>Ld .slice j (a.add 9) λaa=>(4:Int)≠0/\
 Ε j [.bool (decide ((Z.len:Int)<=40)),.bool ((Int.tmod (aa.len:Int) 4)==0)] 4 λab ac=>zn ⟨(some ab),2,2⟩ ac λad ae=>Ε ae [.bool Q,.bool X,.bool Y,.bool ad] 4 λaf ag=>zn ⟨(some af),4,4⟩ ag λah k=>(cond (!ah) (K 1 k) (let C:Bool->b_:=λai D=>((cond ai (K 6 D) (K 0 D)))
 iq k a λaj ak al am an ao ap aq ar au av=>Ph aj ak al am an ao ap aq ar au av k λaw f=>(cond (decide (aw>65535)) (C true f) (fM f (a.add 2) λax=>Ld .slice f (a.add 10) λay=>C (decide (ax>(ο.wrap (65535 - (ay.len:Int))))) f)))))
 fM b (a.add 2) λE=>fM b (a.add 2) λF=>fM b (a.add 2) λG=>(8:Int)≠0/\
 Ld .bool b (a.add 8) λaz=>(cond (!az) (Ε b [.bool (decide (E>=0)),.bool (decide (F<=65528)),.bool ((Int.tmod G 8)==0),.bool true] 4 λaA aB=>zn ⟨(some aA),4,4⟩ aB λaC aD=>B aC aD) (Ld .slice b (a.add 10) λaE=>(8:Int)≠0/\
 Ε b [.bool (decide (E>=0)),.bool (decide (F<=65528)),.bool ((Int.tmod G 8)==0),.bool ((Int.tmod (aE.len:Int) 8)==0)] 4 λaF aG=>zn ⟨(some aF),4,4⟩ aG λaH aI=>B aH aI))):=χ Tryz.func95
theorem aaf {b c d e f g h i j k l w K}:gB (F7 b c d e f g h i j k l w K)
 (Ε w (gQ b c d e f g h i j k l) 48 λm a=>let n:Bool->Prop:=λo=>(K o a)
 Ld .bool a (m.add 8) λp=>(cond (!p) (fM a (m.add 2) λq=>n (decide (q<=0))) (n false))):=χ Tryz.func96
theorem Ws {c w K}:gB (Aa c w K)
 (Ε w amU 105 λb h=>(cond (decide ((c.len:Int)<8)) (h_ amU h b 0 λd=>fM d (b.add 0) λq=>fM d (b.add 1) λr=>fM d (b.add 2) λs=>Ld .slice d (b.add 3) λt=>K q r s t 3 d) (cond (decide ((c.len:Int)>65535)) (h_ amU h b 0 λe=>fM e (b.add 0) λu=>fM e (b.add 1) λv=>fM e (b.add 2) λx=>Ld .slice e (b.add 3) λy=>K u v x y 6 e) (Ε h [Δ c] 46 λz A=>zl ⟨(some z),1,1⟩ A λB l=>(cond (!B) (h_ amU l b 0 λf=>fM f (b.add 0) λC=>fM f (b.add 1) λD=>fM f (b.add 2) λE=>Ld .slice f (b.add 3) λF=>K C D E F 5 f) (yZ c 4 4 l λG N i=>iE c 1 0 λm=>Ld (.int .u8) i.drew m λn=>iE c 1 1 λo=>Ld (.int .u8) i.drew o λp=>kM c 1 8 (c.len:Int) λH=>g_ H i.drew λj k=>k.cell? o=some (.int .u8 p)/\
 k.cell? m=some (.int .u8 n)/\
 h_ [Β (ο.wrap n),Β (ο.wrap p),Β G,Δ j] k b 0 λg=>fM g (b.add 0) λI=>fM g (b.add 1) λJ=>fM g (b.add 2) λL=>Ld .slice g (b.add 3) λM=>K I J L M 0 g)))))):=χ Tryz.func97
theorem Wq {a w K}:gB (Fp a w K)
 (Ε w [Β 3,Β 4,Β 5,Β 11,Β 12] 3 λb c=>Fq a ⟨(some b),5,5⟩ c λd e=>K d e):=χ Tryz.func98
theorem UU {k w K}:gB (uV k w K)
 (Ε w ξ 48 λc q=>Ε q amT 110 λa r=>wK k r λs t u v x y z A B C D E F l G=>Ε G (nV ⟨none,0,0⟩ 0 0 0 0 0 0 0 false false ⟨none,0,0⟩ ⟨none,0,0⟩ 0) 294 λi H=>h_ (nV s t u v x y z A B C D E F) H i 0 λj=>(cond (l !=0) (h_ ξ j c 0 λI=>h_ amT I a 0 λe=>iq e c λJ L M N O P Q R S T U=>fM e (a.add 0) λV=>fM e (a.add 1) λW=>fM e (a.add 2) λX=>K J L M N O P Q R S T U V W X l e) (uf j i λY Z aa ab ac ad ae af ag ah ai aj ak=>sH Y Z aa ab ac ad ae af ag ah ai aj ak j λal am an m ao=>Ε ao amT 110 λb ap=>h_ [Β al,Β am,Β an] ap b 0 λd=>(cond (m !=0) (h_ ξ d c 0 λaq=>h_ amT aq a 0 λf=>iq f c λar au av aw ax ay az aA aB aC aD=>fM f (a.add 0) λaE=>fM f (a.add 1) λaF=>fM f (a.add 2) λaG=>K ar au av aw ax ay az aA aB aC aD aE aF aG m f) (iq d.drew (i.add 1) λaH aI aJ aK aL aM aN aO aP aQ aR=>fM d.drew (b.add 0) λn=>fM d.drew (b.add 1) λo=>fM d.drew (b.add 2) λp=>h_ (gQ aH aI aJ aK aL aM aN aO aP aQ aR) d.drew c 0 λh=>h.cell? (b.add 0)=some (Β n)/\
 h.cell? (b.add 1)=some (Β o)/\
 h.cell? (b.add 2)=some (Β p)/\
 h_ [Β n,Β o,Β p] h a 0 λg=>iq g c λaS aT aU aV aW aX aY aZ a1 a2 a4=>fM g (a.add 0) λa6=>fM g (a.add 1) λa7=>fM g (a.add 2) λa8=>K aS aT aU aV aW aX aY aZ a1 a2 a4 a6 a7 a8 0 g))))):=χ Tryz.func99
theorem Zd {j k l m n o p q r s t u v x e y z A w K}:gB (Dc j k l m n o p q r s t u v x e y z A w K)
 (Ε w (gQ j k l m n o p q r s t) 48 λf F=>Ε F [Β u,Β v,Β x,Δ e] 105 λb G=>Ε G ξ 48 λB c=>fM c (b.add 0) λH=>fM c (b.add 1) λI=>fM c (b.add 2) λJ=>Ld .slice c (b.add 3) λL=>zM H I J L y z A c λM N O g av P=>h_ [Β M,Β N,Β O,Δ g] P b 0 λC=>Ld .slice C (f.add 9) λQ=>g_ Q C λh R=>St R (f.add 9) (Δ h) λd=>fM d (b.add 0) λS=>fM d (b.add 1) λT=>fM d (b.add 2) λU=>Ld .slice d (b.add 3) λV=>z_ S T U V d λi aw W=>St W (f.add 10) (Δ i) λD=>iq D f λX Y Z aa ab ac ad ae af ag ah=>h_ (gQ X Y Z aa ab ac ad ae af ag ah) D B 0 λE=>iq E B λai aj ak al am an ao ap aq ar au=>K ai aj ak al am an ao ap aq ar au E):=χ Tryz.func100
theorem Rw {o p q r s t u v x y z w K}:gB (sG o p q r s t u v x y z w K)
 (Ε w (gQ o p q r s t u v x y z) 48 λc A=>iq A c λI J L M N O P Q R S T=>F6 I J L M N O P Q R S T A λB h=>(cond (B !=0) (K Value.nilIface B h) (iq h c λU V W X Y Z aa ab ac ad ae=>F7 U V W X Y Z aa ab ac ad ae h λaf b=>(cond (!af) (K Value.nilIface 4 b) (fM b (c.add 4) λi=>(cond (i==17) (fM b (c.add 5) λag=>fM b (c.add 6) λah=>Ld .slice b (c.add 10) λai=>Io ag ah ai b λaj ak al j am an=>Ε an amY 133 λe ao=>h_ [Β aj,Β ak,.bool al,Δ j] ao e 0 λf=>fM f (e.add 0) λap=>fM f (e.add 1) λaq=>Ld .bool f (e.add 2) λar=>Ld .slice f (e.add 3) λk=>K (Value.iface 303 (Value.agg ⟨[Β ap,Β aq,.bool ar,Δ k]⟩)) am f) (cond (i==6) (fM b (c.add 5) λau=>fM b (c.add 6) λav=>Ld .slice b (c.add 10) λaw=>Ij au av aw b λax ay az aA aB aC aD aE aF aG aH aI=>Ε aI (lM 0 0 0 0 0 0 0 0 ⟨none,0,0⟩ ⟨none,0,0⟩) 305 λC aJ=>h_ (lM ax ay az aA aB aC aD aE aF aG) aJ C 0 λD=>AV D C λaK aL aM aN aO aP aQ aR aS aT=>K (Value.iface 309 (Value.agg ⟨lM aK aL aM aN aO aP aQ aR aS aT⟩)) aH D) (cond (i==1) (Ld .slice b (c.add 10) λaU=>Aa aU b λaV aW aX l E aY=>Ε aY amU 105 λd aZ=>h_ [Β aV,Β aW,Β aX,Δ l] aZ d 0 λm=>let F:Int->b_:=λa0 g=>(fM g (d.add 0) λa1=>fM g (d.add 1) λa2=>fM g (d.add 2) λa4=>Ld .slice g (d.add 3) λn=>K (Value.iface 311 (Value.agg ⟨[Β a1,Β a2,Β a4,Δ n]⟩)) a0 g)
 let G:Bool->b_:=λa5 H=>((cond a5 (F 8 H) (F E H)))
 (cond (E==0) (fM m d λa6=>Ac a6 m λa7 a8=>G (!a7) a8) (G false m))) (K Value.nilIface 8 b))))))))):=χ Tryz.func101
theorem Zc {b c d e f g h i j k l m n o p q r s t w K}:gB (C_ b c d e f g h i j k l m n o p q r s t w K)
 (Ε w [Β b,.bool c,Β d,.bool e,Β f,Β g,Β h] 115 λu z=>Ε z (gQ i j k l m n o p q r s) 48 λv a=>fM a (v.add 4) λA=>(cond (A !=6) (K 0 true a) (fM a.drew (u.add 4) λx=>iq a.drew v λB C D E F G H I J L M=>DW B C D E F G H I J L M a.drew λN y=>y.cell? (u.add 4)=some (Β x)/\
 FW x t N y λO P Q=>K O P Q))):=χ Tryz.func102
theorem Rt {d e f g h i j k l m n w K}:gB (Bo d e f g h i j k l m n w K)
 (Ε w (gQ d e f g h i j k l m n) 48 λb a=>let c:Bool->Prop:=λo=>(K o a)
 fM a (b.add 4) λp=>(cond (p==1) (Ld .slice a (b.add 10) λq=>(cond (decide ((q.len:Int)>0)) (Ld .slice a (b.add 10) λr=>iE r 1 0 λs=>Ld (.int .u8) a s λt=>c (t==0)) (c false))) (c false))):=χ Tryz.func103
theorem Gm {a w K}:gB (nU a w K)
 (Pt a λe=>Ld .ptr w.drew (e.add 3) λf=>Pt a λb=>fM w.drew ((b.add 5).add 22) λc=>uH f w.drew λg d=>d.cell? ((b.add 5).add 22)=some (Β c)/\
 K (decide (g>=c)) d):=χ Tryz.func104
theorem KR {c p q r s w K}:gB (vK c p q r s w K)
 (Ε w [Β p,Β q,Β r,Β s] 50 λa g=>Pt c λz=>Ld .ptr g.drew (z.add 1) λA=>fM g.drew a λB=>Pt c λt=>fM g.drew ((t.add 5).add 20) λu=>oP A B g.drew λC m=>Ci m (t.add 5) 20 u<|(cond (decide (C>=u)) (K 0 (Value.iface 121 (Β 5)) m) (qm c m λD d=>(cond D (K 0 (Value.iface 121 (Β 6)) d) (let v:Addr->Int->b_:=λn E h=>((cond (E !=0) (K 0 (Value.iface 121 (Β 7)) h) (Pt c λF=>Ld .ptr h.drew (F.add 1) λG=>fM h.drew a λH=>qx G H h.drew λag b=>Pt c λI=>Ld .ptr b.drew (I.add 2) λJ=>fM b.drew (a.add 0) λL=>fM b.drew (a.add 1) λM=>fM b.drew (a.add 2) λN=>fM b.drew (a.add 3) λO=>fM b.drew (n.add 0) λP=>fM b.drew (n.add 1) λQ=>fM b.drew (n.add 2) λR=>yA J L M N O P Q R false b.drew λS ah T=>K S Value.nilIface T)))
 Pt c λo=>Ld .ptr d.drew o λi=>fM d.drew (a.add 1) λj=>fM d.drew (a.add 3) λk=>fM d.drew a λl=>(sV i j k l d.drew λU V W X Y=>Ε Y amT 52 λx e=>Cw e a (Β l)<|Ci e a 3 k<|Ci e a 1 j<|Cw e o (.pointer i)<|h_ [Β U,Β V,Β W] e x 0 λZ=>v x X Z)/\
 (Ε d.drew amT 52 λy f=>Cw f a (Β l)<|Ci f a 3 k<|Ci f a 1 j<|Cw f o (.pointer i)<|sV i j k l f λaa ab ac ad ae=>h_ [Β aa,Β ab,Β ac] ae y 0 λaf=>v y ad af)))))):=χ Tryz.func105
theorem UG {d e f g h i j k l m n o p q r s t u v x y z A B C D E F G H I J L M N O b P w K}:gB (DN d e f g h i j k l m n o p q r s t u v x y z A B C D E F G H I J L M N O b P w K)
 (Ε w (jd d e f g h i j k l m n o p q r s t u v x y z A B C D E F G H I J L M N O) 28 λc a=>(cond (b==17) (fM a (c.add 30) λQ=>K Q a) (cond (b==1) (fM a (c.add 33) λR=>K R a) (cond (b==6) (cond (P==3) (fM a (c.add 31) λS=>K S a) (fM a (c.add 32) λT=>K T a)) (K 0 a))))):=χ Tryz.func110
theorem Jl {a b d e w K}:gB (uI a b d e w K)
 (mP a b w λg c=>(cond (!g) (K false c) (Pt a λh=>Ld .slice c h λi=>iE i 6 b λf=>Pt (some f) λj=>St c (j.add 1) (Β d) λk=>Pt (some f) λl=>St k (l.add 2) (Β e) λm=>K true m))):=χ Tryz.func111
theorem Jh {c q r s t u w K}:gB (uF c q r s t u w K)
 (Ε w [Β q,Β r,Β s,Β t,Β u] 100 λb B=>jh c B λC f=>(cond (!C) (K 0 2 f) (fM f b λD=>fM f ((b.add 3).add 0) λE=>fM f ((b.add 3).add 1) λF=>oD c D E F f λaf G i=>(cond G (K 0 9 i) (Pt c λH=>Ld .slice i H λI=>jl I (Value.func (.func 202) #[] #[]) i λe d=>(cond (decide (e<0)) (K 0 7 d) (Pt c λJ=>Ld .slice d.drew J λL=>fM d.drew (b.add 0) λM=>fM d.drew (b.add 1) λN=>fM d.drew (b.add 2) λO=>fM d.drew (b.add 3) λP=>fM d.drew (b.add 4) λQ=>iE L 6 e λR=>h_ [Β M,Β N,Β O,Β P,Β Q,.bool true] d.drew R 0 λg=>Pt c λv=>Ld .ptr g.drew (v.add 1) λx=>fM g.drew b λS=>fM g.drew ((b.add 3).add 0) λT=>fM g.drew ((b.add 3).add 1) λU=>uY S T U g.drew λV y=>Cs y v 1 (.pointer x)<|o9 x V e y λag h=>Pt c λW=>Ld .map h.drew (W.add 2) λX=>fM h.drew b λY=>pY υ 3 .slice X (Β Y) (Value.slice none 0 0) h.drew λz=>lZ z e h.drew λZ ah j=>Pt c λk=>Ld .map j.drew (k.add 2) λl=>fM j.drew b λm=>Ε j.drew [Β e] 3 λaa n=>Cw n b (Β m)<|Cs n k 2 (.map l)<|pG z Z ⟨(some aa),1,1⟩ n λo p=>Cw p b (Β m)<|Cs p k 2 (.map l)<|oK υ 3 l (Β m) (Δ o) p λA=>Pt c λab=>fM A (ab.add 3) λac=>Pt c λad=>St A (ad.add 3) (Β (ο.wrap (ac+1))) λae=>K e 0 ae))))))):=χ Tryz.func112
theorem Np {a b d w K}:gB (rO a b d w K)
 (kX a w λB g=>(cond (!B) (K 2 g) (let i:Bool->Prop:=λC=>((cond C (K 1 g) (Pt a λD=>Ld .map g (D.add 448) λE=>E8 υ 3 E (Β b) (Value.agg ⟨amT⟩) g λF o=>∃p:Int,∃q:Int,∃r:Int,F=(Value.agg ⟨[Β p,Β q,Β r]⟩)/\
 Ε g amT 335 λj G=>h_ [Β p,Β q,Β r] G j 0 λe=>let s:Bool->b_:=λH f=>((cond H (K 7 f) (let t:b_:=λu=>(Pt a λI=>fM u (I.add 450) λJ=>Pt a λL=>St u (L.add 450) (Β (ο.wrap (J+1))) λl=>Pt a λv=>fM l.drew (v.add 449) λm=>Pt a λx=>fM l.drew (x.add 450) λy=>Ε l.drew amT 335 λc n=>Ci n x 450 y<|Ci n v 449 m<|h_ [Β b,Β (if m>d then m else d),Β y] n c 0 λh=>Pt a λM=>Ld .map h.drew (M.add 448) λN=>fM h.drew (c.add 0) λO=>fM h.drew (c.add 1) λP=>fM h.drew (c.add 2) λQ=>oK υ 3 N (Β b) (Value.agg ⟨[Β O,Β P,Β Q]⟩) h.drew λk=>fM k (c.add 0) λR=>fM k (c.add 1) λS=>fM k (c.add 2) λT=>rP a R S T k λU=>K 0 U)
 (cond o (fM f (j.add 0) λV=>fM f (j.add 1) λW=>fM f (j.add 2) λX=>qB a V W X f λY=>t Y) (t f)))))
 (cond (!o) (Pt a λZ=>Ld .map e.drew (Z.add 448) λaa=>Pt a λz=>fM e.drew (z.add 451) λA=>S_ e.drew aa λab=>Ci e.drew z 451 A<|s (decide (ab>=A)) e.drew) (s false e.drew)))))
 (cond (decide (b<0)) (i (decide (b<0))) (cond (decide (b>2147483648)) (i (decide (b>2147483648))) (cond (decide (d<0)) (i (decide (d<0))) (i (decide (d>1099511627776))))))))):=χ Tryz.func113
theorem UF {b c w K}:gB (yE b c w K)
 (let d:Bool->b_:=λe f=>(K e f)
 lD b w λg a=>(cond g (cond (decide (c>=0)) (Pt b λh=>Ld .slice a h λi=>(cond (decide (c<(i.len:Int))) (Pt b λj=>Ld .slice a j λk=>iE k 9 c λl=>Ld .bool a (l.add 8) λm=>d m a) (d false a))) (d false a)) (d false a))):=χ Tryz.func114
theorem UR {n o p q r s t u v x y z A B C w K}:gB (yF n o p q r s t u v x y z A B C w K)
 (Ε w (gQ n o p q r s t u v x y) 48 λb S=>Ε S [Β z,Β A] 229 λd T=>Ε T [Β B,Β C] 229 λg U=>Ε U ξ 48 λc D=>iq D b λV W X Y Z aa ab ac ad ae af=>sG V W X Y Z aa ab ac ad ae af D λag E e=>(cond (E !=0) (h_ ξ e c 0 λF=>iq F c λah ai aj ak al am an ao ap aq ar=>K ah ai aj ak al am an ao ap aq ar E F) ((0:Int)<=0/\0<(2:Int)/\
 fM e (g.add (Int.toNat 0 * 1)) λG=>(0:Int)<=1/\1<(2:Int)/\
 fM e (g.add (Int.toNat 1 * 1)) λH=>let i:Bool->b_:=λau h=>((cond au (h_ ξ h c 0 λI=>iq I c λav aw ax ay az aA aB aC aD aE aF=>K av aw ax ay az aA aB aC aD aE aF 1 I) ((0:Int)<=0/\0<(2:Int)/\
 fM h.drew (d.add (Int.toNat 0 * 1)) λaG=>(0:Int)<=1/\1<(2:Int)/\
 fM h.drew (d.add (Int.toNat 1 * 1)) λJ=>St h.drew (b.add 5) (Β aG) λL=>L.cell? (d.add (Int.toNat 1 * 1))=some (Β J)/\
 St L (b.add 6) (Β J) λM=>Ld .slice M (b.add 9) λaH=>g_ aH M λj aI=>St aI (b.add 9) (Δ j) λf=>(0:Int)<=0/\0<(2:Int)/\
 fM f.drew (g.add (Int.toNat 0 * 1)) λaJ=>(0:Int)<=1/\1<(2:Int)/\
 fM f.drew (g.add (Int.toNat 1 * 1)) λaK=>fM f.drew (b.add 5) λN=>fM f.drew (b.add 6) λO=>LY υ ag "goosepond/ports.with" [(Β aJ),(Β aK)] [.one .any] f.drew λaL k=>k.cell? (b.add 6)=some (Β O)/\
 k.cell? (b.add 5)=some (Β N)/\
 LY υ aL "goosepond/ports.build" [(Β N),(Β O)] [.one .slice,.one ν] k λl aM aN=>St aN (b.add 10) (Δ l) λP=>iq P b λaO aP aQ aR aS aT aU aV aW aX aY=>h_ (gQ aO aP aQ aR aS aT aU aV aW aX aY) P c 0 λQ=>iq Q c λaZ a0 a1 a2 a3 a4 a6 a8 ba bb bc=>K aZ a0 a1 a2 a3 a4 a6 a8 ba bb bc aM Q)))
 (0:Int)<=0/\0<(2:Int)/\
 fM e (d.add (Int.toNat 0 * 1)) λbd=>lS bd e λbe m=>(cond (!be) (i true m) ((0:Int)<=1/\1<(2:Int)/\
 fM m (d.add (Int.toNat 1 * 1)) λbf=>lS bf m λbg R=>(cond (!bg) (i true R) (kW (if H>G then H else G) 2 R λbh bi=>i (!bh) bi))))))):=χ Tryz.func115
theorem WY {c f w K}:gB (FQ c f w K)
 (Ε w ξ 48 λb h=>(cond (decide ((c.len:Int)<20)) (h_ ξ h b 0 λo=>iq o b λC D E F G H I J L M N=>K C D E F G H I J L M N 3 o) (iE c 1 0 λp=>Ld (.int .u8) h.drew p λd=>(16:Int)≠0/\
 jG c 2 2 h.drew λg e=>e.cell? p=some (.int .u8 d)/\
 let q:Bool->Prop:=λO=>((cond O (h_ ξ e b 0 λr=>iq r b λP Q R S T U V W X Y Z=>K P Q R S T U V W X Y Z 4 r) (let i:Bool->Prop:=λaa=>((cond aa (h_ ξ e b 0 λs=>iq s b λab ac ad ae af ag ah ai aj ak al=>K ab ac ad ae af ag ah ai aj ak al 3 s) (let t:Bool->b_:=λam j=>((cond am (h_ ξ j b 0 λu=>iq u b λan ao ap aq ar au av aw ax ay az=>K an ao ap aq ar au av aw ax ay az 4 u) (let v:Bool->b_:=λaA x=>((cond aA (h_ ξ x b 0 λy=>iq y b λaB aC aD aE aF aG aH aI aJ aK aL=>K aB aC aD aE aF aG aH aI aJ aK aL 5 y) (kM c 1 (ο.wrap ((ο.wrap (Int.tmod d 16)) * 4)) (if (c.len:Int)<g then (c.len:Int) else g) λaM=>Bz c aM x λaN aO aP aQ aR aS aT aU aV aW aX aY=>Ε aY ξ 48 λk aZ=>h_ (gQ aN aO aP aQ aR aS aT aU aV aW aX) aZ k 0 λl=>let z:Bool->b_:=λa2 m=>((cond a2 (h_ ξ m b 0 λA=>iq A b λa3 a5 a6 a7 a8 a9 ba bb bc bd be=>K a3 a5 a6 a7 a8 a9 ba bb bc bd be 4 A) (iq m k λbf bg bh bi bj bk bl bm bn bo bp=>h_ (gQ bf bg bh bi bj bk bl bm bn bo bp) m b 0 λB=>iq B b λbq br bs bt bu bv bw bx bz bA bB=>K bq br bs bt bu bv bw bx bz bA bB 0 B)))
 (cond (!f) (iq l k λbC bD bE bF bG bH bI bJ bK bL bM=>yH bC bD bE bF bG bH bI bJ bK bL bM l λbN bO=>z (bN !=0) bO) (z false l)))))
 (cond (!f) (kM c 1 0 (ο.wrap ((ο.wrap (Int.tmod d 16)) * 4)) λn=>Ε j [Δ n] 46 λbP bQ=>DX ⟨(some bP),1,1⟩ bQ λbR bS=>v (!bR) bS) (v false j)))))
 (cond (decide (g<(ο.wrap ((ο.wrap (Int.tmod d 16)) * 4)))) (t true e) (jG c 6 2 e λbT bU=>t (decide (bT>=32768)) bU)))))
 (cond (decide ((ο.wrap ((ο.wrap (Int.tmod d 16)) * 4))>(c.len:Int))) (i true) (cond (!f) (i (decide (g>(c.len:Int)))) (i false))))))
 iE c 1 0 λbV=>Ld (.int .u8) e bV λbW=>(16:Int)≠0/\
 (cond ((IntKind.u8.wrap (Int.tdiv bW 16)) !=4) (q true) (q (decide ((ο.wrap ((ο.wrap (Int.tmod d 16)) * 4))<20))))))):=χ Tryz.func116
theorem U0 {l m n o p q r s t u v w K}:gB (yH l m n o p q r s t u v w K)
 (Ε w (gQ l m n o p q r s t u v) 48 λa x=>let f:Bool->b_:=λC y=>(let d:Bool->b_:=λD b=>(let z:Bool->Prop:=λE=>(let e:Bool->Prop:=λF=>((cond F (K 1 b) (let A:Bool->b_:=λG B=>((cond G (K 6 B) (K 0 B)))
 iq b a λH I J L M N O P Q R S=>wM H I J L M N O P Q R S b λT g=>(cond (decide (T>65535)) (A true g) (fM g (a.add 2) λU=>Ld .slice g (a.add 10) λV=>A (decide (U>(ο.wrap (65535 - (V.len:Int))))) g)))))
 (cond (!C) (e true) (cond (!D) (e true) (cond (!E) (e true) (Ld .bool b (a.add 8) λW=>(cond W (Ld .slice b (a.add 10) λX=>(8:Int)≠0/\
 e ((Int.tmod (X.len:Int) 8) !=0)) (e false)))))))
 Ld .slice b (a.add 9) λY=>(cond (decide ((Y.len:Int)<=40)) (Ld .slice b (a.add 9) λZ=>(4:Int)≠0/\
 z ((Int.tmod (Z.len:Int) 4)==0)) (z false)))
 fM y (a.add 5) λaa=>yG aa y λab h=>(cond ab (fM h (a.add 6) λac=>yG ac h λad c=>(cond ad (fM c (a.add 2) λae=>(cond (decide (ae>=0)) (fM c (a.add 2) λaf=>(cond (decide (af<=65528)) (fM c (a.add 2) λag=>(8:Int)≠0/\
 d ((Int.tmod ag 8)==0) c) (d false c))) (d false c))) (d false c))) (d false h)))
 fM x a λah=>mY ah 1 x λai i=>(cond ai (fM i (a.add 3) λaj=>mY aj 1 i λak j=>(cond ak (fM j (a.add 4) λal=>mY al 1 j λam k=>(cond am (fM k (a.add 1) λan=>mY an 2 k λao ap=>f ao ap) (f false k))) (f false j))) (f false i))):=χ Tryz.func121
theorem WW {e f g h i j k l m n o w K}:gB (wM e f g h i j k l m n o w K)
 (Ε w (gQ e f g h i j k l m n o) 48 λc d=>iq d.drew c λq r s t u v x y z A B=>Ld .slice d.drew (c.add 10) λb=>Ah q r s t u v x y z A B d.drew λC p=>p.cell? (c.add 10)=some (Δ b)/\
 K (ο.wrap (C+(b.len:Int))) p):=χ Tryz.func123
theorem Oy {a c w K}:gB (oZ a c w K)
 (nK a w λe d=>(cond (!e) (K 0 false d) (jo a c d λf g b=>(cond (!g) (K 0 false b) (Pt a λh=>Ld .slice b h λi=>iE i 3 f λj=>fM b (j.add 1) λk=>K k true b))))):=χ Tryz.func124
end Go.Proofs
