import Derived.Test.YtlpncoeijhpddaaGreatDoorW3
import Derived.Test.YtlpncoeijhpddaaGreatDoorProg
import Derived.KernelRfl
set_option maxRecDepth 100000
set_option maxHeartbeats 4000000
namespace Go.Proofs
open Gp
abbrev f_:=Ld ν
abbrev gy (T:Type):=Int->Int->Int->Int->Int->Int->Int->Int->T
abbrev gB (x:Ann):Ann:= .seq .leaf x
theorem iI:XR Tryz.prog:=XR.aj_ (by kernel_rfl) (by kernel_rfl)
noncomputable abbrev υ:=Tryz.prog
abbrev Β(x:Int):Value:= .int .i64 x
abbrev Δ(s:gG):Value:= .slice s.a s.len s.cap
abbrev Ε(w:θ)(l:List Value)(T:TypeId)(K:Addr->θ->Prop):Prop:=Al w (.cells ⟨l⟩ T) K
abbrev Ζ(w d:θ):θ:=w.putObj d.heap.size (.deferred none)
abbrev Η(w d:θ):Prop:=w.heap[d.heap.size]? =some (.deferred (some []))
abbrev ο:=IntKind.i64
theorem Α{n:Int}(h: -9223372036854775808<=n:=by omega)(k:n<=9223372036854775807:=by omega):IntKind.i64.wrap n=n:=wrap_i64 h k
abbrev anl:List Value:=[Β 0,Β 0]
abbrev anm:List Value:=[Β 0,Β 0,Β 0]
abbrev ano:List Value:=[Β 0,Β 0,Β 0,.slice none 0 0]
abbrev anp:List Value:=[Β 0,Β 0,Β 0,Β 0,Β 0,Β 0,Β 0,.bool false]
abbrev anq:List Value:=[Β 0,.bool false,Β 0,.bool false,Β 0,Β 0,Β 0]
abbrev anr:List Value:=[Β 0,Β 0,Β 0,Β 0,Β 0]
abbrev ant:List Value:=[Β 0,Β 0,.bool false,.slice none 0 0]
abbrev anu:List Value:=[.slice none 0 0,Β 0,Β 0]
abbrev anv:List Value:=[Β 0,Β 0,Β 0,Β 0,Β 0,Β 0,Β 0]
abbrev anw:List Value:=[Β 0,Β 0,Β 0,Β 0]
abbrev anx:List Value:=[Β 0,.slice none 0 0,.slice none 0 0,Β 0,Β 0,Β 0,.slice none 0 0]
abbrev anz:List Value:=[Β 0,.slice none 0 0,.slice none 0 0]
abbrev anA:List Value:=[Β 0,Β 0,Β 0,Β 0,Β 0,.bool false]
theorem χ{f:FuncId}{k:Func}(h:υ.funcs[f]? =some k){a:List Value}{s:List Shape}{w:World}{K:Tv (flat s)}{S:Prop}(n:Ann:= .leaf)(e:akP υ k s n a w K=S:=by kernel_rfl):gV (gI υ f a s w K) S:=okF iI h n e
abbrev afj:List Kind:=(.int .u8)::(.int .u8)::(.int .u8)::(.int .u8)::(.int .u8)::(.int .u8)::(.int .u8)::(.int .u8)::(.int .u8)::(.int .u8)::(.int .u8)::(.int .u8)::(.int .u8)::(.int .u8)::(.int .u8)::(.int .u8):: .slice:: .slice::ν::ν::ν::ν::ν::ν::ν::ν::ν::ν::ν::ν::ν::ν::ν::ν::ν:: .slice::[]
@[reducible] def jO (e f g h i j k l m n o p q r s t:Int) (b c:gG) (u v w x y z A B C D E F G H I J K:Int) (d:gG):List Value:= .int .u8 e:: .int .u8 f:: .int .u8 g:: .int .u8 h:: .int .u8 i:: .int .u8 j:: .int .u8 k:: .int .u8 l:: .int .u8 m:: .int .u8 n:: .int .u8 o:: .int .u8 p:: .int .u8 q:: .int .u8 r:: .int .u8 s:: .int .u8 t:: Δ b:: Δ c:: Β u:: Β v:: Β w:: Β x:: Β y:: Β z:: Β A:: Β B:: Β C:: Β D:: Β E:: Β F:: Β G:: Β H:: Β I:: Β J:: Β K:: Δ d::[]
@[reducible] def tC (w:θ) (a:Addr) (K:gy (gy (gG->gG->Int->Int->Int->Int->Int->Int->Int->Int->Int->Int->Int->Int->Int->Int->Int->Int->Int->gG->Prop))):Prop:=Ld (.int .u8) w (a.add 0) λb=>Ld (.int .u8) w (a.add 1) λc=>Ld (.int .u8) w (a.add 2) λd=>Ld (.int .u8) w (a.add 3) λe=>Ld (.int .u8) w (a.add 4) λf=>Ld (.int .u8) w (a.add 5) λg=>Ld (.int .u8) w (a.add 6) λh=>Ld (.int .u8) w (a.add 7) λi=>Ld (.int .u8) w (a.add 8) λj=>Ld (.int .u8) w (a.add 9) λk=>Ld (.int .u8) w (a.add 10) λl=>Ld (.int .u8) w (a.add 11) λm=>Ld (.int .u8) w (a.add 12) λn=>Ld (.int .u8) w (a.add 13) λo=>Ld (.int .u8) w (a.add 14) λp=>Ld (.int .u8) w (a.add 15) λq=>Ld .slice w (a.add 16) λr=>Ld .slice w (a.add 17) λs=>Ld ν w (a.add 18) λt=>Ld ν w (a.add 19) λu=>Ld ν w (a.add 20) λv=>Ld ν w (a.add 21) λx=>Ld ν w (a.add 22) λy=>Ld ν w (a.add 23) λz=>Ld ν w (a.add 24) λA=>Ld ν w (a.add 25) λB=>Ld ν w (a.add 26) λC=>Ld ν w (a.add 27) λD=>Ld ν w (a.add 28) λE=>Ld ν w (a.add 29) λF=>Ld ν w (a.add 30) λG=>Ld ν w (a.add 31) λH=>Ld ν w (a.add 32) λI=>Ld ν w (a.add 33) λJ=>Ld ν w (a.add 34) λL=>Ld .slice w (a.add 35) λM=>K b c d e f g h i j k l m n o p q r s t u v x y z A B C D E F G H I J L M
abbrev wI:List Kind:=ν::ν::ν::ν::ν::ν::ν:: .bool:: .bool:: .slice:: .slice::[]
@[reducible] def gX (d e f g h i j:Int) (k l:Bool) (b c:gG):List Value:= Β d:: Β e:: Β f:: Β g:: Β h:: Β i:: Β j:: .bool k:: .bool l:: Δ b:: Δ c::[]
abbrev ξ:List Value:=gX 0 0 0 0 0 0 0 false false ⟨none,0,0⟩ ⟨none,0,0⟩
@[reducible] def iG (w:θ) (a:Addr) (K:Int->Int->Int->Int->Int->Int->Int->Bool->Bool->gG->gG->Prop):Prop:=Ld ν w (a.add 0) λb=>Ld ν w (a.add 1) λc=>Ld ν w (a.add 2) λd=>Ld ν w (a.add 3) λe=>Ld ν w (a.add 4) λf=>Ld ν w (a.add 5) λg=>Ld ν w (a.add 6) λh=>Ld .bool w (a.add 7) λi=>Ld .bool w (a.add 8) λj=>Ld .slice w (a.add 9) λk=>Ld .slice w (a.add 10) λl=>K b c d e f g h i j k l
@[reducible] def Ob (e f g:Int) (b:gG) (h i j k l m n:Int) (o p:Bool) (c d:gG) (q r s t u v w:Int):List Value:= Β e:: Β f:: Β g:: Δ b:: Β h:: Β i:: Β j:: Β k:: Β l:: Β m:: Β n:: .bool o:: .bool p:: Δ c:: Δ d:: Β q:: Β r:: Β s:: Β t:: Β u:: Β v:: Β w::[]
@[reducible] def TG (w:θ) (a:Addr) (K:Int->Int->Int->gG->Int->Int->Int->Int->Int->Int->Int->Bool->Bool->gG->gG->Int->Int->Int->Int->Int->Int->Int->Prop):Prop:=Ld ν w (a.add 0) λb=>Ld ν w (a.add 1) λc=>Ld ν w (a.add 2) λd=>Ld .slice w (a.add 3) λe=>Ld ν w (a.add 4) λf=>Ld ν w (a.add 5) λg=>Ld ν w (a.add 6) λh=>Ld ν w (a.add 7) λi=>Ld ν w (a.add 8) λj=>Ld ν w (a.add 9) λk=>Ld ν w (a.add 10) λl=>Ld .bool w (a.add 11) λm=>Ld .bool w (a.add 12) λn=>Ld .slice w (a.add 13) λo=>Ld .slice w (a.add 14) λp=>Ld ν w (a.add 15) λq=>Ld ν w (a.add 16) λr=>Ld ν w (a.add 17) λs=>Ld ν w (a.add 18) λt=>Ld ν w (a.add 19) λu=>Ld ν w (a.add 20) λv=>Ld ν w (a.add 21) λx=>K b c d e f g h i j k l m n o p q r s t u v x
@[reducible] def akH (e f g h i:gu) (j k l m n o p q r s t u v w x y:Int) (b c:gG) (z A B C D E F G H I J K L M N O P:Int) (d:gG) (Q:Int):List Value:= .pointer e:: .pointer f:: .pointer g:: .pointer h:: .pointer i:: .int .u8 j:: .int .u8 k:: .int .u8 l:: .int .u8 m:: .int .u8 n:: .int .u8 o:: .int .u8 p:: .int .u8 q:: .int .u8 r:: .int .u8 s:: .int .u8 t:: .int .u8 u:: .int .u8 v:: .int .u8 w:: .int .u8 x:: .int .u8 y:: Δ b:: Δ c:: Β z:: Β A:: Β B:: Β C:: Β D:: Β E:: Β F:: Β G:: Β H:: Β I:: Β J:: Β K:: Β L:: Β M:: Β N:: Β O:: Β P:: Δ d:: Β Q::[]
@[reducible] def abE (a b c d e f g:Int) (h i:Bool):List Value:= Β a:: Β b:: Β c:: Β d:: Β e:: Β f:: Β g:: .bool h:: .bool i::[]
@[reducible] def akB (w:θ) (a:Addr) (K:Int->Int->Int->Int->Int->Int->Int->Bool->Bool->Prop):Prop:=Ld ν w (a.add 0) λb=>Ld ν w (a.add 1) λc=>Ld ν w (a.add 2) λd=>Ld ν w (a.add 3) λe=>Ld ν w (a.add 4) λf=>Ld ν w (a.add 5) λg=>Ld ν w (a.add 6) λh=>Ld .bool w (a.add 7) λi=>Ld .bool w (a.add 8) λj=>K b c d e f g h i j
abbrev TF:List Kind:=(.int .u8)::(.int .u8)::(.int .u8)::(.int .u8)::(.int .u8)::(.int .u8)::(.int .u8)::(.int .u8)::(.int .u8)::(.int .u8)::(.int .u8)::(.int .u8)::(.int .u8)::(.int .u8)::(.int .u8)::(.int .u8)::[]
@[reducible] def og (a b c d e f g h i j k l m n o p:Int):List Value:= .int .u8 a:: .int .u8 b:: .int .u8 c:: .int .u8 d:: .int .u8 e:: .int .u8 f:: .int .u8 g:: .int .u8 h:: .int .u8 i:: .int .u8 j:: .int .u8 k:: .int .u8 l:: .int .u8 m:: .int .u8 n:: .int .u8 o:: .int .u8 p::[]
@[reducible] def vI (w:θ) (a:Addr) (K:gy (gy (Prop))):Prop:=Ld (.int .u8) w (a.add 0) λb=>Ld (.int .u8) w (a.add 1) λc=>Ld (.int .u8) w (a.add 2) λd=>Ld (.int .u8) w (a.add 3) λe=>Ld (.int .u8) w (a.add 4) λf=>Ld (.int .u8) w (a.add 5) λg=>Ld (.int .u8) w (a.add 6) λh=>Ld (.int .u8) w (a.add 7) λi=>Ld (.int .u8) w (a.add 8) λj=>Ld (.int .u8) w (a.add 9) λk=>Ld (.int .u8) w (a.add 10) λl=>Ld (.int .u8) w (a.add 11) λm=>Ld (.int .u8) w (a.add 12) λn=>Ld (.int .u8) w (a.add 13) λo=>Ld (.int .u8) w (a.add 14) λp=>Ld (.int .u8) w (a.add 15) λq=>K b c d e f g h i j k l m n o p q
@[reducible] def akI (a b c d e f g h i j k l m n o p q r s t u v w x y z A B C D E F G H I J K L M N O P Q R S T U V W X Y Z aa ab ac ad ae:Int):List Value:= Β a:: Β b:: Β c:: Β d:: Β e:: Β f:: Β g:: Β h:: Β i:: Β j:: Β k:: Β l:: Β m:: Β n:: Β o:: Β p:: Β q:: Β r:: Β s:: Β t:: Β u:: Β v:: Β w:: Β x:: Β y:: Β z:: Β A:: Β B:: Β C:: Β D:: Β E:: Β F:: Β G:: Β H:: Β I:: Β J:: Β K:: Β L:: Β M:: Β N:: Β O:: Β P:: Β Q:: Β R:: Β S:: Β T:: Β U:: Β V:: Β W:: Β X:: Β Y:: Β Z:: Β aa:: Β ab:: Β ac:: Β ad:: Β ae::[]
abbrev ai8:List Kind:= .slice::ν::ν::ν::ν::ν::ν::ν:: .bool:: .bool:: .slice:: .slice::ν::[]
@[reducible] def oI (b:gG) (e f g h i j k:Int) (l m:Bool) (c d:gG) (n:Int):List Value:= Δ b:: Β e:: Β f:: Β g:: Β h:: Β i:: Β j:: Β k:: .bool l:: .bool m:: Δ c:: Δ d:: Β n::[]
@[reducible] def uN (w:θ) (a:Addr) (K:gG->Int->Int->Int->Int->Int->Int->Int->Bool->Bool->gG->gG->Int->Prop):Prop:=Ld .slice w (a.add 0) λb=>Ld ν w (a.add 1) λc=>Ld ν w (a.add 2) λd=>Ld ν w (a.add 3) λe=>Ld ν w (a.add 4) λf=>Ld ν w (a.add 5) λg=>Ld ν w (a.add 6) λh=>Ld ν w (a.add 7) λi=>Ld .bool w (a.add 8) λj=>Ld .bool w (a.add 9) λk=>Ld .slice w (a.add 10) λl=>Ld .slice w (a.add 11) λm=>Ld ν w (a.add 12) λn=>K b c d e f g h i j k l m n
abbrev akA:List Kind:=ν::ν::ν::ν::ν::ν::ν::ν:: .slice:: .slice::[]
@[reducible] def mQ (d e f g h i j k:Int) (b c:gG):List Value:= Β d:: Β e:: Β f:: Β g:: Β h:: Β i:: Β j:: Β k:: Δ b:: Δ c::[]
@[reducible] def Bj (w:θ) (a:Addr) (K:Int->Int->Int->Int->Int->Int->Int->Int->gG->gG->Prop):Prop:=Ld ν w (a.add 0) λb=>Ld ν w (a.add 1) λc=>Ld ν w (a.add 2) λd=>Ld ν w (a.add 3) λe=>Ld ν w (a.add 4) λf=>Ld ν w (a.add 5) λg=>Ld ν w (a.add 6) λh=>Ld ν w (a.add 7) λi=>Ld .slice w (a.add 8) λj=>Ld .slice w (a.add 9) λk=>K b c d e f g h i j k
@[reducible] def Ci (w:θ) (a:Addr) (n:Nat) (x:Int) (R:Prop):Prop:=w.cell? (a.add n)=some (Β x)/\R
@[reducible] def Cj (w:θ) (a:Addr) (x y:Int) (R:Prop):Prop:=Ci w a 0 x (Ci w a 1 y R)
@[reducible] def Cs (w:θ) (a:Addr) (n:Nat) (x:Value) (R:Prop):Prop:=w.cell? (a.add n)=some x/\R
@[reducible] def Ct (w:θ) (a:Addr) (s:gG) (x y:Int) (R:Prop):Prop:=Cs w a 0 (Δ s) (Ci w a 1 x (Ci w a 2 y R))
@[reducible] def Cw (w:θ) (a:Addr) (x:Value) (R:Prop):Prop:=w.cell? a=some x/\R
theorem cmS0 {f:FuncId} {vs:List Value} {w:θ} {K K':Bool->b_}:gI υ f vs [.one .bool] w K->(∀x0 w,K x0 w->K' x0 w)->gI υ f vs [.one .bool] w K':=gI.mono
theorem cmS1 {f:FuncId} {vs:List Value} {w:θ} {K K':Int->b_}:gI υ f vs [.one ν] w K->(∀x0 w,K x0 w->K' x0 w)->gI υ f vs [.one ν] w K':=gI.mono
theorem cmS2 {f:FuncId} {vs:List Value} {w:θ} {K K':gG->b_}:gI υ f vs [.one .slice] w K->(∀x0 w,K x0 w->K' x0 w)->gI υ f vs [.one .slice] w K':=gI.mono
theorem cmS3 {f:FuncId} {vs:List Value} {w:θ} {K K':Int->Bool->b_}:gI υ f vs [.one ν,.one .bool] w K->(∀x0 x1 w,K x0 x1 w->K' x0 x1 w)->gI υ f vs [.one ν,.one .bool] w K':=gI.mono
theorem cmS4 {f:FuncId} {vs:List Value} {w:θ} {K K':Value->b_}:gI υ f vs [.one .any] w K->(∀x0 w,K x0 w->K' x0 w)->gI υ f vs [.one .any] w K':=gI.mono
theorem cmS5 {f:FuncId} {vs:List Value} {w:θ} {K K':gG->Int->b_}:gI υ f vs [.one .slice,.one ν] w K->(∀x0 x1 w,K x0 x1 w->K' x0 x1 w)->gI υ f vs [.one .slice,.one ν] w K':=gI.mono
theorem cmS6 {f:FuncId} {vs:List Value} {w:θ} {K K':(gu)->Int->b_}:gI υ f vs [.one .ptr,.one ν] w K->(∀x0 x1 w,K x0 x1 w->K' x0 x1 w)->gI υ f vs [.one .ptr,.one ν] w K':=gI.mono
theorem cmS7 {f:FuncId} {vs:List Value} {w:θ} {K K':b_}:gI υ f vs [] w K->(∀w,K w->K' w)->gI υ f vs [] w K':=gI.mono
theorem cmS8 {f:FuncId} {vs:List Value} {w:θ} {K K':Int->Int->b_}:gI υ f vs [.one ν,.one ν] w K->(∀x0 x1 w,K x0 x1 w->K' x0 x1 w)->gI υ f vs [.one ν,.one ν] w K':=gI.mono
theorem cmS9 {f:FuncId} {vs:List Value} {w:θ} {K K':ByteArray->b_}:gI υ f vs [.one .str] w K->(∀x0 w,K x0 w->K' x0 w)->gI υ f vs [.one .str] w K':=gI.mono
theorem cmS10 {f:FuncId} {vs:List Value} {w:θ} {K K':Int->Int->Int->Int->b_}:gI υ f vs [.agg [ν,ν,ν],.one ν] w K->(∀x0 x1 x2 x3 w,K x0 x1 x2 x3 w->K' x0 x1 x2 x3 w)->gI υ f vs [.agg [ν,ν,ν],.one ν] w K':=gI.mono
theorem cmS11 {f:FuncId} {vs:List Value} {w:θ} {K K':Int->Int->Int->Int->Int->Int->Int->Bool->Bool->gG->gG->Int->b_}:gI υ f vs [.agg wI,.one ν] w K->(∀x0 x1 x2 x3 x4 x5 x6 x7 x8 x9 h u w,K x0 x1 x2 x3 x4 x5 x6 x7 x8 x9 h u w->K' x0 x1 x2 x3 x4 x5 x6 x7 x8 x9 h u w)->gI υ f vs [.agg wI,.one ν] w K':=gI.mono
theorem cmS12 {f:FuncId} {vs:List Value} {w:θ} {K K':Int->Int->Int->Int->Int->Int->Int->Bool->Bool->gG->gG->b_}:gI υ f vs [.agg wI] w K->(∀x0 x1 x2 x3 x4 x5 x6 x7 x8 x9 h w,K x0 x1 x2 x3 x4 x5 x6 x7 x8 x9 h w->K' x0 x1 x2 x3 x4 x5 x6 x7 x8 x9 h w)->gI υ f vs [.agg wI] w K':=gI.mono
theorem cmS13 {f:FuncId} {vs:List Value} {w:θ} {K K':Int->Int->b_}:gI υ f vs [.agg [ν,ν]] w K->(∀x0 x1 w,K x0 x1 w->K' x0 x1 w)->gI υ f vs [.agg [ν,ν]] w K':=gI.mono
theorem cmS14 {f:FuncId} {vs:List Value} {w:θ} {K K':Int->Int->Int->Int->Int->Int->Int->Bool->Bool->b_}:gI υ f vs [.agg [ν,ν,ν,ν,ν,ν,ν,.bool],.one .bool] w K->(∀x0 x1 x2 x3 x4 x5 x6 x7 x8 w,K x0 x1 x2 x3 x4 x5 x6 x7 x8 w->K' x0 x1 x2 x3 x4 x5 x6 x7 x8 w)->gI υ f vs [.agg [ν,ν,ν,ν,ν,ν,ν,.bool],.one .bool] w K':=gI.mono
theorem cmS15 {f:FuncId} {vs:List Value} {w:θ} {K K':Int->Int->Int->Int->Int->Bool->b_}:gI υ f vs [.agg [ν,ν,ν,ν,ν],.one .bool] w K->(∀x0 x1 x2 x3 x4 x5 w,K x0 x1 x2 x3 x4 x5 w->K' x0 x1 x2 x3 x4 x5 w)->gI υ f vs [.agg [ν,ν,ν,ν,ν],.one .bool] w K':=gI.mono
theorem cmS16 {f:FuncId} {vs:List Value} {w:θ} {K K':Int->Int->Int->b_}:gI υ f vs [.agg [ν,ν,ν]] w K->(∀x0 x1 x2 w,K x0 x1 x2 w->K' x0 x1 x2 w)->gI υ f vs [.agg [ν,ν,ν]] w K':=gI.mono
theorem cmS17 {f:FuncId} {vs:List Value} {w:θ} {K K':(gu)->b_}:gI υ f vs [.one .ptr] w K->(∀x0 w,K x0 w->K' x0 w)->gI υ f vs [.one .ptr] w K':=gI.mono
theorem cmS18 {f:FuncId} {vs:List Value} {w:θ} {K K':gG->Int->Int->Int->b_}:gI υ f vs [.agg [.slice,ν,ν],.one ν] w K->(∀x0 x1 x2 x3 w,K x0 x1 x2 x3 w->K' x0 x1 x2 x3 w)->gI υ f vs [.agg [.slice,ν,ν],.one ν] w K':=gI.mono
theorem cmS19 {f:FuncId} {vs:List Value} {w:θ} {K K':Int->gG->gG->b_}:gI υ f vs [.agg [ν,.slice,.slice]] w K->(∀x0 x1 x2 w,K x0 x1 x2 w->K' x0 x1 x2 w)->gI υ f vs [.agg [ν,.slice,.slice]] w K':=gI.mono
theorem cmS20 {f:FuncId} {vs:List Value} {w:θ} {K K':gy (gy (gG->gG->Int->Int->Int->Int->Int->Int->Int->Int->Int->Int->Int->Int->Int->Int->Int->Int->Int->gG->b_))}:gI υ f vs [.agg afj] w K->(∀x0 x1 x2 x3 x4 x5 x6 x7 x8 x9 h u I J N O R U W Y Z aa ab ac ae af ag ah ai aj ak am an ao aq ar w,K x0 x1 x2 x3 x4 x5 x6 x7 x8 x9 h u I J N O R U W Y Z aa ab ac ae af ag ah ai aj ak am an ao aq ar w->K' x0 x1 x2 x3 x4 x5 x6 x7 x8 x9 h u I J N O R U W Y Z aa ab ac ae af ag ah ai aj ak am an ao aq ar w)->gI υ f vs [.agg afj] w K':=gI.mono
theorem cmS21 {f:FuncId} {vs:List Value} {w:θ} {K K':gy (gy (b_))}:gI υ f vs [.agg TF] w K->(∀x0 x1 x2 x3 x4 x5 x6 x7 x8 x9 h u I J N O w,K x0 x1 x2 x3 x4 x5 x6 x7 x8 x9 h u I J N O w->K' x0 x1 x2 x3 x4 x5 x6 x7 x8 x9 h u I J N O w)->gI υ f vs [.agg TF] w K':=gI.mono
def EO (d e f g h i j k l m n o p q r s:Int) (t u:gG) (v x y z A B C D E F G H I J L M N:Int) (O b:gG) (P Q R:Int) (c:gG) (w:θ) (K:Bool->b_):=gI υ 3 [.agg ⟨jO d e f g h i j k l m n o p q r s t u v x y z A B C D E F G H I J L M N O⟩,Δ b,.int .u8 P,.int .u16 Q,.int .u16 R,Δ c] [.one .bool] w K
def Ea (a b c d e f g h i j k l m n o p:Int) (q r:gG) (s t u v x y z A B C D E F G H I J:Int) (L:gG) (w:θ) (K:Bool->b_):=gI υ 4 [.agg ⟨jO a b c d e f g h i j k l m n o p q r s t u v x y z A B C D E F G H I J L⟩] [.one .bool] w K
def Ir (b:gG) (w:θ) (K:Bool->b_):=gI υ 5 [Δ b] [.one .bool] w K
def lF (w:θ) (K:Bool->b_):=gI υ 6 [] [.one .bool] w K
def FW (a b c d e f g h i j k l m n o p:Int) (q r:gG) (s t u v x y z A B C D E F G H I J:Int) (L:gG) (w:θ) (K:(gu)->Int->b_):=gI υ 7 [.agg ⟨jO a b c d e f g h i j k l m n o p q r s t u v x y z A B C D E F G H I J L⟩] [.one .ptr,.one ν] w K
def FV (c:gu) (b:gG) (w:θ) (K:b_):=gI υ 8 [.pointer c,Δ b] [] w K
def jH (a:gu) (b c d e f g h i:Int) (j k:Bool) (l m:gG) (w:θ) (K:Int->Int->Int->Int->Int->Int->Int->Bool->Bool->gG->gG->Int->b_):=gI υ 9 [.pointer a,Β b,.agg ⟨gX c d e f g h i j k l m⟩] [.agg wI,.one ν] w K
def jB (b:gG) (w:θ) (K:Int->Int->Int->Int->Int->Int->Int->Bool->Bool->gG->gG->b_):=gI υ 10 [Δ b] [.agg wI] w K
def jC (c d e f g:Int) (b:gG) (w:θ) (K:gG->b_):=gI υ 11 [Β c,Β d,Β e,Β f,Β g,Δ b] [.one .slice] w K
def yZ (a b c d e f g:Int) (h i:Bool) (j k:gG) (w:θ) (K:gG->Int->b_):=gI υ 12 [.agg ⟨gX a b c d e f g h i j k⟩] [.one .slice,.one ν] w K
def kD (a:gu) (b c d e f g h:Int) (i j:Bool) (k l:gG) (w:θ) (K:Int->Int->Int->Int->Int->Int->Int->Int->Bool->Bool->gG->gG->Int->b_):=gI υ 13 [.pointer a,.agg ⟨gX b c d e f g h i j k l⟩] [.one ν,.agg wI,.one ν] w K
def wW (a:gu) (b:Int) (w:θ) (K:Bool->b_):=gI υ 14 [.pointer a,Β b] [.one .bool] w K
def jv (b:gG) (c:Value) (w:θ) (K:Bool->b_):=gI υ 15 [Δ b,c] [.one .bool] w K
def vY (a:gu) (w:θ) (K:Int->gG->gG->Int->Int->Int->gG->b_):=gI υ 16 [.pointer a] [.agg [ν,.slice,.slice,ν,ν,ν,.slice]] w K
def BI (a b c d e f g:Int) (h:Bool) (i j:Addr) (w:θ) (K:Bool->b_):=gI υ 17 [(.agg ⟨[Β a,Β b,Β c,Β d,Β e,Β f,Β g,.bool h]⟩),(.pointer (some i)),(.pointer (some j))] [.one .bool] w K
def sJ (a:gu) (w:θ) (K:Int->b_):=gI υ 18 [.pointer a] [.one ν] w K
def mJ (a:gu) (b:Int) (w:θ) (K:Int->b_):=gI υ 19 [.pointer a,Β b] [.one ν] w K
def BQ (a b c d e f g:Int) (h i:Bool) (j k:gG) (w:θ) (K:Bool->b_):=gI υ 20 [.agg ⟨gX a b c d e f g h i j k⟩] [.one .bool] w K
def Eb (a b c d e f g h i j k l m n o p:Int) (q r:gG) (s t u v x y z A B C D E F G H I J:Int) (L:gG) (w:θ) (K:Bool->b_):=gI υ 21 [.agg ⟨jO a b c d e f g h i j k l m n o p q r s t u v x y z A B C D E F G H I J L⟩] [.one .bool] w K
def Eh (a b c d e f g h i j k l m n o p:Int) (q r:gG) (s t u v x y z A B C D E F G H I J:Int) (L:gG) (w:θ) (K:Int->b_):=gI υ 22 [.agg ⟨jO a b c d e f g h i j k l m n o p q r s t u v x y z A B C D E F G H I J L⟩] [.one ν] w K
def Bq (a b c d e f g h i j k l m n o p:Int) (q r:gG) (s t u v x y z A B C D E F G H I J:Int) (L:gG) (w:θ) (K:Int->b_):=gI υ 24 [.agg ⟨jO a b c d e f g h i j k l m n o p q r s t u v x y z A B C D E F G H I J L⟩] [.one ν] w K
def MS (b:gG) (c d:Int) (w:θ) (K:(gu)->Int->b_):=gI υ 25 [Δ b,Β c,Β d] [.one .ptr,.one ν] w K
def Iw (a b:Int) (w:θ) (K:(gu)->Int->b_):=gI υ 26 [Β a,Β b] [.one .ptr,.one ν] w K
def MP (a:Int) (w:θ) (K:(gu)->Int->b_):=gI υ 27 [Β a] [.one .ptr,.one ν] w K
def Em (a:Int) (w:θ) (K:(gu)->Int->b_):=gI υ 28 [Β a] [.one .ptr,.one ν] w K
def IQ (a:Int) (w:θ) (K:(gu)->Int->b_):=gI υ 29 [Β a] [.one .ptr,.one ν] w K
def oQ (a:gu) (b c d e f g h:Int) (w:θ) (K:Int->b_):=gI υ 30 [.pointer a,(.agg ⟨[Β b,Β c,Β d,Β e,Β f,Β g,Β h]⟩)] [.one ν] w K
def yw (a b c:Int) (d:gG) (e f g h i j k:Int) (l m:Bool) (n o:gG) (p q r s t u v:Int) (w:θ) (K:Int->Int->Int->Int->Int->Int->Int->Bool->Bool->gG->gG->b_):=gI υ 31 [.agg ⟨Ob a b c d e f g h i j k l m n o p q r s t u v⟩] [.agg wI] w K
def uV (a:gu) (b:Int) (w:θ) (K:Int->b_):=gI υ 32 [.pointer a,Β b] [.one ν] w K
def uX (a:gu) (b c d e:Int) (w:θ) (K:Int->b_):=gI υ 33 [.pointer a,(.agg ⟨[Β b,Β c,Β d,Β e]⟩)] [.one ν] w K
def jg (a:gu) (w:θ) (K:Bool->b_):=gI υ 34 [.pointer a] [.one .bool] w K
def nR (a:gu) (b:Int) (w:θ) (K:Bool->b_):=gI υ 35 [.pointer a,Β b] [.one .bool] w K
def Aw (a b c d e f g:Int) (h i:Bool) (j k:gG) (w:θ) (K:Bool->b_):=gI υ 36 [.agg ⟨gX a b c d e f g h i j k⟩] [.one .bool] w K
def Au (a b c d e f g:Int) (h i:Bool) (j k:gG) (w:θ) (K:Int->Int->Int->gG->Bool->b_):=gI υ 37 [.agg ⟨gX a b c d e f g h i j k⟩] [.agg [ν,ν,ν,.slice],.one .bool] w K
def qI (c:gu) (d e f g h i j k:Int) (l m:Bool) (n o:gG) (p q r:Int) (b:gG) (w:θ) (K:Int->Int->Int->Int->Int->Int->Int->Bool->Bool->gG->gG->Int->b_):=gI υ 38 [.pointer c,Β d,.agg ⟨gX e f g h i j k l m n o⟩,(.agg ⟨[Β p,Β q,Β r,Δ b]⟩)] [.agg wI,.one ν] w K
def FZ (a b c d e f g:Int) (h i:Bool) (j k:gG) (w:θ) (K:Int->Int->Int->Int->b_):=gI υ 39 [.agg ⟨gX a b c d e f g h i j k⟩] [.agg [ν,ν,ν],.one ν] w K
def FX (a:Int) (w:θ) (K:Int->b_):=gI υ 40 [Β a] [.one ν] w K
def kK (a:gu) (b c d e f g h i j k l m n:Int) (o p:Bool) (q r:gG) (w:θ) (K:Int->Bool->Int->Bool->Int->Int->Int->Value->b_):=gI υ 41 [.pointer a,(.agg ⟨[Β b,Β c,Β d,Β e]⟩),(.agg ⟨[Β f,Β g]⟩),.agg ⟨gX h i j k l m n o p q r⟩] [.agg [ν,.bool,ν,.bool,ν,ν,ν],.one .any] w K
def vJ (a b c:Int) (w:θ) (K:Int->Int->b_):=gI υ 42 [Β a,Β b,Β c] [.agg [ν,ν]] w K
def Ip (a b:Value) (w:θ) (K:Bool->b_):=gI υ 43 [a,b] [.one .bool] w K
def oz (a:gu) (b:Int) (c:Bool) (d:Int) (e:Bool) (f g h i j:Int) (w:θ) (K:b_):=gI υ 44 [.pointer a,(.agg ⟨[Β b,.bool c,Β d,.bool e,Β f,Β g,Β h]⟩),Β i,Β j] [] w K
def lD (a:gu) (b:Int) (w:θ) (K:Int->Int->Int->Int->Int->Int->Int->Bool->Bool->b_):=gI υ 45 [.pointer a,Β b] [.agg [ν,ν,ν,ν,ν,ν,ν,.bool],.one .bool] w K
def FY (a b c d e f g:Int) (h i:Bool) (j k:gG) (l m:Int) (w:θ) (K:Int->Int->Int->Int->Int->Int->Int->Bool->Bool->gG->gG->Int->b_):=gI υ 46 [.agg ⟨gX a b c d e f g h i j k⟩,Β l,Β m] [.agg wI,.one ν] w K
def zn (b:gG) (w:θ) (K:Int->Int->Int->Int->Int->Int->Int->Bool->Bool->gG->gG->Int->b_):=gI υ 47 [Δ b] [.agg wI,.one ν] w K
def Ee (c d e f:Int) (g:Bool) (b:gG) (w:θ) (K:gG->Int->b_):=gI υ 48 [Β c,Β d,(.agg ⟨[Β e,Β f,.bool g,Δ b]⟩)] [.one .slice,.one ν] w K
def zi (a b c d e f g:Int) (h i:Bool) (j k:gG) (w:θ) (K:Int->b_):=gI υ 49 [.agg ⟨gX a b c d e f g h i j k⟩] [.one ν] w K
def Gg (b:gG) (w:θ) (K:Int->b_):=gI υ 50 [Δ b] [.one ν] w K
def AL (a b c d e f g:Int) (h i:Bool) (j k:gG) (l m:Int) (w:θ) (K:gG->b_):=gI υ 51 [.agg ⟨gX a b c d e f g h i j k⟩,Β l,Β m] [.one .slice] w K
def xg (a b c d e f g:Int) (h i:Bool) (j k:gG) (w:θ) (K:Int->b_):=gI υ 52 [.agg ⟨gX a b c d e f g h i j k⟩] [.one ν] w K
def rY (c:gu) (d e f g h i j:Int) (k l:Bool) (m n:gG) (o p q:Int) (b:gG) (w:θ) (K:Int->Int->Int->Int->Int->Int->Int->Int->Bool->Bool->gG->gG->Int->b_):=gI υ 53 [.pointer c,.agg ⟨gX d e f g h i j k l m n⟩,(.agg ⟨[Β o,Β p,Β q,Δ b]⟩)] [.one ν,.agg wI,.one ν] w K
def pV (a:gu) (b c d:Int) (w:θ) (K:Int->Bool->b_):=gI υ 54 [.pointer a,(.agg ⟨[Β b,Β c,Β d]⟩)] [.one ν,.one .bool] w K
def qJ (a:gu) (b:Int) (c:Bool) (d:Int) (e:Bool) (f g h:Int) (w:θ) (K:Int->Bool->Int->Bool->Int->Int->Int->b_):=gI υ 55 [.pointer a,(.agg ⟨[Β b,.bool c,Β d,.bool e,Β f,Β g,Β h]⟩)] [.agg [ν,.bool,ν,.bool,ν,ν,ν]] w K
def BG (c d e:Int) (b:gG) (w:θ) (K:Bool->b_):=gI υ 56 [Β c,(.agg ⟨[Β d,Β e]⟩),Δ b] [.one .bool] w K
def wo (a:gu) (b:Int) (w:θ) (K:gG->b_):=gI υ 57 [.pointer a,Β b] [.one .slice] w K
def uY (a:gu) (b:Int) (c:Bool) (d:Int) (e:Bool) (f g h i j k l m n o:Int) (p q:Bool) (r s:gG) (w:θ) (K:Int->b_):=gI υ 58 [.pointer a,(.agg ⟨[Β b,.bool c,Β d,.bool e,Β f,Β g,Β h]⟩),.agg ⟨gX i j k l m n o p q r s⟩] [.one ν] w K
def MV (a b c d e f g:Int) (h i:Bool) (j k:gG) (l m:Int) (w:θ) (K:Int->Int->Int->Int->Int->Int->Int->Bool->Bool->gG->gG->Int->b_):=gI υ 59 [.agg ⟨gX a b c d e f g h i j k⟩,Β l,Β m] [.agg wI,.one ν] w K
def rF (a:gu) (b:Int) (w:θ) (K:Bool->b_):=gI υ 60 [.pointer a,Β b] [.one .bool] w K
def lJ (b:gG) (c:Value) (w:θ) (K:Int->b_):=gI υ 61 [Δ b,c] [.one ν] w K
def oW (a:gu) (w:θ) (K:Int->b_):=gI υ 62 [.pointer a] [.one ν] w K
def yU (a:gu) (w:θ) (K:Value->b_):=gI υ 63 [.pointer a] [.one .any] w K
def u_ (a:gu) (w:θ) (K:Value->b_):=gI υ 64 [.pointer a] [.one .any] w K
def sD (a:gu) (b:Int) (w:θ) (K:gG->b_):=gI υ 65 [.pointer a,Β b] [.one .slice] w K
def nK (a:gu) (b:Int) (w:θ) (K:Int->Int->Int->Int->Int->Bool->b_):=gI υ 66 [.pointer a,Β b] [.agg [ν,ν,ν,ν,ν],.one .bool] w K
def nU (a:gu) (b:Int) (w:θ) (K:Bool->b_):=gI υ 67 [.pointer a,Β b] [.one .bool] w K
def tJ (a:gu) (b:Int) (w:θ) (K:Bool->b_):=gI υ 68 [.pointer a,Β b] [.one .bool] w K
def kQ (a:gu) (b:Int) (w:θ) (K:b_):=gI υ 69 [.pointer a,Β b] [] w K
def Ae (a b c d e f g h i j k l m n o p:Int) (q r:gG) (s t u v x y z A B C D E F G H I J:Int) (L:gG) (w:θ) (K:Bool->b_):=gI υ 70 [.agg ⟨jO a b c d e f g h i j k l m n o p q r s t u v x y z A B C D E F G H I J L⟩] [.one .bool] w K
def Ei (a b c d e f g h i j k l m n o p:Int) (q r:gG) (s t u v x y z A B C D E F G H I J:Int) (L:gG) (w:θ) (K:Bool->b_):=gI υ 71 [.agg ⟨jO a b c d e f g h i j k l m n o p q r s t u v x y z A B C D E F G H I J L⟩] [.one .bool] w K
def Ej (a b c d e f g h i j k l m n o p:Int) (q r:gG) (s t u v x y z A B C D E F G H I J:Int) (L:gG) (w:θ) (K:Bool->b_):=gI υ 72 [.agg ⟨jO a b c d e f g h i j k l m n o p q r s t u v x y z A B C D E F G H I J L⟩] [.one .bool] w K
def z_ (a b c d e f g h i j k l m n o p:Int) (q r:gG) (s t u v x y z A B C D E F G H I J:Int) (L:gG) (w:θ) (K:gG->b_):=gI υ 74 [.agg ⟨jO a b c d e f g h i j k l m n o p q r s t u v x y z A B C D E F G H I J L⟩] [.one .slice] w K
def lH (a b c:Int) (w:θ) (K:Bool->b_):=gI υ 75 [(.agg ⟨[Β a,Β b,Β c]⟩)] [.one .bool] w K
def BF (a:Int) (w:θ) (K:Bool->b_):=gI υ 76 [Β a] [.one .bool] w K
def BA (a b c d e f g h i j k l m n o p:Int) (q r:gG) (s t u v x y z A B C D E F G H I J:Int) (L:gG) (w:θ) (K:Bool->b_):=gI υ 77 [.agg ⟨jO a b c d e f g h i j k l m n o p q r s t u v x y z A B C D E F G H I J L⟩] [.one .bool] w K
def yj (a b c d e f g h i j k l m n o p:Int) (q r:gG) (s t u v x y z A B C D E F G H I J:Int) (L:gG) (w:θ) (K:Bool->b_):=gI υ 78 [.agg ⟨jO a b c d e f g h i j k l m n o p q r s t u v x y z A B C D E F G H I J L⟩] [.one .bool] w K
def tH (a:Int) (w:θ) (K:Bool->b_):=gI υ 79 [Β a] [.one .bool] w K
def jd (b:gG) (c:Int) (w:θ) (K:Bool->b_):=gI υ 80 [Δ b,Β c] [.one .bool] w K
def nV (b:gG) (w:θ) (K:gG->b_):=gI υ 81 [Δ b] [.one .slice] w K
def BH (a:Int) (w:θ) (K:(gu)->Int->b_):=gI υ 82 [Β a] [.one .ptr,.one ν] w K
def wX (a:gu) (b c d e f g h:Int) (w:θ) (K:Bool->b_):=gI υ 83 [.pointer a,(.agg ⟨[Β b,Β c,Β d,Β e,Β f,Β g,Β h]⟩)] [.one .bool] w K
def oq (a:gu) (b c d e:Int) (w:θ) (K:Int->Bool->b_):=gI υ 84 [.pointer a,(.agg ⟨[Β b,Β c,Β d,Β e]⟩)] [.one ν,.one .bool] w K
def pK (a:gu) (b:Int) (w:θ) (K:Int->b_):=gI υ 85 [.pointer a,Β b] [.one ν] w K
def qK (a:gu) (w:θ) (K:Bool->b_):=gI υ 86 [.pointer a] [.one .bool] w K
def qM (a:gu) (b:Int) (w:θ) (K:Int->b_):=gI υ 87 [.pointer a,Β b] [.one ν] w K
def yC (a:gu) (b c d:Int) (w:θ) (K:Int->b_):=gI υ 88 [.pointer a,(.agg ⟨[Β b,Β c,Β d]⟩)] [.one ν] w K
def yT (a:gu) (b c d e f g h:Int) (i:Bool) (w:θ) (K:Int->Int->b_):=gI υ 89 [.pointer a,(.agg ⟨[Β b,Β c,Β d,Β e,Β f,Β g,Β h,.bool i]⟩)] [.one ν,.one ν] w K
def yx (a:gu) (b:Int) (w:θ) (K:Value->b_):=gI υ 90 [.pointer a,Β b] [.one .any] w K
def nJ (a:gu) (b:Int) (w:θ) (K:b_):=gI υ 91 [.pointer a,Β b] [] w K
def Gt (a b c d e f g:Int) (h i:Bool) (j k:gG) (w:θ) (K:Int->b_):=gI υ 92 [.agg ⟨gX a b c d e f g h i j k⟩] [.one ν] w K
def Aq (b:gG) (w:θ) (K:Int->Int->Int->gG->Int->b_):=gI υ 93 [Δ b] [.agg [ν,ν,ν,.slice],.one ν] w K
def FT (a:Int) (w:θ) (K:Bool->b_):=gI υ 94 [Β a] [.one .bool] w K
def vK (b:gG) (w:θ) (K:Int->Int->Int->Int->Int->Int->Int->Bool->Bool->gG->gG->Int->Int->Int->Int->b_):=gI υ 95 [Δ b] [.agg wI,.agg [ν,ν,ν],.one ν] w K
def Dp (c d e f g h i:Int) (j k:Bool) (l m:gG) (n o p:Int) (b:gG) (q:Bool) (r s:Int) (w:θ) (K:Int->Int->Int->Int->Int->Int->Int->Bool->Bool->gG->gG->b_):=gI υ 96 [.agg ⟨gX c d e f g h i j k l m⟩,(.agg ⟨[Β n,Β o,Β p,Δ b]⟩),.bool q,Β r,Β s] [.agg wI] w K
def tN (a b c d e f g:Int) (h i:Bool) (j k:gG) (w:θ) (K:Value->Int->b_):=gI υ 97 [.agg ⟨gX a b c d e f g h i j k⟩] [.one .any,.one ν] w K
def Dl (a:Int) (b:Bool) (c:Int) (d:Bool) (e f g h i j k l m n:Int) (o p:Bool) (q r:gG) (s:Bool) (w:θ) (K:Int->Bool->b_):=gI υ 98 [(.agg ⟨[Β a,.bool b,Β c,.bool d,Β e,Β f,Β g]⟩),.agg ⟨gX h i j k l m n o p q r⟩,.bool s] [.one ν,.one .bool] w K
def BJ (a b c d e f g:Int) (h i:Bool) (j k:gG) (w:θ) (K:Bool->b_):=gI υ 99 [.agg ⟨gX a b c d e f g h i j k⟩] [.one .bool] w K
def oH (a:gu) (w:θ) (K:Bool->b_):=gI υ 100 [.pointer a] [.one .bool] w K
def vZ (a:gu) (b c d e:Int) (w:θ) (K:Int->Value->b_):=gI υ 101 [.pointer a,(.agg ⟨[Β b,Β c,Β d,Β e]⟩)] [.one ν,.one .any] w K
def D8 (a b c d e f g h i j k l m n o p:Int) (q r:gG) (s t u v x y z A B C D E F G H I J:Int) (L:gG) (M N:Int) (w:θ) (K:Int->b_):=gI υ 106 [.agg ⟨jO a b c d e f g h i j k l m n o p q r s t u v x y z A B C D E F G H I J L⟩,Β M,Β N] [.one ν] w K
def vk (a:gu) (b c d:Int) (w:θ) (K:Bool->b_):=gI υ 107 [.pointer a,Β b,Β c,Β d] [.one .bool] w K
def uZ (a:gu) (b c d e f:Int) (w:θ) (K:Int->Int->b_):=gI υ 108 [.pointer a,(.agg ⟨[Β b,Β c,Β d,Β e,Β f]⟩)] [.one ν,.one ν] w K
def sN (a:gu) (b c:Int) (w:θ) (K:Int->b_):=gI υ 109 [.pointer a,Β b,Β c] [.one ν] w K
def yV (a:gu) (b:Int) (w:θ) (K:Bool->b_):=gI υ 110 [.pointer a,Β b] [.one .bool] w K
def yX (a b c d e f g:Int) (h i:Bool) (j k:gG) (l m n o:Int) (w:θ) (K:Int->Int->Int->Int->Int->Int->Int->Bool->Bool->gG->gG->Int->b_):=gI υ 111 [.agg ⟨gX a b c d e f g h i j k⟩,(.agg ⟨[Β l,Β m]⟩),(.agg ⟨[Β n,Β o]⟩)] [.agg wI,.one ν] w K
def Gh (b:gG) (c:Bool) (w:θ) (K:Int->Int->Int->Int->Int->Int->Int->Bool->Bool->gG->gG->Int->b_):=gI υ 112 [Δ b,.bool c] [.agg wI,.one ν] w K
def Ef (c d:Int) (e:Bool) (b:gG) (w:θ) (K:Int->b_):=gI υ 113 [(.agg ⟨[Β c,Β d,.bool e,Δ b]⟩)] [.one ν] w K
def zu (c d:Int) (e:Bool) (b:gG) (f:Int) (w:θ) (K:gG->b_):=gI υ 114 [(.agg ⟨[Β c,Β d,.bool e,Δ b]⟩),Β f] [.one .slice] w K
def BM (a b c d:Int) (w:θ) (K:gG->b_):=gI υ 115 [Β a,Β b,Β c,Β d] [.one .slice] w K
def nS (a b:Int) (w:θ) (K:Bool->b_):=gI υ 116 [Β a,Β b] [.one .bool] w K
def yY (a:Int) (w:θ) (K:Bool->b_):=gI υ 117 [Β a] [.one .bool] w K
def Du (b:gG) (w:θ) (K:Int->b_):=gI υ 118 [Δ b] [.one ν] w K
def AB (a b c d e f g:Int) (h i:Bool) (j k:gG) (w:θ) (K:Int->b_):=gI υ 119 [.agg ⟨gX a b c d e f g h i j k⟩] [.one ν] w K
def jy (b:gG) (c d:Int) (w:θ) (K:gG->b_):=gI υ 120 [Δ b,Β c,Β d] [.one .slice] w K
def mD (a:gu) (w:θ) (K:Bool->b_):=gI υ 121 [.pointer a] [.one .bool] w K
def pW (a:gu) (b:ByteArray) (w:θ) (K:Int->Bool->b_):=gI υ 122 [.pointer a,.string b] [.one ν,.one .bool] w K
def rE (a b c:Int) (w:θ) (K:ByteArray->b_):=gI υ 123 [(.agg ⟨[Β a,Β b,Β c]⟩)] [.one .str] w K
def oV (a:gu) (b c d:Int) (w:θ) (K:Int->Bool->b_):=gI υ 124 [.pointer a,Β b,(.agg ⟨[Β c,Β d]⟩)] [.one ν,.one .bool] w K
def lC (b:gG) (c:Value) (w:θ) (K:Bool->b_):=gI υ 125 [Δ b,c] [.one .bool] w K
def PV (a b:Int) (c:Addr) (w:θ) (K:Bool->b_):=gI υ 126 [(.agg ⟨[Β a,Β b]⟩),(.pointer (some c))] [.one .bool] w K
def mV (b:gG) (c d:Int) (w:θ) (K:Bool->b_):=gI υ 127 [Δ b,(.agg ⟨[Β c,Β d]⟩)] [.one .bool] w K
def oC (a:gu) (b:Int) (w:θ) (K:Value->b_):=gI υ 128 [.pointer a,Β b] [.one .any] w K
def kM (a:gu) (w:θ) (K:Bool->b_):=gI υ 129 [.pointer a] [.one .bool] w K
def lV (a:gu) (w:θ) (K:Bool->b_):=gI υ 130 [.pointer a] [.one .bool] w K
abbrev He:FuncId:=131
def Rw (a:Value) (b:Addr) (w:θ) (K:b_):=gI υ 131 [a,(.pointer (some b))] [] w K
abbrev xZ:FuncId:=132
def Hy (a:Value) (b:Addr) (w:θ) (K:b_):=gI υ 132 [a,(.pointer (some b))] [] w K
def jA (a:gu) (w:θ) (K:Bool->b_):=gI υ 133 [.pointer a] [.one .bool] w K
def wE (a:gu) (w:θ) (K:Int->Bool->b_):=gI υ 134 [.pointer a] [.one ν,.one .bool] w K
def oZ (a:gu) (b:Int) (w:θ) (K:b_):=gI υ 135 [.pointer a,Β b] [] w K
def xk (a:gu) (w:θ) (K:gG->b_):=gI υ 136 [.pointer a] [.one .slice] w K
def nM (a:gu) (b:Int) (w:θ) (K:Bool->b_):=gI υ 137 [.pointer a,Β b] [.one .bool] w K
def nI (a:gu) (b:ByteArray) (w:θ) (K:Bool->b_):=gI υ 138 [.pointer a,.string b] [.one .bool] w K
def vN (a b c:Int) (w:θ) (K:ByteArray->b_):=gI υ 139 [Β a,(.agg ⟨[Β b,Β c]⟩)] [.one .str] w K
def nX (b:gG) (c:Value) (w:θ) (K:gG->b_):=gI υ 140 [Δ b,c] [.one .slice] w K
abbrev Eu:FuncId:=141
def vM (a:Int) (b:Addr) (w:θ) (K:Bool->b_):=gI υ 141 [Β a,(.pointer (some b))] [.one .bool] w K
def yh (a:gu) (b:Int) (w:θ) (K:Bool->b_):=gI υ 142 [.pointer a,Β b] [.one .bool] w K
def yA (a:gu) (b c d:Int) (w:θ) (K:Bool->b_):=gI υ 143 [.pointer a,(.agg ⟨[Β b,Β c,Β d]⟩)] [.one .bool] w K
def wu (a:gu) (b:Int) (w:θ) (K:Int->b_):=gI υ 144 [.pointer a,Β b] [.one ν] w K
def iY (a b c:Int) (w:θ) (K:Bool->b_):=gI υ 145 [Β a,Β b,Β c] [.one .bool] w K
def AA (a b c d e f g h i j k l m n o p:Int) (w:θ) (K:Bool->b_):=gI υ 146 [.agg ⟨og a b c d e f g h i j k l m n o p⟩] [.one .bool] w K
def Az (a:Int) (w:θ) (K:Bool->b_):=gI υ 147 [Β a] [.one .bool] w K
def BN (a b c d e f g h i j k l m n o p:Int) (q r:gG) (s t u v x y z A B C D E F G H I J:Int) (L:gG) (M N O P Q R S:Int) (w:θ) (K:Bool->b_):=gI υ 148 [.agg ⟨jO a b c d e f g h i j k l m n o p q r s t u v x y z A B C D E F G H I J L⟩,(.agg ⟨[Β M,Β N,Β O,Β P,Β Q,Β R,Β S]⟩)] [.one .bool] w K
abbrev Qh:FuncId:=149
def PK (a b c d e f g h i j k l m n o p:Int) (w:θ) (K:Bool->b_):=gI υ 149 [.agg ⟨og a b c d e f g h i j k l m n o p⟩] [.one .bool] w K
def Gl (a b c d e f g h i j k l m n o p:Int) (w:θ) (K:Bool->b_):=gI υ 150 [.agg ⟨og a b c d e f g h i j k l m n o p⟩] [.one .bool] w K
abbrev Qi:FuncId:=151
def PS (a:Int) (w:θ) (K:Bool->b_):=gI υ 151 [Β a] [.one .bool] w K
abbrev Qj:FuncId:=152
def PU (a b c d e f g:Int) (h:Addr) (w:θ) (K:Bool->b_):=gI υ 152 [(.agg ⟨[Β a,Β b,Β c,Β d,Β e,Β f,Β g]⟩),(.pointer (some h))] [.one .bool] w K
def D9 (a b c d e f g h i j k l m n o p:Int) (q r:gG) (s t u v x y z A B C D E F G H I J:Int) (L:gG) (M N O P Q R S:Int) (w:θ) (K:Bool->b_):=gI υ 153 [.agg ⟨jO a b c d e f g h i j k l m n o p q r s t u v x y z A B C D E F G H I J L⟩,(.agg ⟨[Β M,Β N,Β O,Β P,Β Q,Β R,Β S]⟩)] [.one .bool] w K
def kH (b:gG) (c:Value) (w:θ) (K:Bool->b_):=gI υ 154 [Δ b,c] [.one .bool] w K
def kN (b:gG) (c:Value) (w:θ) (K:Bool->b_):=gI υ 155 [Δ b,c] [.one .bool] w K
def jI (b:gG) (c:Value) (w:θ) (K:Bool->b_):=gI υ 156 [Δ b,c] [.one .bool] w K
def kF (b:gG) (w:θ) (K:gG->b_):=gI υ 157 [Δ b] [.one .slice] w K
abbrev Nr:FuncId:=158
def Bv (a b c d e f g:Int) (w:θ) (K:Int->Int->Int->Int->b_):=gI υ 158 [(.agg ⟨[Β a,Β b,Β c,Β d,Β e,Β f,Β g]⟩)] [.agg [ν,ν,ν,ν]] w K
abbrev Ns:FuncId:=159
def Bz (a b c d e f g:Int) (w:θ) (K:Int->Int->Int->b_):=gI υ 159 [(.agg ⟨[Β a,Β b,Β c,Β d,Β e,Β f,Β g]⟩)] [.agg [ν,ν,ν]] w K
def qH (a:Value) (w:θ) (K:Bool->b_):=gI υ 160 [a] [.one .bool] w K
def mZ (b:gG) (c:Value) (w:θ) (K:Value->b_):=gI υ 161 [Δ b,c] [.one .any] w K
abbrev EW:FuncId:=162
def wJ (a b c d e f g h i j k l m n o p:Int) (w:θ) (K:gy (gy (b_))):=gI υ 162 [.agg ⟨og a b c d e f g h i j k l m n o p⟩] [.agg TF] w K
def vX (a:Value) (w:θ) (K:Bool->b_):=gI υ 163 [a] [.one .bool] w K
def rX (b:gG) (c:Value) (w:θ) (K:Value->b_):=gI υ 164 [Δ b,c] [.one .any] w K
abbrev KU:FuncId:=165
def KO (a:Int) (w:θ) (K:Int->b_):=gI υ 165 [Β a] [.one ν] w K
def pz (a:Value) (w:θ) (K:Bool->b_):=gI υ 166 [a] [.one .bool] w K
def kV (b:gG) (c:Value) (w:θ) (K:Value->b_):=gI υ 167 [Δ b,c] [.one .any] w K
def pF (a:Value) (w:θ) (K:Bool->b_):=gI υ 168 [a] [.one .bool] w K
def kW (b:gG) (c:Value) (w:θ) (K:Value->b_):=gI υ 169 [Δ b,c] [.one .any] w K
abbrev Nu:FuncId:=170
def MQ (a:Int) (b:Addr) (w:θ) (K:Bool->b_):=gI υ 170 [Β a,(.pointer (some b))] [.one .bool] w K
def mX (a:Int) (w:θ) (K:Bool->b_):=gI υ 171 [Β a] [.one .bool] w K
def TW (c:Int) (b:gG) (w:θ) (K:Bool->b_):=gI υ 172 [Β c,Δ b] [.one .bool] w K
def nY (b:gG) (c:Int) (w:θ) (K:Int->b_):=gI υ 173 [Δ b,Β c] [.one ν] w K
def Dk (a:Int) (w:θ) (K:Bool->b_):=gI υ 174 [Β a] [.one .bool] w K
def rD (a b c d:Int) (w:θ) (K:ByteArray->b_):=gI υ 175 [(.agg ⟨[Β a,Β b,Β c,Β d]⟩)] [.one .str] w K
def pY (a:gu) (b:Int) (w:θ) (K:(gu)->Int->b_):=gI υ 176 [.pointer a,Β b] [.one .ptr,.one ν] w K
def D7 (a:gu) (w:θ) (K:Int->b_):=gI υ 177 [.pointer a] [.one ν] w K
def wz (a b:Int) (w:θ) (K:Bool->b_):=gI υ 178 [(.agg ⟨[Β a,Β b]⟩)] [.one .bool] w K
def uq (a:Int) (w:θ) (K:Bool->b_):=gI υ 179 [Β a] [.one .bool] w K
def Bl (a:gu) (w:θ) (K:Int->Bool->b_):=gI υ 180 [.pointer a] [.one ν,.one .bool] w K
def pX (a:gu) (b:ByteArray) (c:Int) (w:θ) (K:Int->b_):=gI υ 181 [.pointer a,.string b,Β c] [.one ν] w K
abbrev Cm:FuncId:=182
def MR (a:Value) (b c:Addr) (w:θ) (K:b_):=gI υ 182 [a,(.pointer (some b)),(.pointer (some c))] [] w K
def oU (a:gu) (b:Int) (w:θ) (K:b_):=gI υ 183 [.pointer a,Β b] [] w K
def zO (b:gG) (w:θ) (K:Bool->b_):=gI υ 184 [Δ b] [.one .bool] w K
def lU (a b:Int) (w:θ) (K:Bool->b_):=gI υ 185 [Β a,Β b] [.one .bool] w K
def PW (a b c d e f g:Int) (h i:Bool) (j k:gG) (w:θ) (K:Int->b_):=gI υ 186 [.agg ⟨gX a b c d e f g h i j k⟩] [.one ν] w K
def zN (b:gG) (w:θ) (K:Bool->b_):=gI υ 187 [Δ b] [.one .bool] w K
def zL (b:gG) (c d:Int) (w:θ) (K:Int->Int->b_):=gI υ 188 [Δ b,Β c,Β d] [.one ν,.one ν] w K
def iD (b:gG) (w:θ) (K:gG->b_):=gI υ 189 [Δ b] [.one .slice] w K
def FU (c:Int) (b:gG) (w:θ) (K:Bool->b_):=gI υ 190 [Β c,Δ b] [.one .bool] w K
def wZ (b:gG) (w:θ) (K:gG->Int->Int->Int->Int->Int->Int->Int->Bool->Bool->gG->gG->Int->Int->b_):=gI υ 191 [Δ b] [.agg ai8,.one ν] w K
def tV (a:gG) (b c d e f g h:Int) (i j:Bool) (k l:gG) (m:Int) (w:θ) (K:Int->Int->Int->Int->b_):=gI υ 192 [.agg ⟨oI a b c d e f g h i j k l m⟩] [.agg [ν,ν,ν],.one ν] w K
def Ad (c d e:Int) (b:gG) (f:Bool) (g h:Int) (w:θ) (K:Int->Int->Int->gG->Int->b_):=gI υ 193 [(.agg ⟨[Β c,Β d,Β e,Δ b]⟩),.bool f,Β g,Β h] [.agg [ν,ν,ν,.slice],.one ν] w K
def Ap (c d e:Int) (b:gG) (w:θ) (K:gG->Int->b_):=gI υ 194 [(.agg ⟨[Β c,Β d,Β e,Δ b]⟩)] [.one .slice,.one ν] w K
def IK (c d:Int) (b:gG) (w:θ) (K:Int->Int->Bool->gG->Int->b_):=gI υ 195 [Β c,Β d,Δ b] [.agg [ν,ν,.bool,.slice],.one ν] w K
def IG (c d:Int) (b:gG) (w:θ) (K:Int->Int->Int->Int->Int->Int->Int->Int->gG->gG->Int->b_):=gI υ 196 [Β c,Β d,Δ b] [.agg akA,.one ν] w K
def Ar (a:Int) (w:θ) (K:Bool->b_):=gI υ 197 [Β a] [.one .bool] w K
def Gm (a:Int) (b:Bool) (c:Int) (w:θ) (K:Int->Bool->b_):=gI υ 198 [Β a,.bool b,Β c] [.one ν,.one .bool] w K
def Ec (a b c d e f g:Int) (h i:Bool) (j k:gG) (w:θ) (K:Int->b_):=gI υ 199 [.agg ⟨gX a b c d e f g h i j k⟩] [.one ν] w K
def vg (a:gu) (w:θ) (K:Int->b_):=gI υ 200 [.pointer a] [.one ν] w K
def uj (a:gu) (b c d:Int) (w:θ) (K:Int->Int->Int->Int->b_):=gI υ 201 [.pointer a,Β b,Β c,Β d] [.agg [ν,ν,ν],.one ν] w K
def jD (b:gG) (c:Value) (w:θ) (K:Int->b_):=gI υ 205 [Δ b,c] [.one ν] w K
abbrev HY:FuncId:=206
def xX (a b c d e:Int) (f:Bool) (w:θ) (K:Bool->b_):=gI υ 206 [(.agg ⟨[Β a,Β b,Β c,Β d,Β e,.bool f]⟩)] [.one .bool] w K
def ni (b:gG) (c:Int) (w:θ) (K:Int->Bool->b_):=gI υ 207 [Δ b,Β c] [.one ν,.one .bool] w K
def qg (b:gG) (d:Int) (c:gG) (w:θ) (K:gG->b_):=gI υ 208 [Δ b,Β d,Δ c] [.one .slice] w K
def qP (a:gu) (b c d:Int) (w:θ) (K:b_):=gI υ 209 [.pointer a,(.agg ⟨[Β b,Β c,Β d]⟩)] [] w K
def sO (a:gu) (b c d:Int) (w:θ) (K:b_):=gI υ 210 [.pointer a,(.agg ⟨[Β b,Β c,Β d]⟩)] [] w K
def jU (b:gG) (c d:Int) (w:θ) (K:Int->b_):=gI υ 211 [Δ b,Β c,Β d] [.one ν] w K
theorem AQ {a b c w K d}:jU a b c w K->(∀e w,K e w->d e w)->jU a b c w d:=gI.mono
def Ed (b:gG) (w:θ) (K:Bool->b_):=gI υ 212 [Δ b] [.one .bool] w K
def BL (b c:gG) (w:θ) (K:Int->Int->Int->Int->Int->Int->Int->Bool->Bool->gG->gG->b_):=gI υ 213 [Δ b,Δ c] [.agg wI] w K
def wK (a b:Int) (w:θ) (K:Int->b_):=gI υ 214 [Β a,Β b] [.one ν] w K
def Dt (a:Int) (w:θ) (K:Int->b_):=gI υ 215 [Β a] [.one ν] w K
def F9 (b:gG) (c:Int) (w:θ) (K:Int->b_):=gI υ 216 [Δ b,Β c] [.one ν] w K
def Gf (a:Int) (w:θ) (K:Int->b_):=gI υ 217 [Β a] [.one ν] w K
def ou (a:gu) (w:θ) (K:Bool->b_):=gI υ 218 [.pointer a] [.one .bool] w K
def jG (a:gu) (b:ByteArray) (w:θ) (K:Int->Bool->b_):=gI υ 219 [.pointer a,.string b] [.one ν,.one .bool] w K
def FP (b:gG) (w:θ) (K:ByteArray->b_):=gI υ 220 [Δ b] [.one .str] w K
def mM (b:gG) (c:Value) (w:θ) (K:Int->b_):=gI υ 221 [Δ b,c] [.one ν] w K
def nN (b:gG) (c d:Int) (w:θ) (K:Int->b_):=gI υ 222 [Δ b,(.agg ⟨[Β c,Β d]⟩)] [.one ν] w K
abbrev t_:FuncId:=223
def Iz (a:Value) (b c:Addr) (w:θ) (K:b_):=gI υ 223 [a,(.pointer (some b)),(.pointer (some c))] [] w K
def jY (b:gG) (c:Value) (w:θ) (K:Int->Int->Int->b_):=gI υ 224 [Δ b,c] [.agg [ν,ν,ν]] w K
abbrev Je:FuncId:=225
def zQ (a b c d e f:Int) (w:θ) (K:Int->b_):=gI υ 225 [(.agg ⟨[Β a,Β b,Β c]⟩),(.agg ⟨[Β d,Β e,Β f]⟩)] [.one ν] w K
def sG (a b:Int) (w:θ) (K:Int->b_):=gI υ 226 [Β a,Β b] [.one ν] w K
def zA (a b:Int) (w:θ) (K:Int->b_):=gI υ 227 [Β a,Β b] [.one ν] w K
def oD (a:gu) (b:Int) (w:θ) (K:(gu)->b_):=gI υ 228 [.pointer a,Β b] [.one .ptr] w K
def iR (b:gG) (c:Value) (w:θ) (K:gG->b_):=gI υ 229 [Δ b,c] [.one .slice] w K
def j_ (b:gG) (w:θ) (K:gG->b_):=gI υ 230 [Δ b] [.one .slice] w K
abbrev KX:FuncId:=231
def Ai (a b c:Int) (d:Addr) (w:θ) (K:Bool->b_):=gI υ 231 [(.agg ⟨[Β a,Β b,Β c]⟩),(.pointer (some d))] [.one .bool] w K
abbrev KY:FuncId:=232
def Aj (a b c:Int) (d:Addr) (w:θ) (K:Bool->b_):=gI υ 232 [(.agg ⟨[Β a,Β b,Β c]⟩),(.pointer (some d))] [.one .bool] w K
def jk (b:gG) (c:Value) (w:θ) (K:b_):=gI υ 233 [Δ b,c] [] w K
abbrev pU:FuncId:=234
def vC (a b c d e f:Int) (w:θ) (K:Int->b_):=gI υ 234 [(.agg ⟨[Β a,Β b,Β c]⟩),(.agg ⟨[Β d,Β e,Β f]⟩)] [.one ν] w K
def sH (a:gu) (b:Int) (w:θ) (K:Value->b_):=gI υ 235 [.pointer a,Β b] [.one .any] w K
def oP (b:gG) (c d:Int) (w:θ) (K:gG->b_):=gI υ 236 [Δ b,Β c,Β d] [.one .slice] w K
def ku (b:gG) (c:Value) (w:θ) (K:Int->b_):=gI υ 237 [Δ b,c] [.one ν] w K
def Gj (a b c d e f g h i j k l m n o p:Int) (q r:gG) (s t u v x y z A B C D E F G H I J:Int) (L:gG) (M:Int) (w:θ) (K:Bool->b_):=gI υ 238 [.agg ⟨jO a b c d e f g h i j k l m n o p q r s t u v x y z A B C D E F G H I J L⟩,Β M] [.one .bool] w K
def BD (a:Int) (w:θ) (K:Bool->b_):=gI υ 239 [Β a] [.one .bool] w K
def kX (b:gG) (c:Value) (w:θ) (K:Int->b_):=gI υ 240 [Δ b,c] [.one ν] w K
def jX (b:gG) (c:Value) (w:θ) (K:Int->b_):=gI υ 241 [Δ b,c] [.one ν] w K
abbrev xQ:FuncId:=242
def xP (a:Value) (b c:Addr) (w:θ) (K:b_):=gI υ 242 [a,(.pointer (some b)),(.pointer (some c))] [] w K
abbrev EU:FuncId:=243
def EM (a:Value) (b c:Addr) (w:θ) (K:b_):=gI υ 243 [a,(.pointer (some b)),(.pointer (some c))] [] w K
abbrev vF:FuncId:=244
def uT (a:Value) (b c:Addr) (w:θ) (K:b_):=gI υ 244 [a,(.pointer (some b)),(.pointer (some c))] [] w K
abbrev vG:FuncId:=245
def uU (a:Value) (b c:Addr) (w:θ) (K:b_):=gI υ 245 [a,(.pointer (some b)),(.pointer (some c))] [] w K
def yu (a b c:Int) (w:θ) (K:Bool->b_):=gI υ 246 [(.agg ⟨[Β a,Β b]⟩),Β c] [.one .bool] w K
def wU (a:gu) (w:θ) (K:b_):=gI υ 247 [.pointer a] [] w K
def tY (a:gu) (b:Int) (w:θ) (K:Bool->b_):=gI υ 248 [.pointer a,Β b] [.one .bool] w K
def sK (b:gG) (c:Bool) (w:θ) (K:Bool->b_):=gI υ 249 [Δ b,.bool c] [.one .bool] w K
def FN (a:Int) (w:θ) (K:Bool->b_):=gI υ 250 [Β a] [.one .bool] w K
def J5 (a b c d e f g:Int) (h i:Bool) (j k:gG) (w:θ) (K:Int->b_):=gI υ 251 [.agg ⟨gX a b c d e f g h i j k⟩] [.one ν] w K
def J3 (b:gG) (w:θ) (K:Int->b_):=gI υ 252 [Δ b] [.one ν] w K
def Dj (b:gG) (c d:Int) (w:θ) (K:gG->Int->b_):=gI υ 253 [Δ b,Β c,Β d] [.one .slice,.one ν] w K
def IL (b:gG) (w:θ) (K:Int->Int->Int->Int->Int->Int->Int->Bool->Bool->gG->gG->Int->b_):=gI υ 254 [Δ b] [.agg wI,.one ν] w K
def jZ (a:gG) (b c d e f g h:Int) (i j:Bool) (k l:gG) (m n:Int) (w:θ) (K:Int->b_):=gI υ 255 [.agg ⟨oI a b c d e f g h i j k l m⟩,Β n] [.one ν] w K
def TY (b:gG) (c d:Int) (w:θ) (K:gG->Int->b_):=gI υ 256 [Δ b,Β c,Β d] [.one .slice,.one ν] w K
def Oi (b:gG) (c d:Int) (w:θ) (K:gG->Int->b_):=gI υ 257 [Δ b,Β c,Β d] [.one .slice,.one ν] w K
def FQ (c d e:Int) (b:gG) (w:θ) (K:Int->b_):=gI υ 258 [(.agg ⟨[Β c,Β d,Β e,Δ b]⟩)] [.one ν] w K
def zM (b:gG) (c d e:Int) (w:θ) (K:gG->Int->b_):=gI υ 259 [Δ b,Β c,Β d,Β e] [.one .slice,.one ν] w K
def IB (b:gG) (w:θ) (K:Int->b_):=gI υ 260 [Δ b] [.one ν] w K
def FM (b:gG) (w:θ) (K:Value->b_):=gI υ 261 [Δ b] [.one .any] w K
def uz (a b c d:Int) (w:θ) (K:gG->b_):=gI υ 262 [Β a,Β b,Β c,Β d] [.one .slice] w K
abbrev WZ:FuncId:=263
def WO (a b:Int) (c:Addr) (w:θ) (K:Int->b_):=gI υ 263 [Β a,Β b,(.pointer (some c))] [.one ν] w K
def BO (a:Int) (w:θ) (K:Bool->b_):=gI υ 264 [Β a] [.one .bool] w K
def Eo (a:Int) (b:Bool) (w:θ) (K:Int->b_):=gI υ 265 [Β a,.bool b] [.one ν] w K
def BP (a:Int) (b:Bool) (w:θ) (K:Int->b_):=gI υ 266 [Β a,.bool b] [.one ν] w K
def wY (a:gu) (b c:Int) (w:θ) (K:Value->b_):=gI υ 267 [.pointer a,Β b,Β c] [.one .any] w K
def Bo (a b:Int) (w:θ) (K:Bool->b_):=gI υ 268 [Β a,Β b] [.one .bool] w K
def qN (a:Int) (w:θ) (K:Bool->b_):=gI υ 269 [Β a] [.one .bool] w K
def En (b:gG) (c:Int) (w:θ) (K:b_):=gI υ 271 [Δ b,Β c] [] w K
abbrev Jf:FuncId:=272
def zS (a b c:Int) (d:Addr) (w:θ) (K:Bool->b_):=gI υ 272 [(.agg ⟨[Β a,Β b,Β c]⟩),(.pointer (some d))] [.one .bool] w K
def Iy (b:gG) (c d:Int) (w:θ) (K:Int->Int->b_):=gI υ 273 [Δ b,Β c,Β d] [.one ν,.one ν] w K
def Iq (a:ByteArray) (b:Int) (w:θ) (K:Int->b_):=gI υ 274 [.string a,Β b] [.one ν] w K
def nD (a:Int) (w:θ) (K:Bool->b_):=gI υ 275 [Β a] [.one .bool] w K
def jM (b:gG) (c:Value) (w:θ) (K:Int->b_):=gI υ 276 [Δ b,c] [.one ν] w K
def ji (b:gG) (c d e:Int) (f:Value) (w:θ) (K:b_):=gI υ 277 [Δ b,Β c,Β d,Β e,f] [] w K
def Aa (a:Int) (w:θ) (K:Int->b_):=gI υ 278 [.int .u64 a] [.one ν] w K
abbrev Ak:FuncId:=279
def KP (a:Value) (b c:Addr) (w:θ) (K:b_):=gI υ 279 [a,(.pointer (some b)),(.pointer (some c))] [] w K
def jP (b:gG) (c:Value) (w:θ) (K:gG->b_):=gI υ 280 [Δ b,c] [.one .slice] w K
def Di (a b:Int) (w:θ) (K:Value->b_):=gI υ 281 [Β a,Β b] [.one .any] w K
def vO (b:gG) (c:Bool) (w:θ) (K:Int->b_):=gI υ 282 [Δ b,.bool c] [.one ν] w K
def Gq (a:Int) (w:θ) (K:Int->b_):=gI υ 283 [Β a] [.one ν] w K
def Dv (b:gG) (w:θ) (K:Int->b_):=gI υ 284 [Δ b] [.one ν] w K
def PX (b:gG) (c:Bool) (w:θ) (K:gG->Int->Int->Int->b_):=gI υ 285 [Δ b,.bool c] [.agg [.slice,ν,ν],.one ν] w K
def wC (b:gG) (c d:Int) (w:θ) (K:Int->Int->Int->Int->Int->Int->Int->Bool->Bool->gG->gG->b_):=gI υ 286 [(.agg ⟨[Δ b,Β c,Β d]⟩)] [.agg wI] w K
def Dq (b:gG) (c d:Int) (w:θ) (K:gG->Int->Int->Int->Int->Int->Int->Int->Bool->Bool->gG->gG->Int->Int->b_):=gI υ 287 [Δ b,Β c,Β d] [.agg ai8,.one ν] w K
def pO (a:gG) (b c d e f g h:Int) (i j:Bool) (k l:gG) (m n o p q:Int) (w:θ) (K:gG->b_):=gI υ 288 [.agg ⟨oI a b c d e f g h i j k l m⟩,Β n,Β o,Β p,Β q] [.one .slice] w K
def rZ (a:Value) (w:θ) (K:gG->b_):=gI υ 289 [a] [.one .slice] w K
abbrev Zu:FuncId:=290
def YT (a:Value) (b:Addr) (w:θ) (K:b_):=gI υ 290 [a,(.pointer (some b))] [] w K
def AZ (a b:Int) (w:θ) (K:Int->b_):=gI υ 291 [Β a,Β b] [.one ν] w K
def mF (a b:Int) (c:Bool) (w:θ) (K:Int->b_):=gI υ 292 [(.agg ⟨[Β a,Β b]⟩),.bool c] [.one ν] w K
abbrev KW:FuncId:=293
def KQ (a:Value) (b c d:Addr) (w:θ) (K:b_):=gI υ 293 [a,(.pointer (some b)),(.pointer (some c)),(.pointer (some d))] [] w K
def Ac (a b c:Int) (w:θ) (K:Bool->b_):=gI υ 294 [(.agg ⟨[Β a,Β b]⟩),Β c] [.one .bool] w K
def um (a:gu) (b c:Int) (w:θ) (K:gG->b_):=gI υ 295 [.pointer a,Β b,Β c] [.one .slice] w K
def jQ (b:gG) (c d:Int) (e:Value) (w:θ) (K:b_):=gI υ 297 [Δ b,Β c,Β d,e] [] w K
def vw (b:gG) (c d:Int) (e:Value) (w:θ) (K:b_):=gI υ 298 [Δ b,Β c,Β d,e] [] w K
def rG (b:gG) (c d:Int) (e:Value) (w:θ) (K:b_):=gI υ 299 [Δ b,Β c,Β d,e] [] w K
def sU (b:gG) (c d:Int) (e:Value) (w:θ) (K:Int->Int->b_):=gI υ 300 [Δ b,Β c,Β d,e] [.one ν,.one ν] w K
def r_ (b:gG) (c d:Int) (e:Value) (w:θ) (K:b_):=gI υ 301 [Δ b,Β c,Β d,e] [] w K
def oN (b:gG) (c d:Int) (e:Value) (w:θ) (K:Bool->b_):=gI υ 302 [Δ b,Β c,Β d,e] [.one .bool] w K
def qO (b:gG) (c d e:Int) (f:Value) (w:θ) (K:Int->b_):=gI υ 303 [Δ b,Β c,Β d,Β e,f] [.one ν] w K
def uy (b:gG) (c d e:Int) (f:Value) (w:θ) (K:Int->Bool->b_):=gI υ 304 [Δ b,Β c,Β d,Β e,f] [.one ν,.one .bool] w K
def wV (a:Int) (w:θ) (K:Int->b_):=gI υ 306 [.int .u64 a] [.one ν] w K
abbrev WX:FuncId:=307
def WJ (a:Value) (b c:Addr) (w:θ) (K:b_):=gI υ 307 [a,(.pointer (some b)),(.pointer (some c))] [] w K
def iq (b:gG) (c d e f:Int) (w:θ) (K:Int->b_):=gI υ 308 [(.agg ⟨[Δ b,Β c,Β d]⟩),Β e,Β f] [.one ν] w K
theorem uF {a b c d e w K f}:iq a b c d e w K->(∀g w,K g w->f g w)->iq a b c d e w f:=gI.mono
def vW (b:gG) (c d e:Int) (w:θ) (K:Int->gG->gG->b_):=gI υ 309 [Δ b,Β c,Β d,Β e] [.agg [ν,.slice,.slice]] w K
def w_ (b:gG) (d:Int) (c:gG) (w:θ) (K:gG->b_):=gI υ 310 [Δ b,Β d,Δ c] [.one .slice] w K
def tX (a:gG) (b c d e f g h:Int) (i j:Bool) (k l:gG) (m:Int) (w:θ) (K:Int->b_):=gI υ 311 [.agg ⟨oI a b c d e f g h i j k l m⟩] [.one ν] w K
def tK (a b c d:Int) (w:θ) (K:Value->b_):=gI υ 312 [(.agg ⟨[Β a,Β b]⟩),Β c,Β d] [.one .any] w K
def gW (a b c d:Int) (w:θ) (K:Int->Int->b_):=gI υ 313 [(.agg ⟨[Β a,Β b]⟩),(.agg ⟨[Β c,Β d]⟩)] [.agg [ν,ν]] w K
theorem Om {a b c d w K e}:gW a b c d w K->(∀f g w,K f g w->e f g w)->gW a b c d w e:=gI.mono
def lI (a:Int) (w:θ) (K:Int->Int->b_):=gI υ 314 [Β a] [.agg [ν,ν]] w K
theorem Ep {a w K b}:lI a w K->(∀c d w,K c d w->b c d w)->lI a w b:=gI.mono
def iU (a:Int) (w:θ) (K:Int->Int->b_):=gI υ 315 [Β a] [.agg [ν,ν]] w K
theorem WQ {a w K b}:iU a w K->(∀c d w,K c d w->b c d w)->iU a w b:=gI.mono
def uo (a b c:Int) (w:θ) (K:Int->b_):=gI υ 316 [(.agg ⟨[Β a,Β b]⟩),Β c] [.one ν] w K
def Gn (d:Int) (b c:gG) (w:θ) (K:Int->b_):=gI υ 323 [Β d,Δ b,Δ c] [.one ν] w K
abbrev WY:FuncId:=324
def WL (a:Value) (b c d:Addr) (w:θ) (K:b_):=gI υ 324 [a,(.pointer (some b)),(.pointer (some c)),(.pointer (some d))] [] w K
theorem O1 {R S T U V W X Y Z A9 ab ac ad ae af ag ah ai aj ak al am an ao ap aq ar au av aw ax ay az aA aB aC A a2 B k e w K}:gV (EO R S T U V W X Y Z A9 ab ac ad ae af ag ah ai aj ak al am an ao ap aq ar au av aw ax ay az aA aB aC A a2 B k e w K)
 (Ε w (jO R S T U V W X Y Z A9 ab ac ad ae af ag ah ai aj ak al am an ao ap aq ar au av aw ax ay az aA aB aC) 28 λl w7=>iP (Value.int .u16 B)=true/\
 Ε w7 [.int .u16 B] 30 λf w9=>let C:Bool->b_:=λbq D=>((cond bq (lF D λbr bs=>K br bs) (tC D l λbt bu bv bw bx bz bA bB bC bD bE bF bG bH bI bJ bK bL bM bN bO bP bQ bR bS bT bU bV bW bX bY bZ b0 b1 b2 b3=>FW bt bu bv bw bx bz bA bB bC bD bE bF bG bH bI bJ bK bL bM bN bO bP bQ bR bS bT bU bV bW bX bY bZ b0 b1 b2 b3 D λa b4 aF=>let aG:Bool->Prop:=λb5=>((cond b5 (K false aF) (FV a A aF λaH=>Ld .slice aH (l.add 16) λaI=>(aI.len:Int)≠0/\
 Ε aH [Β 0] 3 λb b6=>St b6 b (Β (Int.tmod (ο.wrap a2) (aI.len:Int))) λp=>let q:Addr->Int->b_:=λg r h=>((cond (r !=0) (let s:Bool->b_:=λb7 b8=>(K b7 b8)
 (cond (r==5) (lF h λb9 ca=>s b9 ca) (cond (r==6) (lF h λcb cc=>s cb cc) (cond (r==7) (lF h λcd ce=>s cd ce) (s false h))))) (iG h g λcf cg ch ci cj ck cl cm cn co cp=>yZ cf cg ch ci cj ck cl cm cn co cp h λE cq i=>let aJ:Bool->Prop:=λcr=>((cond cr (K false i) (let F:Addr->b_:=λaK aL=>(iG aL aK λcs ct cu cv cw cx cy cz cA cB cC=>kD a cs ct cu cv cw cx cy cz cA cB cC aL λcD cE cF cG cH cI cJ cK cL cM cN cO cP cQ=>Ε cQ ξ 41 λG cR=>iE (gX cE cF cG cH cI cJ cK cL cM cN cO) cR G 0 λd=>let t:Bool->b_:=λcS aM=>((cond cS (K false aM) (vY a aM λ _ cT _ _ _ _ _ cU=>jv cT (Value.func (.func 17) #[] #[(Value.pointer (some b)),(Value.pointer (some f))]) cU λcV aN=>let aO:Bool->b_:=λcW H=>((cond cW (lF H λcX cY=>K cX cY) (f_ H.drew (l.add 30) λaP=>sJ a H.drew λcZ aQ=>Ci aQ l 30 aP<|mJ a (ο.wrap (cZ+aP)) aQ λ _ aR=>iG aR aK λc0 c1 c2 c3 c4 c5 c6 c7 c8 c9 da=>kD a c0 c1 c2 c3 c4 c5 c6 c7 c8 c9 da aR λ _ db dc dd de df dg dh di dj dk dl dm dn=>Ε dn ξ 41 λdp dq=>iE (gX db dc dd de df dg dh di dj dk dl) dq dp 0 λI=>let J:Bool->b_:=λdr ds=>(K dr ds)
 (cond (dm==9) (iG I G λdt du dv dw dx dy dz dA dB dC dD=>BQ dt du dv dw dx dy dz dA dB dC dD I λdE aS=>(cond dE (lF aS λdF dG=>J dF dG) (J false aS))) (J false I)))))
 (cond cV (aO true aN) (sJ a aN λdH dI=>aO (decide (dH>1099509530624)) dI)))))
 (cond (cP !=0) (t true d) (f_ d b λdJ=>(cond (cD !=dJ) (t true d) (f_ d (G.add 6) λdK=>(cond (dK !=167772161) (t true d) (f_ d (g.add 5) λdL=>wW a dL d λdM dN=>t (!dM) dN)))))))
 f_ i.drew (g.add 5) λm=>iK E 1 20 λu=>Ld (.int .u8) i.drew u λn=>iK E 1 21 λv=>Ld (.int .u8) i.drew v λo=>(jC 134744072 m (ο.wrap k) (ο.wrap ((ο.wrap ((ο.wrap n) * 256))+(ο.wrap o))) 9 e i.drew λaT aU=>(jB aT aU λdO dP dQ dR dS dT dU dV dW dX dY dZ=>Ε dZ ξ 41 λaV x=>Cw x v (.int .u8 o)<|Cw x u (.int .u8 n)<|Ci x g 5 m<|iE (gX dO dP dQ dR dS dT dU dV dW dX dY) x aV 0 λd0=>F aV d0)/\
 (Ε aU ξ 41 λaW y=>Cw y v (.int .u8 o)<|Cw y u (.int .u8 n)<|Ci y g 5 m<|jB aT y λd1 d2 d3 d4 d5 d6 d7 d8 d9 ea eb ec=>iE (gX d1 d2 d3 d4 d5 d6 d7 d8 d9 ea eb) ec aW 0 λed=>F aW ed))/\
 (Ε i.drew ξ 41 λaX z=>Cw z v (.int .u8 o)<|Cw z u (.int .u8 n)<|Ci z g 5 m<|jC 134744072 m (ο.wrap k) (ο.wrap ((ο.wrap ((ο.wrap n) * 256))+(ο.wrap o))) 9 e z λee ef=>jB ee ef λeg eh ei ej ek el em en eo ep eq er=>iE (gX eg eh ei ej ek el em en eo ep eq) er aX 0 λes=>F aX es))))
 (cond (cq !=0) (aJ true) (aJ (decide ((E.len:Int)<28)))))))
 f_ p.drew b λc=>Ld (.int .u16) p.drew f λj=>(jC 167772161 134744072 (ο.wrap j) (ο.wrap k) 9 e p.drew λaY L=>Cw L b (Β c)<|(jB aY L λaZ a0 a6 a7 a9 ba bb bc bd be bf M=>Cw M b (Β c)<|(jH a c aZ a0 a6 a7 a9 ba bb bc bd be bf M λet eu ev ew ex ey ez eA eB eC eD eE eF=>Ε eF ξ 41 λbg N=>Cw N f (.int .u16 j)<|Cw N b (Β c)<|iE (gX et eu ev ew ex ey ez eA eB eC eD) N bg 0 λeG=>q bg eE eG)/\
 (Ε M ξ 41 λbh O=>Cw O f (.int .u16 j)<|Cw O b (Β c)<|jH a c aZ a0 a6 a7 a9 ba bb bc bd be bf O λeH eI eJ eK eL eM eN eO eP eQ eR eS eT=>iE (gX eH eI eJ eK eL eM eN eO eP eQ eR) eT bh 0 λeU=>q bh eS eU))/\
 (Ε L ξ 41 λbi P=>Cw P f (.int .u16 j)<|Cw P b (Β c)<|jB aY P λeV eW eX eY eZ e0 e1 e2 e3 e4 e5 bj=>Cw bj b (Β c)<|jH a c eV eW eX eY eZ e0 e1 e2 e3 e4 e5 bj λe6 e7 e8 e9 fa fb fc fd fe ff fg fh fi=>iE (gX e6 e7 e8 e9 fa fb fc fd fe ff fg) fi bi 0 λfj=>q bi fh fj))/\
 (Ε p.drew ξ 41 λbk Q=>Cw Q f (.int .u16 j)<|Cw Q b (Β c)<|jC 167772161 134744072 (ο.wrap j) (ο.wrap k) 9 e Q λfk bl=>Cw bl b (Β c)<|jB fk bl λfl fm fn fo fp fq fr fs ft fu fv bm=>Cw bm b (Β c)<|jH a c fl fm fn fo fp fq fr fs ft fu fv bm λfw fx fy fz fA fB fC fD fE fF fG fH fI=>iE (gX fw fx fy fz fA fB fC fD fE fF fG) fI bk 0 λfJ=>q bk fH fJ))))
 (cond (Option.isNone a) (aG true) (aG (b4 !=0))))))
 tC w9 l λfK fL fM fN fO fP fQ fR fS fT fU fV fW fX fY fZ f0 f1 f2 f3 f4 f5 f6 f7 f8 f9 ga gb gc gd ge gf gg gh gi gj=>Ea fK fL fM fN fO fP fQ fR fS fT fU fV fW fX fY fZ f0 f1 f2 f3 f4 f5 f6 f7 f8 f9 ga gb gc gd ge gf gg gh gi gj w9 λgk bn=>(cond (!gk) (C true bn) (Ir A bn λgl bo=>(cond (!gl) (C true bo) (C (decide ((e.len:Int)>500)) bo))))):=χ Tryz.func3
theorem U9 {b c d e f g h i j k l m n o p q r s t u v x y z A B C D E F G H I J L M w K}:gV (Ea b c d e f g h i j k l m n o p q r s t u v x y z A B C D E F G H I J L M w K)
 (Ε w (jO b c d e f g h i j k l m n o p q r s t u v x y z A B C D E F G H I J L M) 28 λN O=>let P:Bool->b_:=λQ R=>(K Q R)
 tC O N λS T U V W X Y Z aa ab ac ad ae af ag ah ai aj ak al am an ao ap aq ar au av aw ax ay az aA aB aC aD=>Eb S T U V W X Y Z aa ab ac ad ae af ag ah ai aj ak al am an ao ap aq ar au av aw ax ay az aA aB aC aD O λaE a=>(cond aE (tC a N λaF aG aH aI aJ aK aL aM aN aO aP aQ aR aS aT aU aV aW aX aY aZ a0 a1 a2 a4 a5 a6 a7 a8 a9 ba bb bc bd be bf=>Eh aF aG aH aI aJ aK aL aM aN aO aP aQ aR aS aT aU aV aW aX aY aZ a0 a1 a2 a4 a5 a6 a7 a8 a9 ba bb bc bd be bf a λbg bh=>P (bg==0) bh) (P false a))):=χ Tryz.func4
theorem ZE {e w K}:gV (Ir e w K)
 (iQ (S:=Int×Int×Unit) (λa f g=>(cond (decide (a.2.1<(e.len:Int))) (iK e 22 a.2.1 λh=>TG f h λi j k l m n o p q r s t u v x y z A B C D E=>Ε f (Ob 0 0 0 ⟨none,0,0⟩ 0 0 0 0 0 0 0 false false ⟨none,0,0⟩ ⟨none,0,0⟩ 0 0 0 0 0 0 0) 72 λc F=>iE (Ob i j k l m n o p q r s t u v x y z A B C D E) F c 0 λb=>let d:Bool->Prop:=λG=>((cond G (K false b) (Ld .slice b (c.add 3) λH=>g ((ο.wrap (a.1+(H.len:Int))),(ο.wrap (a.2.1+1)),()) b)))
 (cond (decide (a.2.1>=40)) (d true) (Ld .slice b (c.add 3) λI=>(cond (decide ((I.len:Int)>1500)) (d true) (Ld .slice b ((c.add 4).add 10) λJ=>(cond (decide ((J.len:Int)>1500)) (d true) (Ld .slice b ((c.add 4).add 9) λL=>d (decide ((L.len:Int)>100))))))))) (K (decide (a.1<=20000)) f))) (0,0,()) w):=χ Tryz.func5 (gB (gB (.seq (gB (.blk (.loop [(3,ν),(8,ν)] .leaf))) .leaf)))
theorem aaz {k l m n o p q r s t u v x y z A B C D E F G H I J L M N O P Q R T U V W w K}:gV (FW k l m n o p q r s t u v x y z A B C D E F G H I J L M N O P Q R T U V W w K)
 (Ε w (jO k l m n o p q r s t u v x y z A B C D E F G H I J L M N O P Q R T U V W) 28 λa X=>tC X a λx4 x5 x6 x7 x8 x9 ak al am an ao ap aq ar au av aw ax ay az aA aB aC aD aE aF aG aH aI aJ aK aL aM aN aO aP=>Bq x4 x5 x6 x7 x8 x9 ak al am an ao ap aq ar au av aw ax ay az aA aB aC aD aE aF aG aH aI aJ aK aL aM aN aO aP X λY h=>(cond (Y !=0) (K none Y h) (tC h a λaQ aR aS aT aU aV aW aX aY aZ a0 a1 a2 a4 a5 a6 a7 a8 a9 ba bb bc bd be bf bg bh bi bj bk bl bm bn bo bp bq=>Ε h (akH none none none none none aQ aR aS aT aU aV aW aX aY aZ a0 a1 a2 a4 a5 a6 a7 a8 a9 ba bb bc bd be bf bg bh bi bj bk bl bm bn bo bp bq 0) 82 λe g=>Ld .slice g (a.add 17) λbr=>f_ g (a.add 18) λbs=>f_ g (a.add 19) λbt=>MS br bs bt g λbu _ bv=>Pt (some e) λbw=>St bv bw (.pointer bu) λi=>Ld .slice i (a.add 16) λbx=>f_ i (a.add 20) λbz=>Iw (bx.len:Int) bz i λbA _ bB=>Pt (some e) λbC=>St bB (bC.add 1) (.pointer bA) λZ=>f_ Z (a.add 21) λbD=>MP bD Z λbE _ bF=>Pt (some e) λbG=>St bF (bG.add 2) (.pointer bE) λaa=>f_ aa (a.add 22) λbH=>Em bH aa λbI _ bJ=>Pt (some e) λbK=>St bJ (bK.add 3) (.pointer bI) λab=>f_ ab (a.add 22) λbL=>IQ bL ab λbM _ bN=>Pt (some e) λbO=>St bN (bO.add 4) (.pointer bM) λac=>Ld .slice ac (a.add 35) λad=>iQ (S:=Int×Unit) (λj b bP=>(cond (decide (j.1<(ad.len:Int))) (iK ad 7 j.1 λf=>f_ b (f.add 0) λbQ=>f_ b (f.add 1) λbR=>f_ b (f.add 2) λbS=>f_ b (f.add 3) λbT=>f_ b (f.add 4) λbU=>f_ b (f.add 5) λbV=>f_ b (f.add 6) λbW=>Ε b anv 70 λc bX=>iE [Β bQ,Β bR,Β bS,Β bT,Β bU,Β bV,Β bW] bX c 0 λd=>f_ d (c.add 0) λbY=>f_ d (c.add 1) λbZ=>f_ d (c.add 2) λb0=>f_ d (c.add 3) λb1=>f_ d (c.add 4) λb2=>f_ d (c.add 5) λb3=>f_ d (c.add 6) λb4=>oQ (some e) bY bZ b0 b1 b2 b3 b4 d λ _ b5=>bP ((ο.wrap (j.1+1)),()) b5) (K (some e) 0 b))) (0,()) ac))):=χ Tryz.func7 (gB (gB (gB (gB (gB (gB (gB (gB (.seq (gB (.blk (.loop [(76,ν)] .leaf))) .leaf)))))))))
theorem Xh {d g w K}:gV (FV d g w K)
 (iQ (S:=Int×Unit) (λh i m=>(cond (decide (h.1<(g.len:Int))) (let e:b_:=λn=>(m ((ο.wrap (h.1+1)),()) n)
 iK g 22 h.1 λo=>TG i o λp q r s t u v x y z A B C D E F G H I J L M=>Ε i (Ob 0 0 0 ⟨none,0,0⟩ 0 0 0 0 0 0 0 false false ⟨none,0,0⟩ ⟨none,0,0⟩ 0 0 0 0 0 0 0) 72 λb N=>iE (Ob p q r s t u v x y z A B C D E F G H I J L M) N b 0 λl=>TG l b λO P Q R T U V W X Y Z aa ab ac ad ae af ag ah ai aj ak=>yw O P Q R T U V W X Y Z aa ab ac ad ae af ag ah ai aj ak l λal am an ao ap aq ar au av aw ax ay=>Ε ay ξ 41 λj az=>iE (gX al am an ao ap aq ar au av aw ax) az j 0 λa=>f_ a b λc=>let f:Bool->Prop:=λaA=>((cond aA (f_ a (b.add 1) λaB=>iG a j λaC aD aE aF aG aH aI aJ aK aL aM=>jH d aB aC aD aE aF aG aH aI aJ aK aL aM a λ _ _ _ _ _ _ _ _ _ _ _ _ aN=>e aN) (let k:Bool->Prop:=λaO=>((cond aO (iG a j λaP aQ aR aS aT aU aV aW aX aY aZ=>kD d aP aQ aR aS aT aU aV aW aX aY aZ a λ _ _ _ _ _ _ _ _ _ _ _ _ _ a2=>e a2) (cond (c==7) (f_ a (b.add 2) λa3=>mJ d a3 a λ _ a4=>e a4) (cond (c==8) (f_ a (b.add 1) λa5=>uV d a5 a λ _ a6=>e a6) (cond (c==9) (f_ a ((b.add 15).add 0) λa7=>f_ a ((b.add 15).add 1) λa9=>f_ a ((b.add 15).add 2) λba=>f_ a ((b.add 15).add 3) λbb=>f_ a ((b.add 15).add 4) λbc=>f_ a ((b.add 15).add 5) λbd=>f_ a ((b.add 15).add 6) λbe=>oQ d a7 a9 ba bb bc bd be a λ _ bf=>e bf) (f_ a ((b.add 15).add 0) λbg=>f_ a ((b.add 15).add 1) λbh=>f_ a ((b.add 15).add 2) λbi=>f_ a ((b.add 15).add 3) λbj=>uX d bg bh bi bj a λ _ bk=>e bk))))))
 (cond (c==4) (k (c==4)) (cond (c==5) (k (c==5)) (k (c==6)))))))
 (cond (c==0) (f (c==0)) (cond (c==1) (f (c==1)) (cond (c==2) (f (c==2)) (f (c==3)))))) (K i))) (0,()) w):=χ Tryz.func8 (gB (.blk (.loop [(9,ν)] .leaf)))
theorem NI {i L C0 C1 C2 C3 C4 C5 C6 C7 C8 C9 ak w K}:gV (jH i L C0 C1 C2 C3 C4 C5 C6 C7 C8 C9 ak w K)
 (Ε w (gX C0 C1 C2 C3 C4 C5 C6 C7 C8 C9 ak) 41 λc w4=>Ε w4 ξ 41 λg w6=>let Q:Bool->b_:=λj9 R=>((cond j9 (iE ξ R g 0 λal=>iG al g λaI aJ aK aL aM aN aO aP aQ aR aS=>K aI aJ aK aL aM aN aO aP aQ aR aS 1 al) (iG R c λaT aU aV aW aX aY aZ a2 a3 a4 a6=>Au aT aU aV aW aX aY aZ a2 a3 a4 a6 R λa8 a9 ba S bb bc=>Ε bc ano 97 λE bd=>iE [Β a8,Β a9,Β ba,Δ S] bd E 0 λj=>(cond bb (iG j c λbe bf bg bh bi bj bk bl bm bn bo=>f_ j (E.add 0) λbp=>f_ j (E.add 1) λbq=>f_ j (E.add 2) λbr=>Ld .slice j (E.add 3) λbs=>qI i L be bf bg bh bi bj bk bl bm bn bo bp bq br bs j λbt bu bv bw bx bz bA bB bC bD bE bF bG=>iE (gX bt bu bv bw bx bz bA bB bC bD bE) bG g 0 λam=>iG am g λbH bI bJ bK bL bM bN bO bP bQ bR=>K bH bI bJ bK bL bM bN bO bP bQ bR bF am) (iG j c λbS bT bU bV bW bX bY bZ b0 b1 b2=>FZ bS bT bU bV bW bX bY bZ b0 b1 b2 j λb3 b4 b5 an b6=>Ε b6 anm 102 λd b7=>iE [Β b3,Β b4,Β b5] b7 d 0 λF=>(cond (an !=0) (FX an F λb8 b9=>iE ξ b9 g 0 λao=>iG ao g λca cb cc cd ce cf cg ch ci cj ck=>K ca cb cc cd ce cf cg ch ci cj ck b8 ao) (f_ F d λcl=>f_ F (c.add 5) λcm=>f_ F (d.add 1) λcn=>Ε F anw 54 λb co=>iE [Β L,Β cl,Β cm,Β cn] co b 0 λh=>let T:Addr->Value->b_:=λf cp cq=>(Ε cq [Β 0] 115 λU cr=>Ip cp (Value.iface 117 (Value.pointer (some U))) cr λcs e=>(cond cs (f_ e.drew U λap=>iE ξ e.drew g 0 λV=>Cw V U (Β ap)<|iG V g λct cu cv cw cx cy cz cA cB cC cD=>K ct cu cv cw cx cy cz cA cB cC cD ap V) (f_ e (f.add 0) λcE=>Ld .bool e (f.add 1) λcF=>f_ e (f.add 2) λcG=>Ld .bool e (f.add 3) λcH=>f_ e (f.add 4) λcI=>f_ e (f.add 5) λcJ=>f_ e (f.add 6) λcK=>f_ e d λcL=>f_ e (f.add 4) λcM=>oz i cE cF cG cH cI cJ cK cL cM e λM=>let aq:Addr->b_:=λar N=>(iG N c λcN cO cP cQ cR cS cT cU cV cW cX=>f_ N ((ar.add 4).add 1) λcY=>f_ N ((ar.add 4).add 2) λcZ=>FY cN cO cP cQ cR cS cT cU cV cW cX cY cZ N λc0 c1 c2 c3 c4 c5 c6 c7 c8 c9 da _ db=>Ε db ξ 41 λau dc=>iE (gX c0 c1 c2 c3 c4 c5 c6 c7 c8 c9 da) dc au 0 λav=>iG av au λdd de df dg dh di dj dk dl dm dn=>iE (gX dd de df dg dh di dj dk dl dm dn) av g 0 λaw=>iG aw g λdp dq dr ds dt du dv dw dx dy dz=>K dp dq dr ds dt du dv dw dx dy dz 0 aw)
 Pt i λW=>Ld .ptr M.drew (W.add 2) λO=>f_ M.drew f λP=>(lD O P M.drew λdA dB dC dD dE dF dG dH _ dI=>Ε dI anp 58 λax X=>Cw X f (Β P)<|Cs X W 2 (.pointer O)<|iE [Β dA,Β dB,Β dC,Β dD,Β dE,Β dF,Β dG,.bool dH] X ax 0 λdJ=>aq ax dJ)/\
 (Ε M.drew anp 58 λay Y=>Cw Y f (Β P)<|Cs Y W 2 (.pointer O)<|lD O P Y λdK dL dM dN dO dP dQ dR _ dS=>iE [Β dK,Β dL,Β dM,Β dN,Β dO,Β dP,Β dQ,.bool dR] dS ay 0 λdT=>aq ay dT))))
 f_ h.drew (b.add 0) λk=>f_ h.drew (b.add 1) λl=>f_ h.drew (b.add 2) λm=>f_ h.drew (b.add 3) λn=>f_ h.drew d λG=>f_ h.drew (c.add 6) λH=>f_ h.drew (d.add 2) λI=>iG h.drew c λo p q r s t u v x y z=>(vJ G H I h.drew λaz aA D=>WB (gX o p q r s t u v x y z) D c 0 (
 Cj D b k l<|Ci D b 2 m<|Ci D b 3 n<|(kK i k l m n az aA o p q r s t u v x y z D λdU dV dW dX dY dZ d0 d1 d2=>Ε d2 anq 109 λaB A=>WB (gX o p q r s t u v x y z) A c 0 (
 Ci A d 2 I<|Ci A c 6 H<|Cw A d (Β G)<|Cj A b k l<|Ci A b 2 m<|Ci A b 3 n<|iE [Β dU,.bool dV,Β dW,.bool dX,Β dY,Β dZ,Β d0] A aB 0 λd3=>T aB d1 d3))/\
 (Ε D anq 109 λaC B=>WB (gX o p q r s t u v x y z) B c 0 (
 Ci B d 2 I<|Ci B c 6 H<|Cw B d (Β G)<|Cj B b k l<|Ci B b 2 m<|Ci B b 3 n<|kK i k l m n az aA o p q r s t u v x y z B λd4 d5 d6 d7 d8 d9 ea eb ec=>iE [Β d4,.bool d5,Β d6,.bool d7,Β d8,Β d9,Β ea] ec aC 0 λed=>T aC eb ed))))/\
 (Ε h.drew anq 109 λaD C=>WB (gX o p q r s t u v x y z) C c 0 (
 Ci C d 2 I<|Ci C c 6 H<|Cw C d (Β G)<|Cj C b k l<|Ci C b 2 m<|Ci C b 3 n<|vJ G H I C λee ef J=>WB (gX o p q r s t u v x y z) J c 0 (
 Cj J b k l<|Ci J b 2 m<|Ci J b 3 n<|kK i k l m n ee ef o p q r s t u v x y z J λeg eh ei ej ek el em en eo=>iE [Β eg,.bool eh,Β ei,.bool ej,Β ek,Β el,Β em] eo aD 0 λep=>T aD en ep))))))))))
 jg i w6 λeq aE=>(cond (!eq) (Q true aE) (nR i L aE λer Z=>(cond (!er) (Q true Z) (iG Z c λes et eu ev ew ex ey ez eA eB eC=>Aw es et eu ev ew ex ey ez eA eB eC Z λeD eE=>Q (!eD) eE))))):=χ Tryz.func9
theorem RX {a w K}:gV (jB a w K)
 (Ε w ξ 41 λb f=>zn a f λg h i j k l m n o p q _ r=>Ε r ξ 41 λc s=>iE (gX g h i j k l m n o p q) s c 0 λd=>iG d c λt u v x y z A B C D E=>iE (gX t u v x y z A B C D E) d b 0 λe=>iG e b λF G H I J L M N O P Q=>K F G H I J L M N O P Q e):=χ Tryz.func10
theorem O6 {a b c d e f w K}:gV (jC a b c d e f w K)
 (Ee a b c d false f w λg _ h=>yZ 0 0 0 e 17 a b false false ⟨none,0,0⟩ g h λi _ j=>K i j):=χ Tryz.func11
theorem Vo {h i j k l m n o p q r w K}:gV (yZ h i j k l m n o p q r w K)
 (Ε w (gX h i j k l m n o p q r) 41 λb s=>iG s b λU V W X Y Z aa ab ac ad ae=>zi U V W X Y Z aa ab ac ad ae s λt d=>(cond (t !=0) (K ⟨none,0,0⟩ t d) (iG d.drew b λu v x y z A B C D E F=>iG d.drew b λaf ag ah ai aj ak al am an ao ap=>xg af ag ah ai aj ak al am an ao ap d.drew λaq G=>WB (gX u v x y z A B C D E F) G b 0 (
 AL u v x y z A B C D E F aq 0 G λf ar=>Ε ar [Δ f] 31 λau av=>Gg ⟨(some au),1,1⟩ av λaw e=>iG e.drew b λH I J L M N O P Q R S=>iG e.drew b λax ay az aA aB aC aD aE aF aG aH=>Ld .slice e.drew (b.add 10) λc=>xg ax ay az aA aB aC aD aE aF aG aH e.drew λaI g=>g.cell? (b.add 10)=some (Δ c)/\
 WB (gX H I J L M N O P Q R S) g b 0 (
 AL H I J L M N O P Q R S aI aw g λaJ T=>T.cell? (b.add 10)=some (Δ c)/\
 nH 5 1 1 [(Value.int .u8 0)] aJ c T λaK aL=>K aK 0 aL))))):=χ Tryz.func12
theorem O4 {e v x y z A B C D E F G w K}:gV (kD e v x y z A B C D E F G w K)
 (Ε w (gX v x y z A B C D E F G) 41 λf Y=>Ε Y ξ 41 λb Z=>let H:Bool->b_:=λj8 o=>((cond j8 (iE ξ o b 0 λI=>iG I b λab ac ad ae af ag ah ai aj ak al=>K 0 ab ac ad ae af ag ah ai aj ak al 1 I) (iG o f λam an ao ap aq ar au av aw ax ay=>Au am an ao ap aq ar au av aw ax ay o λaz aA aB p aC aD=>Ε aD ano 97 λj aE=>iE [Β az,Β aA,Β aB,Δ p] aE j 0 λg=>(cond aC (iG g f λaF aG aH aI aJ aK aL aM aN aO aP=>f_ g (j.add 0) λaQ=>f_ g (j.add 1) λaR=>f_ g (j.add 2) λaS=>Ld .slice g (j.add 3) λaT=>rY e aF aG aH aI aJ aK aL aM aN aO aP aQ aR aS aT g λaU aV aW aX aY aZ a1 a2 a3 a5 a7 a8 a9 ba=>iE (gX aV aW aX aY aZ a1 a2 a3 a5 a7 a8) ba b 0 λJ=>iG J b λbb bc bd be bf bg bh bi bj bk bl=>K aU bb bc bd be bf bg bh bi bj bk bl a9 J) (iG g f λbm bn bo bp bq br bs bt bu bv bw=>FZ bm bn bo bp bq br bs bt bu bv bw g λbx bz bA L bB=>Ε bB anm 102 λk bC=>iE [Β bx,Β bz,Β bA] bC k 0 λh=>(cond (L !=0) (FX L h λbD bE=>iE ξ bE b 0 λM=>iG M b λbF bG bH bI bJ bK bL bM bN bO bP=>K 0 bF bG bH bI bJ bK bL bM bN bO bP bD M) (Pt e λbQ=>Ld .ptr h.drew (bQ.add 2) λbR=>f_ h.drew k λbS=>f_ h.drew (f.add 6) λbT=>f_ h.drew (k.add 2) λbU=>pV bR bS bT bU h.drew λq bV r=>(cond (!bV) (iE ξ r b 0 λN=>iG N b λbW bX bY bZ b0 b1 b2 b3 b4 b5 b6=>K 0 bW bX bY bZ b0 b1 b2 b3 b4 b5 b6 9 N) (Pt e λb7=>Ld .ptr r (b7.add 2) λb8=>lD b8 q r λb9 ca cb cc cd ce cf cg _ ch=>Ε ch anp 58 λl ci=>iE [Β b9,Β ca,Β cb,Β cc,Β cd,Β ce,Β cf,.bool cg] ci l 0 λn=>f_ n k λcj=>f_ n (f.add 5) λck=>f_ n (k.add 1) λcl=>vJ cj ck cl n λcm cn co=>qJ e q true 0 false 0 cm cn co λcp cq cr cs ct cu cv cw=>Ε cw anq 109 λc cx=>iE [Β cp,.bool cq,Β cr,.bool cs,Β ct,Β cu,Β cv] cx c 0 λi=>let O:Bool->b_:=λcy d=>((cond cy (iE ξ d b 0 λP=>iG P b λcz cA cB cC cD cE cF cG cH cI cJ=>K 0 cz cA cB cC cD cE cF cG cH cI cJ 10 P) (f_ d (c.add 0) λcK=>Ld .bool d (c.add 1) λcL=>f_ d (c.add 2) λcM=>Ld .bool d (c.add 3) λcN=>f_ d (c.add 4) λcO=>f_ d (c.add 5) λcP=>f_ d (c.add 6) λcQ=>iG d f λcR cS cT cU cV cW cX cY cZ c0 c1=>uY e cK cL cM cN cO cP cQ cR cS cT cU cV cW cX cY cZ c0 c1 d λQ m=>(cond (Q !=0) (iE ξ m b 0 λR=>iG R b λc2 c3 c4 c5 c6 c7 c8 c9 da db dc=>K 0 c2 c3 c4 c5 c6 c7 c8 c9 da db dc Q R) (iG m f λdd de df dg dh di dj dk dl dm dn=>f_ m (l.add 2) λdp=>f_ m (l.add 3) λdq=>MV dd de df dg dh di dj dk dl dm dn dp dq m λdr ds dt du dv dw dx dy dz dA dB _ dC=>Ε dC ξ 41 λS dD=>iE (gX dr ds dt du dv dw dx dy dz dA dB) dD S 0 λs=>f_ s.drew l λdE=>iG s.drew S λdF dG dH dI dJ dK dL dM dN dO dP=>iE (gX dF dG dH dI dJ dK dL dM dN dO dP) s.drew b 0 λT=>iG T b λdQ dR dS dT dU dV dW dX dY dZ d0=>K dE dQ dR dS dT dU dV dW dX dY dZ d0 0 T)))))
 Ld .bool i.drew (l.add 7) λd1=>(cond (!d1) (Pt e λU=>f_ i.drew ((U.add 5).add 29) λV=>f_ i.drew ((c.add 5).add 0) λW=>f_ i.drew ((c.add 5).add 1) λX=>wo e q i.drew λd2 t=>Cj t (c.add 5) W X<|Ci t (U.add 5) 29 V<|BG V W X d2 t λd3 d4=>O (!d3) d4) (O false i.drew)))))))))))
 jg e Z λd5 u=>(cond (!d5) (H true u) (iG u f λd6 d7 d8 d9 ea eb ec ed ee ef eg=>Aw d6 d7 d8 d9 ea eb ec ed ee ef eg u λeh ei=>H (!eh) ei))):=χ Tryz.func13
theorem ND {a c w K}:gV (wW a c w K)
 (let d:Bool->b_:=λe f=>(K e f)
 jg a w λg b=>(cond g (Pt a λh=>Ld .ptr b h λi=>rF i c b λj k=>d j k) (d false b))):=χ Tryz.func14
theorem pI {a b w K}:gV (jv a b w K)
 (lJ a b w λc d=>K (decide (c>=0)) d):=χ Tryz.func15
theorem Ll {p w K}:gV (vY p w K)
 (Ε w anx 61 λb U=>jg p U λV s=>(cond (!V) (iE anx s b 0 λl=>f_ l (b.add 0) λW=>Ld .slice l (b.add 1) λX=>Ld .slice l (b.add 2) λY=>f_ l (b.add 3) λZ=>f_ l (b.add 4) λaa=>f_ l (b.add 5) λab=>Ld .slice l (b.add 6) λac=>K W X Y Z aa ab ac l) (let J:Addr->b_:=λe L=>(Al L (.map #[] 0) λ _ ad=>Ε ad [.map none] 141 λA ae=>St ae A (.map (some L.heap.size)) λM=>Pt p λaf=>Ld .ptr M (af.add 2) λag=>yU ag M λah c=>xO υ none [.one ν,.agg [ν,ν,ν,ν,ν,ν,ν,.bool]] ah c (λt i N ai=>Ε N anp 58 λj aj=>iE [Β i.2.1.1,Β i.2.1.2.1,Β i.2.1.2.2.1,Β i.2.1.2.2.2.1,Β i.2.1.2.2.2.2.1,Β i.2.1.2.2.2.2.2.1,Β i.2.1.2.2.2.2.2.2.1,.bool i.2.1.2.2.2.2.2.2.2.1] aj j 0 λy=>y.heap[t]? =N.heap[t]? /\
 Ld .map (gQ y t) A λak=>Ld .slice (gQ y t) (e.add 1) λal=>pq υ 3 ak (Β i.1) (Β (al.len:Int)) (gQ y t) λf=>Ld .slice f (e.add 1) λam=>f_ f (j.add 0) λan=>f_ f (j.add 1) λao=>f_ f (j.add 2) λap=>f_ f (j.add 3) λaq=>f_ f (j.add 4) λar=>f_ f (j.add 5) λau=>f_ f (j.add 6) λav=>Ld .bool f (j.add 7) λaw=>Ε f [Β an,Β ao,Β ap,Β aq,Β ar,Β au,Β av,.bool aw] 58 λax ay=>nH 58 8 64 [(Β 0),(Β 0),(Β 0),(Β 0),(Β 0),(Β 0),(Β 0),(Value.bool false)] am ⟨(some ax),1,1⟩ ay λB az=>St az (e.add 1) (Δ B) λaA=>ai .normal aA)
 (λO=>Pt p λaB=>Ld .ptr O (aB.add 3) λaC=>u_ aC O λaD d=>xO υ none [.one ν,.agg [ν,ν,ν,ν,ν]] aD d (λq u P aE=>Ε P anr 149 λm aF=>iE [Β u.2.1.1,Β u.2.1.2.1,Β u.2.1.2.2.1,Β u.2.1.2.2.2.1,Β u.2.1.2.2.2.2.1] aF m 0 λv=>v.heap[q]? =P.heap[q]? /\
 Ld .map (gQ v q) A λaG=>f_ (gQ v q) m λaH=>qF υ 3 ν aG (Β aH) (Β 0) (gQ v q) λaI=>St (gQ v q) m (Β aI) λo=>Ld .slice o (e.add 2) λaJ=>f_ o (m.add 0) λaK=>f_ o (m.add 1) λaL=>f_ o (m.add 2) λaM=>f_ o (m.add 3) λaN=>f_ o (m.add 4) λaO=>Ε o [Β aK,Β aL,Β aM,Β aN,Β aO] 149 λaP aQ=>nH 149 5 40 [(Β 0),(Β 0),(Β 0),(Β 0),(Β 0)] aJ ⟨(some aP),1,1⟩ aQ λC aR=>St aR (e.add 2) (Δ C) λaS=>aE .normal aS)
 (λn=>f_ n (e.add 0) λaT=>Ld .slice n (e.add 1) λD=>Ld .slice n (e.add 2) λE=>f_ n (e.add 3) λaU=>f_ n (e.add 4) λaV=>f_ n (e.add 5) λaW=>Ld .slice n (e.add 6) λF=>iE [Β aT,Δ D,Δ E,Β aU,Β aV,Β aW,Δ F] n b 0 λg=>Η g d/\
 Η (Ζ g d) c/\
 f_ (Ζ (Ζ g d) c) (b.add 0) λaX=>Ld .slice (Ζ (Ζ g d) c) (b.add 1) λaY=>Ld .slice (Ζ (Ζ g d) c) (b.add 2) λaZ=>f_ (Ζ (Ζ g d) c) (b.add 3) λa1=>f_ (Ζ (Ζ g d) c) (b.add 4) λa2=>f_ (Ζ (Ζ g d) c) (b.add 5) λa4=>Ld .slice (Ζ (Ζ g d) c) (b.add 6) λa5=>K aX aY aZ a1 a2 a4 a5 (Ζ (Ζ g d) c))
 (λh=>Η h d/\
 Η (Ζ h d) c/\
 f_ (Ζ (Ζ h d) c) (b.add 0) λa6=>Ld .slice (Ζ (Ζ h d) c) (b.add 1) λa7=>Ld .slice (Ζ (Ζ h d) c) (b.add 2) λa8=>f_ (Ζ (Ζ h d) c) (b.add 3) λa9=>f_ (Ζ (Ζ h d) c) (b.add 4) λba=>f_ (Ζ (Ζ h d) c) (b.add 5) λbb=>Ld .slice (Ζ (Ζ h d) c) (b.add 6) λbc=>K a6 a7 a8 a9 ba bb bc (Ζ (Ζ h d) c))
 [])
 (λk=>Η k c/\
 f_ (Ζ k c) (b.add 0) λbd=>Ld .slice (Ζ k c) (b.add 1) λbe=>Ld .slice (Ζ k c) (b.add 2) λbf=>f_ (Ζ k c) (b.add 3) λbg=>f_ (Ζ k c) (b.add 4) λbh=>f_ (Ζ k c) (b.add 5) λbi=>Ld .slice (Ζ k c) (b.add 6) λbj=>K bd be bf bg bh bi bj (Ζ k c))
 [])
 Pt p λx=>f_ s.drew (x.add 41) λr=>Pt p λG=>Ld .ptr s.drew (G.add 4) λz=>(oW z s.drew λbk Q=>Ci Q x 41 r<|Ε Q anx 61 λR H=>Cs H G 4 (.pointer z)<|Ci H x 41 r<|iE [Β r,.slice none 0 0,.slice none 0 0,Β 0,Β 0,Β bk,.slice none 0 0] H R 0 λbl=>J R bl)/\
 (Ε s.drew anx 61 λS I=>Cs I G 4 (.pointer z)<|Ci I x 41 r<|oW z I λbm T=>Ci T x 41 r<|iE [Β r,.slice none 0 0,.slice none 0 0,Β 0,Β 0,Β bm,.slice none 0 0] T S 0 λbn=>J S bn)))):=χ Tryz.func16 (gB (gB (gB (gB (.seq (gB (.blk (.rng [.one ν,.agg [ν,ν,ν,ν,ν,ν,ν,.bool]] .leaf .leaf))) (.seq (gB (.blk (.rng [.one ν,.agg [ν,ν,ν,ν,ν]] .leaf .leaf))) .leaf))))))
theorem Lj {c d e f g h i j k l w K}:gV (BI c d e f g h i j k l w K)
 (Ε w [Β c,Β d,Β e,Β f,Β g,Β h,Β i,.bool j] 58 λb a=>let m:Bool->Prop:=λn=>(K n a)
 Ld .bool a (b.add 7) λo=>(cond o (f_ a (b.add 0) λp=>f_ a (b.add 1) λq=>f_ a (b.add 2) λr=>f_ a (b.add 3) λs=>f_ a k λt=>Ld (.int .u16) a l λu=>m ((p==t) && ((q==17) && ((r==167772161) && ((s==(ο.wrap u)) && true))))) (m false))):=χ Tryz.func17
theorem NH {a w K}:gV (sJ a w K)
 (jg a w λc b=>(cond (!c) (K 0 b) (Pt a λd=>f_ b (d.add 41) λe=>K e b))):=χ Tryz.func18
theorem GH {a c w K}:gV (mJ a c w K)
 (jg a w λo e=>(cond (!o) (K 0 e) (Pt a λp=>f_ e (p.add 41) λi=>Pt a λq=>St e (q.add 41) (Β (if (if (1099511627776:Int)<c then 1099511627776 else c)>i then (if (1099511627776:Int)<c then 1099511627776 else c) else i)) λf=>Pt a λr=>Ld .ptr f.drew (r.add 4) λs=>Pt a λt=>f_ f.drew (t.add 41) λu=>sD s u f.drew λj v=>iQ (S:=Int×Int×Unit) (λb d x=>(cond (decide (b.2.1<(j.len:Int))) (let k:Int->b_:=λy z=>(x (y,(ο.wrap (b.2.1+1)),()) z)
 iK j 1 b.2.1 λA=>f_ d A λl=>Pt a λB=>Ld .ptr d (B.add 3) λC=>nK C l d λD E F G H _ I=>Ε I anr 149 λg J=>iE [Β D,Β E,Β F,Β G,Β H] J g 0 λm=>Pt a λL=>Ld .ptr m (L.add 3) λM=>nU M l m λ _ n=>f_ n g λN=>tJ a N n λO h=>(cond O (f_ h g λP=>kQ a P h λQ=>k (ο.wrap (b.1+1)) Q) (k b.1 h))) (K b.1 d))) (0,0,()) v))):=χ Tryz.func19 (gB (gB (gB (gB (.seq (gB (.blk (.loop [(5,ν),(34,ν)] .leaf))) .leaf)))))
theorem aaL {b c d e f g h i j k l w K}:gV (BQ b c d e f g h i j k l w K)
 (Ε w (gX b c d e f g h i j k l) 41 λm a=>let n:Bool->Prop:=λo=>(K o a)
 Ld .bool a (m.add 8) λp=>(cond (!p) (f_ a (m.add 2) λq=>n (decide (q<=0))) (n false))):=χ Tryz.func20
theorem U_ {d e f g h i j k l m n o p q r s t u v x y z A B C D E F G H I J L M N O w K}:gV (Eb d e f g h i j k l m n o p q r s t u v x y z A B C D E F G H I J L M N O w K)
 (Ε w (jO d e f g h i j k l m n o p q r s t u v x y z A B C D E F G H I J L M N O) 28 λb a=>let c:Bool->Prop:=λP=>(K P a)
 Ld .slice a (b.add 16) λQ=>(cond (decide ((Q.len:Int)<=8)) (Ld .slice a (b.add 17) λR=>(cond (decide ((R.len:Int)<=4)) (Ld .slice a (b.add 35) λS=>c (decide ((S.len:Int)<=12))) (c false))) (c false))):=χ Tryz.func21
theorem Vu {d e f g h i j k l m n o p q r s t u v x y z A B C D E F G H I J L M N O w K}:gV (Eh d e f g h i j k l m n o p q r s t u v x y z A B C D E F G H I J L M N O w K)
 (Ε w (jO d e f g h i j k l m n o p q r s t u v x y z A B C D E F G H I J L M N O) 28 λa P=>let Q:Bool->b_:=λS b=>((cond S (K 1 b) (tC b a λT U V W X Y Z aa ab ac ad ae af ag ah ai aj ak al am an ao ap aq ar au av aw ax ay az aA aB aC aD aE=>Ej T U V W X Y Z aa ab ac ad ae af ag ah ai aj ak al am an ao ap aq ar au av aw ax ay az aA aB aC aD aE b λaF R=>(cond aF (K 9 R) (K 0 R)))))
 tC P a λaG aH aI aJ aK aL aM aN aO aP aQ aR aS aT aU aV aW aX aY aZ a0 a1 a2 a4 a5 a6 a7 a8 a9 ba bb bc bd be bf bg=>Ae aG aH aI aJ aK aL aM aN aO aP aQ aR aS aT aU aV aW aX aY aZ a0 a1 a2 a4 a5 a6 a7 a8 a9 ba bb bc bd be bf bg P λbh c=>(cond (!bh) (Q true c) (tC c a λbi bj bk bl bm bn bo bp bq br bs bt bu bv bw bx bz bA bB bC bD bE bF bG bH bI bJ bK bL bM bN bO bP bQ bR bS=>Ei bi bj bk bl bm bn bo bp bq br bs bt bu bv bw bx bz bA bB bC bD bE bF bG bH bI bJ bK bL bM bN bO bP bQ bR bS c λbT bU=>Q (!bT) bU))):=χ Tryz.func22
theorem RP {i j k l m n o p q r s t u v x y z A B C D E F G H I J L M N O P Q R T U w K}:gV (Bq i j k l m n o p q r s t u v x y z A B C D E F G H I J L M N O P Q R T U w K)
 (Ε w (jO i j k l m n o p q r s t u v x y z A B C D E F G H I J L M N O P Q R T U) 28 λb V=>tC V b λx4 x5 x6 x7 x8 x9 ag ah ai aj ak al am an ao ap aq ar au av aw ax ay az aA aB aC aD aE aF aG aH aI aJ aK aL=>z_ x4 x5 x6 x7 x8 x9 ag ah ai aj ak al am an ao ap aq ar au av aw ax ay az aA aB aC aD aE aF aG aH aI aJ aK aL V λW aM=>iQ (S:=Int×Unit) (λe a aN=>(cond (decide (e.1<(W.len:Int))) (iK W 3 e.1 λf=>f_ a (f.add 0) λaO=>f_ a (f.add 1) λaP=>f_ a (f.add 2) λaQ=>Ε a anm 158 λc aR=>iE [Β aO,Β aP,Β aQ] aR c 0 λd=>f_ d (c.add 0) λaS=>f_ d (c.add 1) λaT=>f_ d (c.add 2) λaU=>lH aS aT aU d λaV X=>(cond (!aV) (K 1 X) (aN ((ο.wrap (e.1+1)),()) X))) (let Y:Bool->b_:=λaW g=>((cond aW (K 1 g) (tC g b λaX aY aZ a0 a1 a2 a4 a5 a6 a7 a8 a9 ba bb bc bd be bf bg bh bi bj bk bl bm bn bo bp bq br bs bt bu bv bw bx=>yj aX aY aZ a0 a1 a2 a4 a5 a6 a7 a8 a9 ba bb bc bd be bf bg bh bi bj bk bl bm bn bo bp bq br bs bt bu bv bw bx g λbz Z=>(cond bz (K 9 Z) (K 0 Z)))))
 f_ a (b.add 28) λbA=>BF bA a λbB h=>(cond (!bB) (Y true h) (tC h b λbC bD bE bF bG bH bI bJ bK bL bM bN bO bP bQ bR bS bT bU bV bW bX bY bZ b0 b1 b2 b3 b4 b5 b6 b7 b8 b9 ca cb=>BA bC bD bE bF bG bH bI bJ bK bL bM bN bO bP bQ bR bS bT bU bV bW bX bY bZ b0 b1 b2 b3 b4 b5 b6 b7 b8 b9 ca cb h λcc cd=>Y (!cc) cd))))) (0,()) aM):=χ Tryz.func24 (gB (.seq (gB (.blk (.loop [(8,ν)] .leaf))) .leaf))
theorem aaB {b d e w K}:gV (MS b d e w K)
 (let c:Bool->Prop:=λn=>((cond n (K none 1 w) (iQ (S:=Int×Unit) (λf g o=>(cond (decide (f.1<(b.len:Int))) (iK b 1 f.1 λp=>f_ g p λi=>let j:Bool->b_:=λq k=>((cond q (K none 1 k) (o ((ο.wrap (f.1+1)),()) k)))
 tH i g λr l=>(cond (!r) (j true l) (lG b 1 0 f.1 λs=>jd s i l λt u=>j t u))) (nV b g λh m=>Al m (.map #[] 0) λ _ v=>Ε v [Β d,Β e,Δ h,.map (some m.heap.size)] 165 λx y=>K (some x) 0 y))) (0,()) w)))
 (cond (decide ((b.len:Int)<1)) (c true) (cond (decide ((b.len:Int)>16)) (c true) (cond (decide (d<1)) (c true) (cond (decide (e<d)) (c true) (c (decide (e>=65536)))))))):=χ Tryz.func25 (gB (gB (.seq (gB (.blk (.loop [(33,ν)] .leaf))) .leaf)))
theorem ZJ {b c w K}:gV (Iw b c w K)
 (let d:Bool->Prop:=λj=>((cond j (K none 1 w) (Ϙ 170 2 16 [(Β 0),(Β 0)] b b w λe k=>Ε k [Δ e] 168 λf i=>Pt (some f) λl=>Ld .slice i l λm=>iQ (S:=Int×Unit) (λg h n=>(cond (decide (g.1<(m.len:Int))) (Pt (some f) λo=>Ld .slice h o λp=>iK p 2 g.1 λq=>St h (q.add 1) (Β c) λr=>n ((ο.wrap (g.1+1)),()) r) (K (some f) 0 h))) (0,()) i)))
 (cond (decide (b<1)) (d true) (cond (decide (b>64)) (d true) (cond (decide (c<0)) (d true) (d (decide (c>4096))))))):=χ Tryz.func26 (gB (gB (gB (.seq (gB (.blk (.loop [(31,ν)] .leaf))) .leaf))))
theorem aav {b w K}:gV (MP b w K)
 (let d:Bool->Prop:=λg=>((cond g (K none 1 w) (BH b w λh i j=>BH b j λk l e=>let f:Bool->Prop:=λm=>((cond m (K none 1 e) (Ϙ 225 9 72 (abE 0 0 0 0 0 0 0 false false) b b e λc n=>Ε n [Δ c,.pointer h,.pointer k,Β 0] 176 λo p=>K (some o) 0 p)))
 (cond (i !=0) (f true) (f (l !=0))))))
 (cond (decide (b<0)) (d true) (d (decide (b>4096))))):=χ Tryz.func27
theorem Vy {b w K}:gV (Em b w K)
 (let d:Bool->Prop:=λh=>((cond h (K none 1 w) (BH b w λi e f=>(cond (e !=0) (K none e f) (Ϙ 244 6 48 [(Β 0),(Β 0),(Β 0),(Β 0),(Β 0),(Value.bool false)] b b f λc g=>Al g (.map #[] 0) λ _ j=>Ε j [Δ c,.pointer i,.map (some g.heap.size),Β 0] 180 λk l=>K (some k) 0 l)))))
 (cond (decide (b<0)) (d true) (d (decide (b>4096))))):=χ Tryz.func28
theorem Z7 {a w K}:gV (IQ a w K)
 (let b:Bool->Prop:=λc=>((cond c (K none 1 w) (Al w (.map #[] 0) λ _ d=>Ε d (List.replicate 448 (Value.slice none 0 0)++([(Value.map (some w.heap.size)),(Β 0),(Β 0),(Β a)])) 187 λe f=>K (some e) 0 f)))
 (cond (decide (a<0)) (b true) (b (decide (a>1048576))))):=χ Tryz.func29
theorem NG {b k l m n o p q w K}:gV (oQ b k l m n o p q w K)
 (Ε w [Β k,Β l,Β m,Β n,Β o,Β p,Β q] 70 λa v=>jg b v λx c=>(cond (!x) (K 2 c) (f_ c (a.add 0) λy=>f_ c (a.add 1) λz=>f_ c (a.add 2) λA=>f_ c (a.add 3) λB=>f_ c (a.add 4) λC=>f_ c (a.add 5) λD=>f_ c (a.add 6) λE=>wX b y z A B C D E c λF e=>(cond (!F) (K 1 e) (Pt b λG=>Ld .ptr e.drew (G.add 2) λH=>f_ e.drew (a.add 0) λI=>f_ e.drew (a.add 1) λJ=>f_ e.drew (a.add 2) λL=>f_ e.drew (a.add 3) λM=>oq H I J L M e.drew λ _ r f=>Pt b λN=>Ld .ptr f.drew (N.add 2) λO=>f_ f.drew ((a.add 4).add 0) λP=>f_ f.drew ((a.add 4).add 1) λQ=>f_ f.drew ((a.add 4).add 2) λR=>pV O P Q R f.drew λ _ S g=>let s:Bool->Prop:=λT=>((cond T (K 9 g) (Pt b λU=>Ld .ptr g.drew (U.add 1) λV=>f_ g.drew a λW=>Pt b λt=>f_ g.drew ((t.add 5).add 20) λu=>pK V W g.drew λX j=>j.cell? ((t.add 5).add 20)=some (Β u)/\
 (cond (decide (X>=u)) (K 10 j) (qK b j λY i=>(cond Y (K 7 i) (Pt b λZ=>Ld .ptr i.drew (Z.add 1) λaa=>f_ i.drew a λab=>qM aa ab i.drew λ _ h=>Pt b λac=>Ld .ptr h.drew ac λad=>f_ h.drew ((a.add 4).add 0) λae=>f_ h.drew ((a.add 4).add 1) λaf=>f_ h.drew ((a.add 4).add 2) λag=>yC ad ae af ag h.drew λ _ d=>Pt b λah=>Ld .ptr d.drew (ah.add 2) λai=>f_ d.drew (a.add 0) λaj=>f_ d.drew (a.add 1) λak=>f_ d.drew (a.add 2) λal=>f_ d.drew (a.add 3) λam=>f_ d.drew ((a.add 4).add 0) λan=>f_ d.drew ((a.add 4).add 1) λao=>f_ d.drew ((a.add 4).add 2) λap=>yT ai aj ak al am an ao ap true d.drew λ _ aq ar=>K aq ar)))))))
 (cond r (s r) (s S))))))):=χ Tryz.func30
theorem OZ {c d e f g h i j k l m n o p q r s t u v x y w K}:gV (yw c d e f g h i j k l m n o p q r s t u v x y w K)
 (Ε w (Ob c d e f g h i j k l m n o p q r s t u v x y) 72 λz E=>Ε E ξ 41 λa A=>Ld .slice A (z.add 3) λF=>zn F A λG H I J L M N O P Q R S T=>Ε T ξ 41 λB U=>iE (gX G H I J L M N O P Q R) U B 0 λb=>(cond (S==0) (iG b B λV W X Y Z aa ab ac ad ae af=>iE (gX V W X Y Z aa ab ac ad ae af) b a 0 λC=>iG C a λag ah ai aj ak al am an ao ap aq=>K ag ah ai aj ak al am an ao ap aq C) (iG b (z.add 4) λar au av aw ax ay az aA aB aC aD=>iE (gX ar au av aw ax ay az aA aB aC aD) b a 0 λD=>iG D a λaE aF aG aH aI aJ aK aL aM aN aO=>K aE aF aG aH aI aJ aK aL aM aN aO D))):=χ Tryz.func31
theorem Jl {g i w K}:gV (uV g i w K)
 (iP (Value.pointer g)=true/\
 Ε w [.pointer g] 35 λe j=>Ld .ptr j e λr=>jg r j λs k=>(cond (!s) (K 0 k) (Ε k [Β 0] 3 λf t=>St t f (Β 0) λl=>Ld .ptr l e λu=>yx u i l λv d=>xO υ none [.one ν,.agg [ν,ν,ν,ν,ν,ν,ν,.bool]] v d (λb a m n=>Ε m anp 58 λo x=>iE [Β a.2.1.1,Β a.2.1.2.1,Β a.2.1.2.2.1,Β a.2.1.2.2.2.1,Β a.2.1.2.2.2.2.1,Β a.2.1.2.2.2.2.2.1,Β a.2.1.2.2.2.2.2.2.1,.bool a.2.1.2.2.2.2.2.2.2.1] x o 0 λc=>c.heap[b]? =m.heap[b]? /\
 Ld .bool (gQ c b) (o.add 7) λy=>(cond y (Ld .ptr (gQ c b) e λz=>nJ z a.1 (gQ c b) λA=>n .normal A) (Ld .ptr (gQ c b) e λB=>kQ B a.1 (gQ c b) λp=>f_ p f λC=>St p f (Β (ο.wrap (C+1))) λD=>n .normal D)))
 (λh=>f_ h f λE=>Η h d/\
 K E (Ζ h d))
 (λq=>Η q d/\
 K 0 (Ζ q d))
 [(1,(λ _=>False))]))):=χ Tryz.func32 (gB (gB (gB (gB (.seq (gB (.blk (.rng [.one ν,.agg [ν,ν,ν,ν,ν,ν,ν,.bool]] .leaf .leaf))) .leaf)))))
theorem Jm {b e f g h w K}:gV (uX b e f g h w K)
 (Ε w [Β e,Β f,Β g,Β h] 54 λc m=>jg b m λn a=>(cond (!n) (K 2 a) (Pt b λo=>Ld .ptr a.drew (o.add 2) λp=>f_ a.drew (c.add 0) λq=>f_ a.drew (c.add 1) λr=>f_ a.drew (c.add 2) λs=>f_ a.drew (c.add 3) λt=>oq p q r s t a.drew λi u j=>Pt b λv=>Ld .ptr j (v.add 2) λx=>lD x i j λy z A B C D E F _ G=>Ε G anp 58 λk H=>iE [Β y,Β z,Β A,Β B,Β C,Β D,Β E,.bool F] H k 0 λd=>let l:Bool->Prop:=λI=>((cond I (K 8 d) (kQ b i d λJ=>K 0 J)))
 (cond (!u) (l true) (Ld .bool d (k.add 7) λL=>l (!L)))))):=χ Tryz.func33
theorem Jr {a w K}:gV (jg a w K)
 (let b:Bool->Prop:=λc=>(K c w)
 (cond (!(Option.isNone a)) (Pt a λd=>Ld .ptr w d λe=>b (!(Option.isNone e))) (b false))):=χ Tryz.func34
theorem E5 {b a w K}:gV (nR b a w K)
 (let c:Bool->Prop:=λd=>(K d w)
 (cond (decide (a>=0)) (Pt b λe=>Ld .slice w ((e.add 5).add 16) λf=>c (decide (a<(f.len:Int)))) (c false))):=χ Tryz.func35
theorem Xk {b c d e f g h i j k l w K}:gV (Aw b c d e f g h i j k l w K)
 (Ε w (gX b c d e f g h i j k l) 41 λm n=>let o:Bool->b_:=λp q=>(K p q)
 iG n m λr s t u v x y z A B C=>Gt r s t u v x y z A B C n λD a=>(cond (D==0) (iG a m λE F G H I J L M N O P=>BQ E F G H I J L M N O P a λQ R=>o Q R) (o false a))):=χ Tryz.func36
theorem Xi {n o p q r s t u v x y w K}:gV (Au n o p q r s t u v x y w K)
 (Ε w (gX n o p q r s t u v x y) 41 λz B=>Ε B ano 97 λd h=>f_ h (z.add 4) λC=>(cond (C !=1) (iE ano h d 0 λf=>f_ f (d.add 0) λD=>f_ f (d.add 1) λE=>f_ f (d.add 2) λF=>Ld .slice f (d.add 3) λG=>K D E F G false f) (Ld .slice h (z.add 10) λH=>Aq H h λI J L m M N=>Ε N ano 97 λb O=>iE [Β I,Β J,Β L,Δ m] O b 0 λe=>let A:Bool->b_:=λP g=>(f_ g (d.add 0) λQ=>f_ g (d.add 1) λR=>f_ g (d.add 2) λS=>Ld .slice g (d.add 3) λT=>K Q R S T P g)
 f_ e.drew (b.add 0) λi=>f_ e.drew (b.add 1) λj=>f_ e.drew (b.add 2) λk=>Ld .slice e.drew (b.add 3) λc=>(cond (M==0) (f_ e.drew b λU=>FT U e.drew λV l=>Cj l b i j<|Ci l b 2 k<|Cs l b 3 (Δ c)<|iE [Β i,Β j,Β k,Δ c] l d 0 λW=>A V W) (e.drew.cell? (b.add 0)=some (Β i)/\
 e.drew.cell? (b.add 1)=some (Β j)/\
 e.drew.cell? (b.add 2)=some (Β k)/\
 e.drew.cell? (b.add 3)=some (Δ c)/\
 iE [Β i,Β j,Β k,Δ c] e.drew d 0 λX=>A false X))))):=χ Tryz.func37
theorem EZ {i l m n o p q r s t u v x y z A f w K}:gV (qI i l m n o p q r s t u v x y z A f w K)
 (Ε w (gX m n o p q r s t u v x) 41 λg I=>Ε I [Β y,Β z,Β A,Δ f] 97 λe J=>Ε J ξ 41 λc B=>Ld .slice B (e.add 3) λL=>vK L B λM N O P Q R S T U V W X Y Z aa ab=>Ε ab ξ 41 λC ac=>Ε ac anm 102 λj ad=>iE (gX M N O P Q R S T U V W) ad C 0 λae=>iE [Β X,Β Y,Β Z] ae j 0 λd=>(cond (aa !=0) (iE ξ d c 0 λD=>iG D c λaf ag ah ai aj ak al am an ao ap=>K af ag ah ai aj ak al am an ao ap 1 D) (Pt i λaq=>Ld .ptr d.drew (aq.add 2) λar=>f_ d.drew j λau=>f_ d.drew (C.add 6) λav=>f_ d.drew (j.add 2) λaw=>oq ar l au av aw d.drew λax ay k=>(cond (!ay) (iE ξ k c 0 λE=>iG E c λaz aA aB aC aD aE aF aG aH aI aJ=>K az aA aB aC aD aE aF aG aH aI aJ 9 E) (Pt i λaK=>Ld .ptr k (aK.add 2) λaL=>lD aL ax k λaM aN aO aP aQ aR aS aT _ aU=>Ε aU anp 58 λh aV=>iE [Β aM,Β aN,Β aO,Β aP,Β aQ,Β aR,Β aS,.bool aT] aV h 0 λb=>iG b g λaW aX aY aZ a2 a3 a4 a5 a7 a9 ba=>f_ b (e.add 0) λbb=>f_ b (e.add 1) λbc=>f_ b (e.add 2) λbd=>Ld .slice b (e.add 3) λbe=>f_ b ((h.add 4).add 1) λbf=>f_ b ((h.add 4).add 2) λbg=>Dp aW aX aY aZ a2 a3 a4 a5 a7 a9 ba bb bc bd be false bf bg b λbh bi bj bk bl bm bn bo bp bq br bs=>iE (gX bh bi bj bk bl bm bn bo bp bq br) bs g 0 λF=>f_ F ((h.add 4).add 1) λbt=>St F (g.add 5) (Β bt) λG=>iG G g λbu bv bw bx bz bA bB bC bD bE bF=>iE (gX bu bv bw bx bz bA bB bC bD bE bF) G c 0 λH=>iG H c λbG bH bI bJ bK bL bM bN bO bP bQ=>K bG bH bI bJ bK bL bM bN bO bP bQ 0 H))))):=χ Tryz.func38
theorem aaC {d e f g h i j k l m n w K}:gV (FZ d e f g h i j k l m n w K)
 (Ε w (gX d e f g h i j k l m n) 41 λr s=>Ε s anm 102 λa o=>iG o r λt u v x y z A B C D E=>tN t u v x y z A B C D E o λF p q=>(cond (p !=0) (iE anm q a 0 λb=>f_ b (a.add 0) λG=>f_ b (a.add 1) λH=>f_ b (a.add 2) λI=>K G H I p b) (MK υ F "goosepond/ports.ports" [] [.agg [ν,ν,ν]] q λJ L M N=>iE [Β J,Β L,Β M] N a 0 λc=>f_ c (a.add 0) λO=>f_ c (a.add 1) λP=>f_ c (a.add 2) λQ=>K O P Q 0 c))):=χ Tryz.func39
theorem aaA {a w K}:gV (FX a w K)
 ((cond (a==8) (K 4 w) (K 1 w))):=χ Tryz.func40
theorem Jp {n r s t u v x y z A B C D E F G H I w K}:gV (kK n r s t u v x y z A B C D E F G H I w K)
 (Ε w [Β r,Β s,Β t,Β u] 54 λd R=>Ε R [Β v,Β x] 107 λJ S=>Ε S (gX y z A B C D E F G H I) 41 λL T=>Ε T anq 109 λa q=>f_ q (J.add 0) λU=>f_ q (J.add 1) λV=>Ε q anq 109 λb W=>iE [Β 0,.bool false,Β 0,.bool false,Β 0,Β U,Β V] W b 0 λm=>Pt n λX=>Ld .ptr m.drew (X.add 2) λY=>f_ m.drew (d.add 0) λZ=>f_ m.drew (d.add 1) λaa=>f_ m.drew (d.add 2) λab=>f_ m.drew (d.add 3) λac=>oq Y Z aa ab ac m.drew λad ae af=>St af b (Β ad) λag=>St ag (b.add 1) (.bool ae) λe=>f_ e (b.add 0) λah=>Ld .bool e (b.add 1) λai=>f_ e (b.add 2) λaj=>Ld .bool e (b.add 3) λak=>f_ e (b.add 4) λal=>f_ e (b.add 5) λam=>f_ e (b.add 6) λan=>qJ n ah ai aj ak al am an e λao ap aq ar au av aw ax=>iE [Β ao,.bool ap,Β aq,.bool ar,Β au,Β av,Β aw] ax b 0 λc=>f_ c (b.add 0) λay=>Ld .bool c (b.add 1) λaz=>f_ c (b.add 2) λaA=>Ld .bool c (b.add 3) λaB=>f_ c (b.add 4) λaC=>f_ c (b.add 5) λaD=>f_ c (b.add 6) λaE=>iG c L λaF aG aH aI aJ aK aL aM aN aO aP=>Dl ay az aA aB aC aD aE aF aG aH aI aJ aK aL aM aN aO aP true c λaQ aR o=>(cond (!aR) (iE anq o a 0 λf=>f_ f (a.add 0) λaS=>Ld .bool f (a.add 1) λaT=>f_ f (a.add 2) λaU=>Ld .bool f (a.add 3) λaV=>f_ f (a.add 4) λaW=>f_ f (a.add 5) λaX=>f_ f (a.add 6) λaY=>K aS aT aU aV aW aX aY (Value.iface 115 (Β 8)) f) (let M:Bool->b_:=λaZ p=>((cond aZ (iE anq p a 0 λg=>f_ g (a.add 0) λa1=>Ld .bool g (a.add 1) λa2=>f_ g (a.add 2) λa3=>Ld .bool g (a.add 3) λa4=>f_ g (a.add 4) λa5=>f_ g (a.add 5) λa7=>f_ g (a.add 6) λa9=>K a1 a2 a3 a4 a5 a7 a9 (Value.iface 115 (Β 9)) g) (let N:Bool->b_:=λba h=>((cond ba (iE anq h a 0 λi=>f_ i (a.add 0) λbb=>Ld .bool i (a.add 1) λbc=>f_ i (a.add 2) λbd=>Ld .bool i (a.add 3) λbe=>f_ i (a.add 4) λbf=>f_ i (a.add 5) λbg=>f_ i (a.add 6) λbh=>K bb bc bd be bf bg bh (Value.iface 115 (Β 6)) i) (let O:b_:=λbi=>(St bi (b.add 4) (Β aQ) λj=>f_ j (b.add 0) λbj=>Ld .bool j (b.add 1) λbk=>f_ j (b.add 2) λbl=>Ld .bool j (b.add 3) λbm=>f_ j (b.add 4) λbn=>f_ j (b.add 5) λbo=>f_ j (b.add 6) λbp=>iE [Β bj,.bool bk,Β bl,.bool bm,Β bn,Β bo,Β bp] j a 0 λk=>f_ k (a.add 0) λbq=>Ld .bool k (a.add 1) λbr=>f_ k (a.add 2) λbs=>Ld .bool k (a.add 3) λbt=>f_ k (a.add 4) λbu=>f_ k (a.add 5) λbv=>f_ k (a.add 6) λbw=>K bq br bs bt bu bv bw Value.nilIface k)
 Ld .bool h (b.add 1) λbx=>(cond (!bx) (f_ h (d.add 0) λbz=>f_ h (d.add 1) λbA=>f_ h (d.add 2) λbB=>f_ h (d.add 3) λbC=>vZ n bz bA bB bC h λbD P Q=>G_ υ .neq 111 P .nilIface λbE=>IfB bE λbF=>(cond bF (iE anq Q a 0 λl=>f_ l (a.add 0) λbG=>Ld .bool l (a.add 1) λbH=>f_ l (a.add 2) λbI=>Ld .bool l (a.add 3) λbJ=>f_ l (a.add 4) λbK=>f_ l (a.add 5) λbL=>f_ l (a.add 6) λbM=>K bG bH bI bJ bK bL bM P l) (St Q b (Β bD) λbN=>St bN (b.add 1) (.bool true) λbO=>O bO))) (O h)))))
 Ld .bool p (b.add 3) λbP=>(cond (!bP) (oH n p λbQ bR=>N bQ bR) (N false p)))))
 Ld .bool o (b.add 1) λbS=>(cond (!bS) (iG o L λbT bU bV bW bX bY bZ b0 b1 b2 b3=>BJ bT bU bV bW bX bY bZ b0 b1 b2 b3 o λb4 b5=>M b4 b5) (M false o))))):=χ Tryz.func41
theorem U8 {c d e w K}:gV (vJ c d e w K)
 (Ε w anl 107 λa g=>let f:Int->Prop:=λh=>(iE [Β d,Β h] g a 0 λb=>f_ b (a.add 0) λi=>f_ b (a.add 1) λj=>K i j b)
 (cond (c==1) (f 0) (f e))):=χ Tryz.func42
theorem Ls {d i j k l m n o p f w K}:gV (oz d i j k l m n o p f w K)
 (Ε w [Β i,.bool j,Β k,.bool l,Β m,Β n,Β o] 109 λb g=>Pt d λq=>f_ g.drew (q.add 41) λc=>Pt d λs=>tC g.drew (s.add 5) λt u v x y z A B C D E F G H I J L M N O P Q R S T U V W X Y Z aa ab ac ad ae=>D8 t u v x y z A B C D E F G H I J L M N O P Q R S T U V W X Y Z aa ab ac ad ae p f g.drew λe a=>a.cell? (q.add 41)=some (Β c)/\
 let r:b_:=λh=>(Pt d λaf=>Ld .ptr h.drew (af.add 4) λag=>f_ h.drew (b.add 2) λah=>sN ag ah (if (1099511627776:Int)<(ο.wrap (c+e)) then 1099511627776 else (ο.wrap (c+e))) h.drew λ _ ai=>K ai)
 Ld .bool a (b.add 3) λaj=>(cond aj (Pt d λak=>Ld .ptr a.drew (ak.add 3) λal=>f_ a.drew (b.add 2) λam=>vk al am f (if (1099511627776:Int)<(ο.wrap (c+e)) then 1099511627776 else (ο.wrap (c+e))) a.drew λ _ an=>r an) (Pt d λao=>Ld .ptr a.drew (ao.add 3) λap=>f_ a.drew b λaq=>f_ a.drew ((b.add 5).add 0) λar=>f_ a.drew ((b.add 5).add 1) λau=>uZ ap aq f (if (1099511627776:Int)<(ο.wrap (c+e)) then 1099511627776 else (ο.wrap (c+e))) ar au a.drew λav _ aw=>St aw (b.add 2) (Β av) λax=>r ax))):=χ Tryz.func44
theorem U1 {f g w K}:gV (lD f g w K)
 (Ε w anp 58 λa h=>yV f g h λi b=>(cond (!i) (iE anp b a 0 λc=>f_ c (a.add 0) λj=>f_ c (a.add 1) λk=>f_ c (a.add 2) λl=>f_ c (a.add 3) λm=>f_ c (a.add 4) λn=>f_ c (a.add 5) λo=>f_ c (a.add 6) λp=>Ld .bool c (a.add 7) λq=>K j k l m n o p q false c) (Pt f λr=>Ld .slice b r λs=>iK s 9 g λe=>f_ b (e.add 0) λt=>f_ b (e.add 1) λu=>f_ b (e.add 2) λv=>f_ b (e.add 3) λx=>f_ b (e.add 4) λy=>f_ b (e.add 5) λz=>f_ b (e.add 6) λA=>Ld .bool b (e.add 7) λB=>iE [Β t,Β u,Β v,Β x,Β y,Β z,Β A,.bool B] b a 0 λd=>f_ d (a.add 0) λC=>f_ d (a.add 1) λD=>f_ d (a.add 2) λE=>f_ d (a.add 3) λF=>f_ d (a.add 4) λG=>f_ d (a.add 5) λH=>f_ d (a.add 6) λI=>Ld .bool d (a.add 7) λJ=>K C D E F G H I J true d))):=χ Tryz.func45
theorem Xo {b c d e f g h i j k l m n w K}:gV (FY b c d e f g h i j k l m n w K)
 (Ε w (gX b c d e f g h i j k l) 41 λo r=>Ε r ξ 41 λp a=>iG a o λs t u v x y z A B C D=>f_ a (o.add 6) λE=>yX s t u v x y z A B C D m E n (-1) a λF G H I J L M N O P Q R S=>iE (gX F G H I J L M N O P Q) S p 0 λq=>iG q p λT U V W X Y Z aa ab ac ad=>K T U V W X Y Z aa ab ac ad R q):=χ Tryz.func46
theorem Vq {a w K}:gV (zn a w K)
 (Ε w ξ 41 λb d=>Gh a false d λe f g h i j k l m n o p q=>iE (gX e f g h i j k l m n o) q b 0 λc=>iG c b λr s t u v x y z A B C=>K r s t u v x y z A B C p c):=χ Tryz.func47
theorem Vr {j k l m n g w K}:gV (Ee j k l m n g w K)
 (Ε w [Β l,Β m,.bool n,Δ g] 126 λb d=>f_ d (b.add 0) λr=>f_ d (b.add 1) λs=>Ld .bool d (b.add 2) λt=>Ld .slice d (b.add 3) λu=>Ef r s t u d λo c=>(cond (o !=0) (K ⟨none,0,0⟩ o c) (f_ c (b.add 0) λv=>f_ c (b.add 1) λx=>Ld .bool c (b.add 2) λy=>Ld .slice c (b.add 3) λz=>zu v x y z 0 c λe h=>Ld .bool h (b.add 2) λA=>(cond A (K e 0 h) (BM j k 17 (e.len:Int) h λi B=>Ε B [Δ i,Δ e] 31 λC D=>Gg ⟨(some C),2,2⟩ D λp f=>let q:Int->Prop:=λE=>(f_ f (b.add 0) λF=>f_ f (b.add 1) λG=>Ld .bool f (b.add 2) λH=>Ld .slice f (b.add 3) λI=>zu F G H I E f λJ L=>K J 0 L)
 (cond (p==0) (q 65535) (q p))))))):=χ Tryz.func48
theorem Vp {l m n o p q r s t u v w K}:gV (zi l m n o p q r s t u v w K)
 (Ε w (gX l m n o p q r s t u v) 41 λa x=>let f:Bool->b_:=λC y=>(let d:Bool->b_:=λD b=>(let z:Bool->Prop:=λE=>(let e:Bool->Prop:=λF=>((cond F (K 1 b) (let A:Bool->b_:=λG B=>((cond G (K 6 B) (K 0 B)))
 iG b a λH I J L M N O P Q R S=>xg H I J L M N O P Q R S b λT g=>(cond (decide (T>65535)) (A true g) (f_ g (a.add 2) λU=>Ld .slice g (a.add 10) λV=>A (decide (U>(ο.wrap (65535 - (V.len:Int))))) g)))))
 (cond (!C) (e true) (cond (!D) (e true) (cond (!E) (e true) (Ld .bool b (a.add 8) λW=>(cond W (Ld .slice b (a.add 10) λX=>(8:Int)≠0/\
 e ((Int.tmod (X.len:Int) 8) !=0)) (e false)))))))
 Ld .slice b (a.add 9) λY=>(cond (decide ((Y.len:Int)<=40)) (Ld .slice b (a.add 9) λZ=>(4:Int)≠0/\
 z ((Int.tmod (Z.len:Int) 4)==0)) (z false)))
 f_ y (a.add 5) λaa=>yY aa y λab h=>(cond ab (f_ h (a.add 6) λac=>yY ac h λad c=>(cond ad (f_ c (a.add 2) λae=>(cond (decide (ae>=0)) (f_ c (a.add 2) λaf=>(cond (decide (af<=65528)) (f_ c (a.add 2) λag=>(8:Int)≠0/\
 d ((Int.tmod ag 8)==0) c) (d false c))) (d false c))) (d false c))) (d false h)))
 f_ x a λah=>nS ah 1 x λai i=>(cond ai (f_ i (a.add 3) λaj=>nS aj 1 i λak j=>(cond ak (f_ j (a.add 4) λal=>nS al 1 j λam k=>(cond am (f_ k (a.add 1) λan=>nS an 2 k λao ap=>f ao ap) (f false k))) (f false j))) (f false i))):=χ Tryz.func49
theorem aaF {a w K}:gV (Gg a w K)
 (Du a w λb c=>K (ο.wrap (65535 - b)) c):=χ Tryz.func50
theorem XB {e f g h i j k l m n o p q w K}:gV (AL e f g h i j k l m n o p q w K)
 (Ε w (gX e f g h i j k l m n o) 41 λa b=>f_ b (a.add 2) λr=>(8:Int)≠0/\
 let s:Int->Prop:=λt=>(let u:Int->Prop:=λE=>(iG b.drew a λF G H I J L M N O P Q=>f_ b.drew a λv=>AB F G H I J L M N O P Q b.drew λR x=>x.cell? a=some (Β v)/\
 (4:Int)≠0/\
 Ε x [.int .u8 (IntKind.u8.wrap (ο.wrap (64+(ο.wrap (Int.tdiv R 4))))),.int .u8 (IntKind.u8.wrap v)] 5 λS y=>f_ y.drew (a.add 1) λz=>jy ⟨(some S),2,2⟩ p 2 y.drew λT A=>A.cell? (a.add 1)=some (Β z)/\
 jy T z 2 A λU V=>jy U E 2 V λW c=>f_ c (a.add 3) λX=>f_ c (a.add 4) λY=>Ε c [.int .u8 (IntKind.u8.wrap X),.int .u8 (IntKind.u8.wrap Y)] 5 λZ aa=>nH 5 1 1 [(Value.int .u8 0)] W ⟨(some Z),2,2⟩ aa λab ac=>jy ab q 2 ac λad d=>f_ d.drew (a.add 5) λae=>f_ d.drew (a.add 6) λB=>jy ad ae 4 d.drew λaf C=>C.cell? (a.add 6)=some (Β B)/\
 jy af B 4 C λag D=>Ld .slice D (a.add 9) λah=>nH 5 1 1 [(Value.int .u8 0)] ag ah D λai aj=>K ai aj)
 Ld .bool b (a.add 8) λak=>(cond ak (u (ο.wrap (t+8192))) (u t)))
 Ld .bool b (a.add 7) λal=>(cond al (s (ο.wrap ((ο.wrap (Int.tdiv r 8))+16384))) (s (ο.wrap (Int.tdiv r 8))))):=χ Tryz.func51
theorem XA {e f g h i j k l m n o w K}:gV (xg e f g h i j k l m n o w K)
 (Ε w (gX e f g h i j k l m n o) 41 λc d=>iG d.drew c λq r s t u v x y z A B=>Ld .slice d.drew (c.add 10) λb=>AB q r s t u v x y z A B d.drew λC p=>p.cell? (c.add 10)=some (Δ b)/\
 K (ο.wrap (C+(b.len:Int))) p):=χ Tryz.func52
theorem GK {i m n o p q r s t u v x y z A g w K}:gV (rY i m n o p q r s t u v x y z A g w K)
 (Ε w (gX m n o p q r s t u v x) 41 λh H=>Ε H [Β y,Β z,Β A,Δ g] 97 λe I=>Ε I ξ 41 λc B=>Ld .slice B (e.add 3) λJ=>vK J B λL M N O P Q R S T U V W X Y Z aa=>Ε aa ξ 41 λC ab=>Ε ab anm 102 λj ac=>iE (gX L M N O P Q R S T U V) ac C 0 λad=>iE [Β W,Β X,Β Y] ad j 0 λd=>(cond (Z !=0) (iE ξ d c 0 λD=>iG D c λae af ag ah ai aj ak al am an ao=>K 0 ae af ag ah ai aj ak al am an ao 1 D) (Pt i λap=>Ld .ptr d.drew (ap.add 2) λaq=>f_ d.drew j λar=>f_ d.drew (C.add 5) λau=>f_ d.drew (j.add 1) λav=>pV aq ar au av d.drew λaw ax k=>(cond (!ax) (iE ξ k c 0 λE=>iG E c λay az aA aB aC aD aE aF aG aH aI=>K 0 ay az aA aB aC aD aE aF aG aH aI 9 E) (Pt i λaJ=>Ld .ptr k (aJ.add 2) λaK=>lD aK aw k λaL aM aN aO aP aQ aR aS _ aT=>Ε aT anp 58 λf aU=>iE [Β aL,Β aM,Β aN,Β aO,Β aP,Β aQ,Β aR,.bool aS] aU f 0 λb=>iG b h λaV aW aX aY aZ a1 a2 a3 a4 a6 a8=>f_ b (e.add 0) λba=>f_ b (e.add 1) λbb=>f_ b (e.add 2) λbc=>Ld .slice b (e.add 3) λbd=>f_ b (f.add 2) λbe=>f_ b (f.add 3) λbf=>Dp aV aW aX aY aZ a1 a2 a3 a4 a6 a8 ba bb bc bd true be bf b λbg bh bi bj bk bl bm bn bo bp bq br=>iE (gX bg bh bi bj bk bl bm bn bo bp bq) br h 0 λF=>f_ F (f.add 2) λbs=>St F (h.add 6) (Β bs) λl=>f_ l.drew f λbt=>iG l.drew h λbu bv bw bx bz bA bB bC bD bE bF=>iE (gX bu bv bw bx bz bA bB bC bD bE bF) l.drew c 0 λG=>iG G c λbG bH bI bJ bK bL bM bN bO bP bQ=>K bt bG bH bI bJ bK bL bM bN bO bP bQ 0 G))))):=χ Tryz.func53
theorem RG {b d e f w K}:gV (pV b d e f w K)
 (Ε w [Β d,Β e,Β f] 56 λc j=>mD b j λk a=>(cond (!k) (K 0 false a) (Pt b λg=>Ld .ptr a.drew (g.add 2) λh=>f_ a.drew (c.add 0) λl=>f_ a.drew (c.add 1) λm=>f_ a.drew (c.add 2) λn=>rE l m n a.drew λo i=>i.cell? (g.add 2)=some (.pointer h)/\
 pW h o i λp q r=>K p q r))):=χ Tryz.func54
theorem Lp {j n o p q r s t w K}:gV (qJ j n o p q r s t w K)
 (Ε w [Β n,.bool o,Β p,.bool q,Β r,Β s,Β t] 109 λa A=>Ε A anq 109 λb c=>Ld .bool c (a.add 1) λB=>(cond (!B) (f_ c (a.add 0) λC=>Ld .bool c (a.add 1) λD=>f_ c (a.add 2) λE=>Ld .bool c (a.add 3) λF=>f_ c (a.add 4) λG=>f_ c (a.add 5) λH=>f_ c (a.add 6) λI=>iE [Β C,.bool D,Β E,.bool F,Β G,Β H,Β I] c b 0 λd=>f_ d (b.add 0) λJ=>Ld .bool d (b.add 1) λL=>f_ d (b.add 2) λM=>Ld .bool d (b.add 3) λN=>f_ d (b.add 4) λO=>f_ d (b.add 5) λP=>f_ d (b.add 6) λQ=>K J L M N O P Q d) (Pt j λR=>Ld .ptr c.drew (R.add 3) λS=>f_ c.drew a λT=>f_ c.drew ((a.add 5).add 0) λU=>f_ c.drew ((a.add 5).add 1) λV=>oV S T U V c.drew λW X Y=>St Y (a.add 2) (Β W) λZ=>St Z (a.add 3) (.bool X) λg=>let u:b_:=λe=>(f_ e (a.add 0) λaa=>Ld .bool e (a.add 1) λab=>f_ e (a.add 2) λac=>Ld .bool e (a.add 3) λad=>f_ e (a.add 4) λae=>f_ e (a.add 5) λaf=>f_ e (a.add 6) λag=>iE [Β aa,.bool ab,Β ac,.bool ad,Β ae,Β af,Β ag] e b 0 λf=>f_ f (b.add 0) λah=>Ld .bool f (b.add 1) λai=>f_ f (b.add 2) λaj=>Ld .bool f (b.add 3) λak=>f_ f (b.add 4) λal=>f_ f (b.add 5) λam=>f_ f (b.add 6) λan=>K ah ai aj ak al am an f)
 Ld .bool g (a.add 3) λao=>(cond ao (let v:Addr->b_:=λap x=>(f_ x (ap.add 1) λaq=>St x (a.add 4) (Β aq) λar=>u ar)
 Pt j λk=>Ld .ptr g.drew (k.add 3) λh=>f_ g.drew (a.add 2) λi=>(nK h i g.drew λau av aw ax ay _ az=>Ε az anr 149 λy l=>Ci l a 2 i<|Cs l k 3 (.pointer h)<|iE [Β au,Β av,Β aw,Β ax,Β ay] l y 0 λaA=>v y aA)/\
 (Ε g.drew anr 149 λz m=>Ci m a 2 i<|Cs m k 3 (.pointer h)<|nK h i m λaB aC aD aE aF _ aG=>iE [Β aB,Β aC,Β aD,Β aE,Β aF] aG z 0 λaH=>v z aH)) (u g))))):=χ Tryz.func55
theorem RV {b e f c w K}:gV (BG b e f c w K)
 (Ε w [Β e,Β f] 107 λd a=>(cond (b==0) (K true a) (cond (b==1) (lC c (Value.func (.func 126) #[] #[(Value.pointer (some d))]) a λg h=>K g h) (cond (b==2) (f_ a (d.add 0) λi=>f_ a (d.add 1) λj=>mV c i j a λk l=>K k l) (K false a))))):=χ Tryz.func56
theorem LC {j k w K}:gV (wo j k w K)
 (Ε w [.slice none 0 0] 137 λf l=>Pt j λo=>Ld .ptr l (o.add 3) λp=>oC p k l λq c=>xO υ none [.one ν,.agg [ν,ν,ν,ν,ν]] q c (λb d m r=>Ε m anr 149 λg s=>iE [Β d.2.1.1,Β d.2.1.2.1,Β d.2.1.2.2.1,Β d.2.1.2.2.2.1,Β d.2.1.2.2.2.2.1] s g 0 λe=>e.heap[b]? =m.heap[b]? /\
 Ld .slice (gQ e b) f λt=>f_ (gQ e b) ((g.add 3).add 0) λu=>f_ (gQ e b) ((g.add 3).add 1) λv=>Al (gQ e b) (.cells ⟨[Β u,Β v]⟩ 107) λx y=>nH 107 2 16 [(Β 0),(Β 0)] t ⟨(some x),1,1⟩ y λh z=>St z f (Δ h) λA=>r .normal A)
 (λi=>Ld .slice i f λB=>Η i c/\
 K B (Ζ i c))
 (λn=>Η n c/\
 K ⟨none,0,0⟩ (Ζ n c))
 []):=χ Tryz.func57 (gB (gB (.seq (gB (.blk (.rng [.one ν,.agg [ν,ν,ν,ν,ν]] .leaf .leaf))) .leaf)))
theorem Jq {e g h i j k l m n o p q r s t u v x y w K}:gV (uY e g h i j k l m n o p q r s t u v x y w K)
 (Ε w [Β g,.bool h,Β i,.bool j,Β k,Β l,Β m] 109 λa A=>Ε A (gX n o p q r s t u v x y) 41 λf b=>f_ b (f.add 4) λB=>(cond (B !=6) (K 0 b) (f_ b (a.add 0) λC=>Ld .bool b (a.add 1) λD=>f_ b (a.add 2) λE=>Ld .bool b (a.add 3) λF=>f_ b (a.add 4) λG=>f_ b (a.add 5) λH=>f_ b (a.add 6) λI=>iG b f λJ L M N O P Q R S T U=>Dl C D E F G H I J L M N O P Q R S T U false b λV W d=>(cond (!W) (K 8 d) (let z:Bool->b_:=λX c=>((cond X (K 6 c) (f_ c (a.add 0) λY=>Ld .bool c (a.add 1) λZ=>f_ c (a.add 2) λaa=>Ld .bool c (a.add 3) λab=>f_ c (a.add 4) λac=>f_ c (a.add 5) λad=>f_ c (a.add 6) λae=>f_ c (f.add 4) λaf=>oz e Y Z aa ab ac ad ae af V c λag=>K 0 ag)))
 Ld .bool d (a.add 3) λah=>(cond (!ah) (oH e d λai aj=>z ai aj) (z false d))))))):=χ Tryz.func58
theorem aaD {b c d e f g h i j k l m n w K}:gV (MV b c d e f g h i j k l m n w K)
 (Ε w (gX b c d e f g h i j k l) 41 λo r=>Ε r ξ 41 λp a=>iG a o λs t u v x y z A B C D=>f_ a (o.add 5) λE=>yX s t u v x y z A B C D E m (-1) n a λF G H I J L M N O P Q R S=>iE (gX F G H I J L M N O P Q) S p 0 λq=>iG q p λT U V W X Y Z aa ab ac ad=>K T U V W X Y Z aa ab ac ad R q):=χ Tryz.func59
theorem Qq {a c w K}:gV (rF a c w K)
 (let d:Bool->b_:=λe f=>(K e f)
 kM a w λg b=>(cond g (Pt a λh=>Ld .slice b (h.add 2) λi=>jd i c b λj k=>d j k) (d false b))):=χ Tryz.func60
theorem qA {d e w K}:gV (lJ d e w K)
 (iQ (S:=Int×Unit) (λc a h=>(cond (decide (c.1<(d.len:Int))) (iK d 8 c.1 λb=>f_ a (b.add 0) λi=>f_ a (b.add 1) λj=>f_ a (b.add 2) λk=>f_ a (b.add 3) λl=>f_ a (b.add 4) λm=>f_ a (b.add 5) λn=>f_ a (b.add 6) λo=>Ld .bool a (b.add 7) λp=>jF υ [.one .bool] e [(Value.agg ⟨[Β i,Β j,Β k,Β l,Β m,Β n,Β o,.bool p]⟩)] a λq f=>∃g:Bool,q=(Value.bool g)/\
 (cond g (K c.1 f) (h ((ο.wrap (c.1+1)),()) f))) (K (-1) a))) (0,()) w):=χ Tryz.func61 (gB (.seq (gB (.blk (.loop [(8,ν)] .leaf))) .leaf))
theorem NP {b w K}:gV (oW b w K)
 (lV b w λc a=>(cond (!c) (K 0 a) (Pt b λd=>Ld .map a (d.add 448) λe=>TJ a e λf=>K f a))):=χ Tryz.func62
theorem U0 {a w K}:gV (yU a w K)
 (iP (Value.pointer a)=true/\
 Ε w [.pointer a] 76 λb c=>K (Value.func (.func 131) #[] #[(Value.pointer (some b))]) c):=χ Tryz.func63
theorem Jz {a w K}:gV (u_ a w K)
 (iP (Value.pointer a)=true/\
 Ε w [.pointer a] 77 λb c=>K (Value.func (.func 132) #[] #[(Value.pointer (some b))]) c):=χ Tryz.func64
theorem G5 {b a w K}:gV (sD b a w K)
 (lV b w λi d=>(cond (!i) (K ⟨none,0,0⟩ d) (Pt b λj=>f_ d (j.add 449) λc=>iQ (S:=gG×Unit) (λe k l=>wE b k λf m g=>let h:Bool->Prop:=λn=>((cond n (oZ b (if (if (1099511627776:Int)<a then 1099511627776 else a)>c then (if (1099511627776:Int)<a then 1099511627776 else a) else c) g λo=>K e.1 o) (oZ b f g λp=>xk b p λq r=>nH 3 1 8 [(Β 0)] e.1 q r λs t=>l (s,()) t)))
 (cond (!m) (h true) (h (decide (f>(if (if (1099511627776:Int)<a then 1099511627776 else a)>c then (if (1099511627776:Int)<a then 1099511627776 else a) else c)))))) (⟨none,0,0⟩,()) d))):=χ Tryz.func65 (gB (gB (gB (gB (gB (.seq (.blk (.loop [(5,.slice)] .leaf)) .leaf))))))
theorem JA {f g w K}:gV (nK f g w K)
 (Ε w anr 149 λa h=>nM f g h λi b=>(cond (!i) (iE anr b a 0 λc=>f_ c (a.add 0) λj=>f_ c (a.add 1) λk=>f_ c (a.add 2) λl=>f_ c (a.add 3) λm=>f_ c (a.add 4) λn=>K j k l m n false c) (Pt f λo=>Ld .slice b o λp=>iK p 6 g λe=>f_ b (e.add 0) λq=>f_ b (e.add 1) λr=>f_ b (e.add 2) λs=>f_ b (e.add 3) λt=>f_ b (e.add 4) λu=>iE [Β q,Β r,Β s,Β t,Β u] b a 0 λd=>f_ d (a.add 0) λv=>f_ d (a.add 1) λx=>f_ d (a.add 2) λy=>f_ d (a.add 3) λz=>f_ d (a.add 4) λA=>K v x y z A true d))):=χ Tryz.func66
theorem Fa {b m w K}:gV (nU b m w K)
 (iP (Β m)=true/\
 Ε w [Β m] 3 λg p=>f_ p g λD=>nM b D p λE c=>(cond (!E) (K false c) (Pt b λq=>Ld .slice c.drew q λi=>f_ c.drew g λr=>iK i 6 r λd=>f_ c.drew (d.add 0) λs=>f_ c.drew (d.add 1) λt=>f_ c.drew (d.add 2) λu=>f_ c.drew (d.add 3) λv=>f_ c.drew (d.add 4) λx=>Ε c.drew anr 149 λe f=>Cj f d s t<|Ci f d 2 u<|Ci f d 3 v<|Ci f d 4 x<|Cw f g (Β r)<|Cw f q (Δ i)<|iE [Β s,Β t,Β u,Β v,Β x] f e 0 λh=>Pt b λy=>Ld .ptr h.drew (y.add 1) λz=>f_ h.drew e λF=>f_ h.drew ((e.add 3).add 0) λG=>f_ h.drew ((e.add 3).add 1) λH=>vN F G H h.drew λI A=>Cs A y 1 (.pointer z)<|nI z I A λ _ j=>Pt b λJ=>Ld .map j.drew (J.add 2) λL=>f_ j.drew e λM=>qF υ 3 .slice L (Β M) (Value.slice none 0 0) j.drew λN=>nX N (Value.func (.func 141) #[] #[(Value.pointer (some g))]) j.drew λk n=>Pt b λO=>Ld .map n.drew (O.add 2) λP=>f_ n.drew e λQ=>pq υ 3 P (Β Q) (Δ k) n.drew λl=>let B:b_:=λo=>(Pt b λR=>Ld .slice o.drew R λS=>f_ o.drew g λT=>iK S 6 T λU=>iE anA o.drew U 0 λC=>Pt b λV=>f_ C (V.add 3) λW=>Pt b λX=>St C (X.add 3) (Β (ο.wrap (W - 1))) λY=>K true Y)
 (cond ((k.len:Int)==0) (Pt b λZ=>Ld .map l.drew (Z.add 2) λaa=>f_ l.drew e λab=>FB υ 3 aa (Β ab) l.drew λac=>B ac) (B l))))):=χ Tryz.func67
theorem H7 {d e w K}:gV (tJ d e w K)
 (Ε w [.bool false] 4 λb j=>Pt d λn=>Ld .ptr j (n.add 2) λo=>lD o e j λp q r s t u v x y z=>Ε z anp 58 λk A=>iE [Β p,Β q,Β r,Β s,Β t,Β u,Β v,.bool x] A k 0 λc=>let l:Bool->Prop:=λB=>((cond B (St c b (.bool false) λm=>Ld .bool m b λC=>K C m) (Pt d λD=>Ld .ptr c (D.add 3) λE=>oC E e c λF a=>xO υ none [.one ν,.agg [ν,ν,ν,ν,ν]] F a (λf _ g G=>g.heap[f]? =g.heap[f]? /\
 St (gQ g f) b (Value.bool false) λH=>G .ret H)
 (λI=>St I b (.bool true) λh=>Η h a/\
 Ld .bool (Ζ h a) b λJ=>K J (Ζ h a))
 (λi=>Η i a/\
 Ld .bool (Ζ i a) b λL=>K L (Ζ i a))
 [])))
 (cond (!y) (l true) (Ld .bool c (k.add 7) λM=>l M))):=χ Tryz.func68 (gB (gB (gB (.seq (gB (.blk (.rng [.one ν,.agg [ν,ν,ν,ν,ν]] .leaf .leaf))) .leaf))))
theorem GL {a d w K}:gV (kQ a d w K)
 (Pt a λh=>Ld .ptr w (h.add 2) λi=>lD i d w λj k l m n o p q r s=>Ε s anp 58 λb t=>iE [Β j,Β k,Β l,Β m,Β n,Β o,Β p,.bool q] t b 0 λf=>(cond (!r) (K f) (nJ a d f λg=>Pt a λu=>Ld .ptr g (u.add 2) λv=>yh v d g λ _ c=>Pt a λx=>Ld .ptr c.drew x λy=>f_ c.drew ((b.add 4).add 0) λz=>f_ c.drew ((b.add 4).add 1) λA=>f_ c.drew ((b.add 4).add 2) λB=>yA y z A B c.drew λ _ e=>Pt a λC=>Ld .ptr e.drew (C.add 1) λD=>f_ e.drew b λE=>wu D E e.drew λ _ F=>K F))):=χ Tryz.func69
theorem Qv {t u v x y z A B C D E F G H I J L M N O P Q R S T U V W X Y Z aa ab ac ad ae w K}:gV (Ae t u v x y z A B C D E F G H I J L M N O P Q R S T U V W X Y Z aa ab ac ad ae w K)
 (Ε w (jO t u v x y z A B C D E F G H I J L M N O P Q R S T U V W X Y Z aa ab ac ad ae) 28 λa w2=>let d:Bool->b_:=λj5 w6=>(let b:Bool->b_:=λj8 w9=>(let e:Bool->b_:=λak f=>(let g:Bool->b_:=λal am=>(K al am)
 (cond j5 (cond j8 (cond ak (f_ f (a.add 18) λan=>iY an 1 65535 f λao h=>(cond ao (f_ h (a.add 19) λap=>f_ h (a.add 18) λaq=>iY ap aq 65535 h λar au=>g ar au) (g false h))) (g false f)) (g false f)) (g false f)))
 f_ w9 (a.add 30) λav=>iY av 120 1048576 w9 λaw i=>(cond aw (f_ i (a.add 31) λax=>iY ax 7440 1048576 i λay j=>(cond ay (f_ j (a.add 32) λaz=>iY az 240 1048576 j λaA k=>(cond aA (f_ k (a.add 33) λaB=>iY aB 60 1048576 k λaC l=>(cond aC (f_ l (a.add 34) λaD=>iY aD 1 1048576 l λaE aF=>e aE aF) (e false l))) (e false k))) (e false j))) (e false i)))
 f_ w6 (a.add 25) λaG=>iY aG 1280 65535 w6 λaH m=>(cond aH (f_ m (a.add 26) λaI=>iY aI 1280 65535 m λaJ n=>(cond aJ (f_ n (a.add 27) λaK=>iY aK 1 255 n λaL c=>(cond aL (f_ c (a.add 28) λaM=>(cond (aM==0) (f_ c (a.add 29) λaN=>iY aN 0 2 c λaO aP=>b aO aP) (f_ c (a.add 28) λaQ=>iY aQ 536 65535 c λaR o=>(cond aR (f_ o (a.add 29) λaS=>iY aS 0 2 o λaT aU=>b aT aU) (b false o))))) (b false c))) (b false n))) (b false m)))
 f_ w2 (a.add 20) λaV=>iY aV 1 4096 w2 λaW p=>(cond aW (f_ p (a.add 21) λaX=>iY aX 1 4096 p λaY q=>(cond aY (f_ q (a.add 22) λaZ=>iY aZ 1 4096 q λa0 r=>(cond a0 (f_ r (a.add 23) λa1=>iY a1 0 4096 r λa2 s=>(cond a2 (f_ s (a.add 24) λa4=>iY a4 0 67108864 s λa5 a6=>d a5 a6) (d false s))) (d false r))) (d false q))) (d false p))):=χ Tryz.func70
theorem Vw {m n o p q r s t u v x y z A B C D E F G H I J L M N O P Q R T U V W X Y w K}:gV (Ei m n o p q r s t u v x y z A B C D E F G H I J L M N O P Q R T U V W X Y w K)
 (Ε w (jO m n o p q r s t u v x y z A B C D E F G H I J L M N O P Q R T U V W X Y) 28 λa Z=>let e:Bool->b_:=λj5 w6=>((cond j5 (K false w6) (iQ (S:=Int×Unit) (λh f af=>Ld .slice f (a.add 16) λag=>(cond (decide (h.1<(ag.len:Int))) (Ld .slice f (a.add 16) λah=>iK ah 16 h.1 λai=>vI f ai λaj ak al am an ao ap aq ar au av aw ax ay az aA=>AA aj ak al am an ao ap aq ar au av aw ax ay az aA f λaB ab=>(cond (!aB) (K false ab) (af ((ο.wrap (h.1+1)),()) ab))) (iQ (S:=Int×Unit) (λi g aC=>Ld .slice g (a.add 17) λaD=>(cond (decide (i.1<(aD.len:Int))) (Ld .slice g (a.add 17) λaE=>iK aE 1 i.1 λaF=>f_ g aF λaG=>Az aG g λaH ac=>(cond (!aH) (K false ac) (aC ((ο.wrap (i.1+1)),()) ac))) (iQ (S:=Int×Unit) (λj b aI=>Ld .slice b (a.add 35) λaJ=>(cond (decide (j.1<(aJ.len:Int))) (tC b.drew a λaK aL aM aN aO aP aQ aR aS aT aU aV aW aX aY aZ a0 a1 a2 a4 a5 a6 a7 a8 a9 ba bb bc bd be bf bg bh bi bj bk=>Ld .slice b.drew (a.add 35) λbl=>iK bl 7 j.1 λc=>f_ b.drew (c.add 0) λbm=>f_ b.drew (c.add 1) λbn=>f_ b.drew (c.add 2) λbo=>f_ b.drew (c.add 3) λbp=>f_ b.drew (c.add 4) λbq=>f_ b.drew (c.add 5) λbr=>f_ b.drew (c.add 6) λbs=>BN aK aL aM aN aO aP aQ aR aS aT aU aV aW aX aY aZ a0 a1 a2 a4 a5 a6 a7 a8 a9 ba bb bc bd be bf bg bh bi bj bk bm bn bo bp bq br bs b.drew λbt ad=>(cond (!bt) (K false ad) (aI ((ο.wrap (j.1+1)),()) ad))) (K true b))) (0,()) g))) (0,()) f))) (0,()) w6)))
 vI Z a λbu bv bw bx bz bA bB bC bD bE bF bG bH bI bJ bK=>AA bu bv bw bx bz bA bB bC bD bE bF bG bH bI bJ bK Z λbL k=>(cond (!bL) (e true k) (Ld .slice k (a.add 16) λbM=>iY (bM.len:Int) 1 64 k λbN l=>(cond (!bN) (e true l) (Ld .slice l (a.add 17) λbO=>iY (bO.len:Int) 1 16 l λbP d=>(cond (!bP) (e true d) (Ld .slice d (a.add 35) λbQ=>(cond (decide ((bQ.len:Int)>64)) (e true d) (Ld .slice d (a.add 35) λbR=>f_ d (a.add 21) λbS=>e (decide ((bR.len:Int)>bS)) d))))))))):=χ Tryz.func71 (gB (gB (.seq (gB (.blk (.loop [(3,ν)] .leaf))) (.seq (gB (.blk (.loop [(4,ν)] .leaf))) (.seq (gB (.blk (.loop [(5,ν)] .leaf))) .leaf)))))
theorem Vx {s t u v x y z A B C D E F G H I J L M N O P Q R T U V W X Y Z aa ab ac ad ae w K}:gV (Ej s t u v x y z A B C D E F G H I J L M N O P Q R T U V W X Y Z aa ab ac ad ae w K)
 (Ε w (jO s t u v x y z A B C D E F G H I J L M N O P Q R T U V W X Y Z aa ab ac ad ae) 28 λb w2=>iQ (S:=Int×Unit) (λh l ai=>Ld .slice l (b.add 16) λx7=>(cond (decide (h.1<(x7.len:Int))) (iQ (S:=Int×Unit) (λm c ak=>(cond (decide (m.1<h.1)) (Ld .slice c.drew (b.add 16) λal=>iK al 16 m.1 λam=>vI c.drew am λan ao ap aq ar au av aw ax ay az aA aB aC aD aE=>Ld .slice c.drew (b.add 16) λaF=>iK aF 16 h.1 λaG=>vI c.drew aG λaH aI aJ aK aL aM aN aO aP aQ aR aS aT aU aV aW=>(cond ((an==aH) && ((ao==aI) && ((ap==aJ) && ((aq==aK) && ((ar==aL) && ((au==aM) && ((av==aN) && ((aw==aO) && ((ax==aP) && ((ay==aQ) && ((az==aR) && ((aA==aS) && ((aB==aT) && ((aC==aU) && ((aD==aV) && ((aE==aW) && true)))))))))))))))) (K true c.drew) (ak ((ο.wrap (m.1+1)),()) c.drew))) (Ld .slice c.drew (b.add 16) λaX=>iK aX 16 h.1 λaY=>vI c.drew aY λaZ a0 a1 a2 a4 a5 a6 a7 a8 a9 ba bb bc bd be bf=>vI c.drew b λbg bh bi bj bk bl bm bn bo bp bq br bs bt bu bv=>(cond ((aZ==bg) && ((a0==bh) && ((a1==bi) && ((a2==bj) && ((a4==bk) && ((a5==bl) && ((a6==bm) && ((a7==bn) && ((a8==bo) && ((a9==bp) && ((ba==bq) && ((bb==br) && ((bc==bs) && ((bd==bt) && ((be==bu) && ((bf==bv) && true)))))))))))))))) (K true c.drew) (ai ((ο.wrap (h.1+1)),()) c.drew))))) (0,()) l) (iQ (S:=Int×Unit) (λi n bw=>Ld .slice n (b.add 17) λbx=>(cond (decide (i.1<(bx.len:Int))) (iQ (S:=Int×Unit) (λo e bz=>(cond (decide (o.1<i.1)) (Ld .slice e.drew (b.add 17) λbA=>iK bA 1 o.1 λbB=>f_ e.drew bB λbC=>Ld .slice e.drew (b.add 17) λbD=>iK bD 1 i.1 λbE=>f_ e.drew bE λbF=>(cond (bC==bF) (K true e.drew) (bz ((ο.wrap (o.1+1)),()) e.drew))) (bw ((ο.wrap (i.1+1)),()) e))) (0,()) n) (iQ (S:=Int×Unit) (λg p bG=>Ld .slice p (b.add 35) λbH=>(cond (decide (g.1<(bH.len:Int))) (iQ (S:=Int×Int×Unit) (λd a bI=>(cond (decide (d.2.1<g.1)) (let af:Int->b_:=λbJ bK=>(bI (bJ,(ο.wrap (d.2.1+1)),()) bK)
 let ag:Bool->b_:=λbL f=>((cond bL (K true f) (Ld .slice f.drew (b.add 35) λbM=>iK bM 7 d.2.1 λbN=>f_ f.drew bN λbO=>Ld .slice f.drew (b.add 35) λbP=>iK bP 7 g.1 λbQ=>f_ f.drew bQ λbR=>(cond (bO==bR) (af (ο.wrap (d.1+1)) f.drew) (af d.1 f.drew)))))
 Ld .slice a.drew (b.add 35) λbS=>iK bS 7 d.2.1 λj=>f_ a.drew (j.add 0) λbT=>f_ a.drew (j.add 1) λbU=>f_ a.drew (j.add 2) λbV=>f_ a.drew (j.add 3) λbW=>Ld .slice a.drew (b.add 35) λbX=>iK bX 7 g.1 λk=>f_ a.drew (k.add 0) λbY=>f_ a.drew (k.add 1) λbZ=>f_ a.drew (k.add 2) λb0=>f_ a.drew (k.add 3) λb1=>(cond ((bT==bY) && ((bU==bZ) && ((bV==b0) && ((bW==b1) && true)))) (ag true a.drew) (Ld .slice a.drew (b.add 35) λb2=>iK b2 7 d.2.1 λq=>f_ a.drew ((q.add 4).add 0) λb3=>f_ a.drew ((q.add 4).add 1) λb4=>f_ a.drew ((q.add 4).add 2) λb5=>Ld .slice a.drew (b.add 35) λb6=>iK b6 7 g.1 λr=>f_ a.drew ((r.add 4).add 0) λb7=>f_ a.drew ((r.add 4).add 1) λb8=>f_ a.drew ((r.add 4).add 2) λb9=>ag ((b3==b7) && ((b4==b8) && ((b5==b9) && true))) a.drew))) (f_ a (b.add 20) λca=>(cond (decide (d.1>ca)) (K true a) (bG ((ο.wrap (g.1+1)),()) a))))) (1,0,()) p) (K false p))) (0,()) n))) (0,()) l))) (0,()) w2):=χ Tryz.func72 (gB (.seq (gB (.blk (.loop [(3,ν)] (gB (.seq (.blk (.seq (gB (.blk (.loop [(4,ν)] .leaf))) .leaf)) .leaf))))) (.seq (gB (.blk (.loop [(5,ν)] (gB (.seq (.blk (gB (.blk (.loop [(6,ν)] .leaf)))) .leaf))))) (.seq (gB (.blk (.loop [(7,ν)] (gB (.seq (.blk (gB (.seq (gB (.blk (.loop [(8,ν),(9,ν)] .leaf))) .leaf))) .leaf))))) .leaf))))
theorem Qo {c d e f g h i j k l m n o p q r s t u v x y z A B C D E F G H I J L M N w K}:gV (z_ c d e f g h i j k l m n o p q r s t u v x y z A B C D E F G H I J L M N w K)
 (Ε w (jO c d e f g h i j k l m n o p q r s t u v x y z A B C D E F G H I J L M N) 28 λb a=>Ld .slice a (b.add 16) λP=>Ld .slice a (b.add 17) λQ=>Ld .slice a (b.add 35) λR=>f_ a (b.add 21) λO=>f_ a (b.add 18) λS=>f_ a (b.add 19) λT=>f_ a (b.add 18) λU=>f_ a (b.add 20) λV=>f_ a (b.add 21) λW=>f_ a (b.add 22) λX=>f_ a (b.add 23) λY=>f_ a (b.add 24) λZ=>f_ a (b.add 25) λaa=>f_ a (b.add 26) λab=>f_ a (b.add 27) λac=>f_ a (b.add 29) λad=>f_ a (b.add 30) λae=>f_ a (b.add 31) λaf=>f_ a (b.add 32) λag=>f_ a (b.add 33) λah=>f_ a (b.add 34) λai=>Ε a (akI (P.len:Int) 1 64 (Q.len:Int) 1 16 (R.len:Int) 0 (if O<64 then O else 64) S 1 65535 T U 65535 V 1 4096 W 1 4096 X 1 4096 Y 0 4096 Z 0 67108864 aa 1280 65535 ab 1280 65535 ac 1 255 ad 0 2 ae 120 1048576 af 7440 1048576 ag 240 1048576 ah 60 1048576 ai 1 1048576) 158 λaj ak=>K ⟨(some aj),19,19⟩ ak):=χ Tryz.func74
theorem Nw {c d e w K}:gV (lH c d e w K)
 (Ε w [Β c,Β d,Β e] 158 λb a=>let f:Bool->Prop:=λg=>(K g a)
 f_ a (b.add 1) λh=>f_ a b λi=>(cond (decide (h<=i)) (f_ a b λj=>f_ a (b.add 2) λk=>f (decide (j<=k))) (f false))):=χ Tryz.func75
theorem RU {a w K}:gV (BF a w K)
 (let b:Bool->b_:=λc d=>(K c d)
 (cond (a==0) (b true w) (lH a 536 65535 w λe f=>b e f))):=χ Tryz.func76
theorem RQ {e f g h i j k l m n o p q r s t u v x y z A B C D E F G H I J L M N O P w K}:gV (BA e f g h i j k l m n o p q r s t u v x y z A B C D E F G H I J L M N O P w K)
 (Ε w (jO e f g h i j k l m n o p q r s t u v x y z A B C D E F G H I J L M N O P) 28 λa Q=>let R:Bool->b_:=λW b=>((cond W (K false b) (let S:Bool->b_:=λX T=>((cond X (K false T) (K true T)))
 Ld .slice b (a.add 17) λY=>kN Y (Value.func (.func 151) #[] #[]) b λU c=>(cond U (S U c) (Ld .slice c (a.add 35) λZ=>jI Z (Value.func (.func 152) #[] #[(Value.pointer (some a))]) c λaa ab=>S aa ab)))))
 vI Q a λac ad ae af ag ah ai aj ak al am an ao ap aq ar=>Gl ac ad ae af ag ah ai aj ak al am an ao ap aq ar Q λV d=>(cond (!V) (R (!V) d) (Ld .slice d (a.add 16) λau=>kH au (Value.func (.func 149) #[] #[]) d λav aw=>R av aw))):=χ Tryz.func77
theorem OM {F G H I J L M N O P Q R T U V W X Y Z aa ab ac ad ae af ag ah ai aj ak al am an ao ap aq w K}:gV (yj F G H I J L M N O P Q R T U V W X Y Z aa ab ac ad ae af ag ah ai aj ak al am an ao ap aq w K)
 (Ε w (jO F G H I J L M N O P Q R T U V W X Y Z aa ab ac ad ae af ag ah ai aj ak al am an ao ap aq) 28 λb f=>let J4:gG->b_:=λj5 w6=>(let g:Bool->b_:=λj8 y=>((cond j8 (K true y) (Ld .slice y (b.add 16) λau=>Ϙ 3 1 8 [(Β 0)] (au.len:Int) (au.len:Int) y λz av=>Ld .slice av (b.add 35) λaw=>iQ (S:=Int×Unit) (λA c aG=>(cond (decide (A.1<(aw.len:Int))) (iK aw 7 A.1 λe=>f_ c (e.add 0) λaH=>f_ c (e.add 1) λaI=>f_ c (e.add 2) λaJ=>f_ c (e.add 3) λaK=>f_ c (e.add 4) λaL=>f_ c (e.add 5) λaM=>f_ c (e.add 6) λaN=>Ε c anv 70 λax aO=>iE [Β aH,Β aI,Β aJ,Β aK,Β aL,Β aM,Β aN] aO ax 0 λB=>f_ B ax λay=>iK z 1 ay λaP=>f_ B aP λaQ=>iK z 1 ay λaR=>St B aR (Β (ο.wrap (aQ+1))) λaS=>aG ((ο.wrap (A.1+1)),()) aS) (kN z (Value.func (.func 170) #[] #[(Value.pointer (some b))]) c λaT aU=>K aT aU))) (0,()) av)))
 mZ j5 (Value.func (.func 162) #[] #[]) w6 λaV aW=>qH aV aW λaX C=>(cond aX (g true C) (Ld .slice C (b.add 17) λaY=>rX aY (Value.func (.func 165) #[] #[]) C λaZ a0=>vX aZ a0 λa1 D=>(cond a1 (g true D) (Ld .slice D (b.add 35) λa2=>kV a2 (Value.func (.func 158) #[] #[]) D λa4 a5=>pz a4 a5 λa6 E=>(cond a6 (g true E) (Ld .slice E (b.add 35) λa7=>kW a7 (Value.func (.func 159) #[] #[]) E λa8 a9=>pF a8 a9 λba bb=>g ba bb)))))))
 Ld .slice f.drew (b.add 16) λd=>vI f.drew b λh i j k l m n o p q r s t u v x=>(kF d f.drew λbc az=>WB (og h i j k l m n o p q r s t u v x) az b 0 (
 Ε az (og h i j k l m n o p q r s t u v x) 23 λbd aA=>aA.cell? (b.add 16)=some (Δ d)/\
 nH 23 16 16 (og 0 0 0 0 0 0 0 0 0 0 0 0 0 0 0 0) bc ⟨(some bd),1,1⟩ aA λbe bf=>J4 be bf))/\
 (Ε f.drew (og h i j k l m n o p q r s t u v x) 23 λbg aB=>aB.cell? (b.add 16)=some (Δ d)/\
 kF d aB λbh aC=>WB (og h i j k l m n o p q r s t u v x) aC b 0 (
 nH 23 16 16 (og 0 0 0 0 0 0 0 0 0 0 0 0 0 0 0 0) bh ⟨(some bg),1,1⟩ aC λbi bj=>J4 bi bj))):=χ Tryz.func78 (gB (gB (gB (gB (gB (gB (.seq (gB (.blk (.loop [(46,ν)] .leaf))) .leaf)))))))
theorem OV {a w K}:gV (tH a w K)
 (mX a w λc b=>(cond (!c) (K false b) (Ε b [Β 0,Β 8,Β 2130706432,Β 8,Β 3758096384,Β 3] 278 λd e=>TW a ⟨(some d),3,3⟩ e λf g=>K (!f) g))):=χ Tryz.func79
theorem ug {a b w K}:gV (jd a b w K)
 (nY a b w λc d=>K (decide (c>=0)) d):=χ Tryz.func80
theorem Fb {b w K}:gV (nV b w K)
 ((cond (Option.isNone b.a) (K ⟨none,0,0⟩ w) (Ε w [] 3 λc d=>nH 3 1 8 [(Β 0)] ⟨(some c),0,0⟩ b d λe f=>K e f))):=χ Tryz.func81
theorem aax {a w K}:gV (BH a w K)
 (let b:Bool->Prop:=λc=>((cond c (K none 1 w) (Ε w [.slice none 0 0,Β 0,Β a,.bool true] 282 λd e=>K (some d) 0 e)))
 (cond (decide (a<0)) (b true) (b (decide (a>65536))))):=χ Tryz.func82
theorem NJ {g l m n o p q r w K}:gV (wX g l m n o p q r w K)
 (Ε w [Β l,Β m,Β n,Β o,Β p,Β q,Β r] 70 λa d=>f_ d (a.add 1) λc=>let h:Bool->Prop:=λs=>((cond s (let e:Bool->b_:=λt b=>(let i:Bool->b_:=λu v=>(K u v)
 (cond t (f_ b (a.add 1) λx=>f_ b (a.add 4) λy=>(cond (x==y) (f_ b a λz=>nR g z b λA B=>i A B) (i false b))) (i false b)))
 f_ d.drew (a.add 2) λC=>tH C d.drew λD f=>(cond D (Pt g λE=>Ld .ptr f E λF=>f_ f ((a.add 4).add 1) λG=>rF F G f λH j=>(cond H (f_ j (a.add 3) λI=>Dk I j λJ k=>(cond J (f_ k ((a.add 4).add 2) λL=>Dk L k λM N=>e M N) (e false k))) (e false j))) (e false f))) (K false d)))
 (cond (c==1) (h (c==1)) (cond (c==6) (h (c==6)) (h (c==17))))):=χ Tryz.func83
theorem RH {c d e f g w K}:gV (oq c d e f g w K)
 (Ε w [Β d,Β e,Β f,Β g] 54 λb k=>mD c k λl a=>(cond (!l) (K 0 false a) (Pt c λh=>Ld .ptr a.drew (h.add 1) λi=>f_ a.drew (b.add 0) λm=>f_ a.drew (b.add 1) λn=>f_ a.drew (b.add 2) λo=>f_ a.drew (b.add 3) λp=>rD m n o p a.drew λq j=>j.cell? (h.add 1)=some (.pointer i)/\
 pW i q j λr s t=>K r s t))):=χ Tryz.func84
theorem Jv {b c w K}:gV (pK b c w K)
 (pY b c w λd e a=>(cond (e !=0) (K 0 a) (Pt d λf=>f_ a f λg=>K g a))):=χ Tryz.func85
theorem Lr {a w K}:gV (qK a w K)
 (Pt a λe=>Ld .ptr w.drew (e.add 2) λf=>Pt a λb=>f_ w.drew ((b.add 5).add 21) λc=>D7 f w.drew λg d=>d.cell? ((b.add 5).add 21)=some (Β c)/\
 K (decide (g>=c)) d):=χ Tryz.func86
theorem LH {d e w K}:gV (qM d e w K)
 (pY d e w λb f a=>(cond (f !=0) (K f a) (Pt b λg=>f_ a (g.add 0) λh=>f_ a (g.add 1) λi=>wz h i a λj c=>(cond j (K 10 c) (Pt b λk=>f_ c k λl=>Pt b λm=>St c m (Β (ο.wrap (l+1))) λn=>K 0 n))))):=χ Tryz.func87
theorem O8 {c h i j w K}:gV (yC c h i j w K)
 (Ε w [Β h,Β i,Β j] 56 λb n=>kM c n λo f=>(cond (!o) (K 2 f) (let e:Bool->b_:=λp a=>((cond p (K 1 a) (Pt c λq=>Ld .map a.drew (q.add 3) λr=>f_ a.drew (b.add 0) λs=>f_ a.drew (b.add 1) λt=>f_ a.drew (b.add 2) λu=>qF υ 56 .bool r (Value.agg ⟨[Β s,Β t,Β u]⟩) (Value.bool false) a.drew λv=>(cond v (K 9 a.drew) (Pt c λx=>Ld .map a.drew.drew (x.add 3) λy=>f_ a.drew.drew (b.add 0) λz=>f_ a.drew.drew (b.add 1) λA=>f_ a.drew.drew (b.add 2) λB=>pq υ 56 y (Value.agg ⟨[Β z,Β A,Β B]⟩) (Value.bool true) a.drew.drew λC=>K 0 C)))))
 f_ f b λD=>uq D f λk g=>(cond (!k) (e (!k) g) (f_ g (b.add 1) λE=>rF c E g λl d=>(cond (!l) (e (!l) d) (f_ d (b.add 2) λm=>(cond (decide (m<0)) (e (decide (m<0)) d) (f_ d (b.add 2) λF=>e (decide (F>=65536)) d))))))))):=χ Tryz.func88
theorem UZ {c i j k l m n o p w K}:gV (yT c i j k l m n o p w K)
 (Ε w [Β i,Β j,Β k,Β l,Β m,Β n,Β o,.bool p] 58 λa A=>mD c A λB d=>(cond (!B) (K 0 2 d) (f_ d (a.add 0) λC=>f_ d (a.add 1) λD=>f_ d (a.add 2) λE=>f_ d (a.add 3) λF=>oq c C D E F d λ _ G g=>f_ g ((a.add 4).add 0) λH=>f_ g ((a.add 4).add 1) λI=>f_ g ((a.add 4).add 2) λJ=>pV c H I J g λ _ L q=>let r:Bool->Prop:=λM=>((cond M (K 0 9 q) (Bl c q λh N b=>(cond (!N) (K 0 7 b) (Pt c λO=>Ld .slice b.drew O λP=>f_ b.drew (a.add 0) λQ=>f_ b.drew (a.add 1) λR=>f_ b.drew (a.add 2) λS=>f_ b.drew (a.add 3) λT=>f_ b.drew (a.add 4) λU=>f_ b.drew (a.add 5) λV=>f_ b.drew (a.add 6) λW=>Ld .bool b.drew (a.add 7) λX=>iK P 9 h λY=>iE (abE Q R S T U V W X true) b.drew Y 0 λe=>Pt c λs=>Ld .ptr e.drew (s.add 1) λt=>f_ e.drew (a.add 0) λZ=>f_ e.drew (a.add 1) λaa=>f_ e.drew (a.add 2) λab=>f_ e.drew (a.add 3) λac=>rD Z aa ab ac e.drew λad u=>u.cell? (s.add 1)=some (.pointer t)/\
 pX t ad h u λ _ f=>Pt c λv=>Ld .ptr f.drew (v.add 2) λx=>f_ f.drew ((a.add 4).add 0) λae=>f_ f.drew ((a.add 4).add 1) λaf=>f_ f.drew ((a.add 4).add 2) λag=>rE ae af ag f.drew λah y=>y.cell? (v.add 2)=some (.pointer x)/\
 pX x ah h y λ _ z=>Pt c λai=>f_ z (ai.add 3) λaj=>Pt c λak=>St z (ak.add 3) (Β (ο.wrap (aj+1))) λal=>K h 0 al)))))
 (cond G (r true) (r L))))):=χ Tryz.func89
theorem O5 {a b w K}:gV (yx a b w K)
 (iP (Value.pointer a)=true/\
 Ε w [.pointer a] 35 λc d=>iP (Β b)=true/\
 Ε d [Β b] 3 λe f=>K (Value.func (.func 182) #[] #[(Value.pointer (some c)),(Value.pointer (some e))]) f):=χ Tryz.func90
theorem Jo {d f w K}:gV (nJ d f w K)
 (iP (Value.pointer d)=true/\
 Ε w [.pointer d] 35 λg e=>Ld .ptr e g λj=>Pt j λk=>Ld .ptr e (k.add 3) λl=>oC l f e λm a=>xO υ none [.one ν,.agg [ν,ν,ν,ν,ν]] m a (λb n c o=>c.heap[b]? =c.heap[b]? /\
 Ld .ptr (gQ c b) g λp=>oU p n.1 (gQ c b) λq=>o .normal q)
 (λh=>Η h a/\
 K (Ζ h a))
 (λi=>Η i a/\
 K (Ζ i a))
 []):=χ Tryz.func91 (gB (gB (.blk (.rng [.one ν,.agg [ν,ν,ν,ν,ν]] .leaf .leaf))))
theorem aaK {l m n o p q r s t u v w K}:gV (Gt l m n o p q r s t u v w K)
 (Ε w (gX l m n o p q r s t u v) 41 λa c=>f_ c.drew a λH=>f_ c.drew (a.add 3) λx=>f_ c.drew (a.add 4) λg=>f_ c.drew (a.add 1) λd=>lU H 1 c.drew λI e=>Ci e a 1 d<|Ci e a 4 g<|Ci e a 3 x<|lU x 1 e λJ h=>Ci h a 1 d<|Ci h a 4 g<|lU g 1 h λL y=>Ci y a 1 d<|lU d 2 y λM N=>Ε N [.bool I,.bool J,.bool L,.bool M] 4 λO P=>zO ⟨(some O),4,4⟩ P λQ i=>f_ i.drew (a.add 5) λR=>f_ i.drew (a.add 6) λz=>mX R i.drew λS A=>Ci A a 6 z<|mX z A λT U=>Ε U [.bool S,.bool T] 4 λV W=>zO ⟨(some V),2,2⟩ W λX b=>let B:Bool->b_:=λY j=>(Ld .slice j (a.add 9) λZ=>Ld .slice j (a.add 9) λaa=>(4:Int)≠0/\
 Ε j [.bool (decide ((Z.len:Int)<=40)),.bool ((Int.tmod (aa.len:Int) 4)==0)] 4 λab ac=>zO ⟨(some ab),2,2⟩ ac λad ae=>Ε ae [.bool Q,.bool X,.bool Y,.bool ad] 4 λaf ag=>zO ⟨(some af),4,4⟩ ag λah k=>(cond (!ah) (K 1 k) (let C:Bool->b_:=λai D=>((cond ai (K 6 D) (K 0 D)))
 iG k a λaj ak al am an ao ap aq ar au av=>PW aj ak al am an ao ap aq ar au av k λaw f=>(cond (decide (aw>65535)) (C true f) (f_ f (a.add 2) λax=>Ld .slice f (a.add 10) λay=>C (decide (ax>(ο.wrap (65535 - (ay.len:Int))))) f)))))
 f_ b (a.add 2) λE=>f_ b (a.add 2) λF=>f_ b (a.add 2) λG=>(8:Int)≠0/\
 Ld .bool b (a.add 8) λaz=>(cond (!az) (Ε b [.bool (decide (E>=0)),.bool (decide (F<=65528)),.bool ((Int.tmod G 8)==0),.bool true] 4 λaA aB=>zO ⟨(some aA),4,4⟩ aB λaC aD=>B aC aD) (Ld .slice b (a.add 10) λaE=>(8:Int)≠0/\
 Ε b [.bool (decide (E>=0)),.bool (decide (F<=65528)),.bool ((Int.tmod G 8)==0),.bool ((Int.tmod (aE.len:Int) 8)==0)] 4 λaF aG=>zO ⟨(some aF),4,4⟩ aG λaH aI=>B aH aI))):=χ Tryz.func92
theorem Xf {c w K}:gV (Aq c w K)
 (Ε w ano 97 λb h=>(cond (decide ((c.len:Int)<8)) (iE ano h b 0 λd=>f_ d (b.add 0) λq=>f_ d (b.add 1) λr=>f_ d (b.add 2) λs=>Ld .slice d (b.add 3) λt=>K q r s t 3 d) (cond (decide ((c.len:Int)>65535)) (iE ano h b 0 λe=>f_ e (b.add 0) λu=>f_ e (b.add 1) λv=>f_ e (b.add 2) λx=>Ld .slice e (b.add 3) λy=>K u v x y 6 e) (Ε h [Δ c] 31 λz A=>zN ⟨(some z),1,1⟩ A λB l=>(cond (!B) (iE ano l b 0 λf=>f_ f (b.add 0) λC=>f_ f (b.add 1) λD=>f_ f (b.add 2) λE=>Ld .slice f (b.add 3) λF=>K C D E F 5 f) (zL c 4 4 l λG _ i=>iK c 1 0 λm=>Ld (.int .u8) i.drew m λn=>iK c 1 1 λo=>Ld (.int .u8) i.drew o λp=>lG c 1 8 (c.len:Int) λH=>iD H i.drew λj k=>k.cell? o=some (.int .u8 p)/\
 k.cell? m=some (.int .u8 n)/\
 iE [Β (ο.wrap n),Β (ο.wrap p),Β G,Δ j] k b 0 λg=>f_ g (b.add 0) λI=>f_ g (b.add 1) λJ=>f_ g (b.add 2) λL=>Ld .slice g (b.add 3) λM=>K I J L M 0 g)))))):=χ Tryz.func93
theorem Xe {a w K}:gV (FT a w K)
 (Ε w [Β 3,Β 4,Β 5,Β 11,Β 12] 3 λb c=>FU a ⟨(some b),5,5⟩ c λd e=>K d e):=χ Tryz.func94
theorem Vk {k w K}:gV (vK k w K)
 (Ε w ξ 41 λc q=>Ε q anm 102 λa r=>wZ k r λs t u v x y z A B C D E F l G=>Ε G (oI ⟨none,0,0⟩ 0 0 0 0 0 0 0 false false ⟨none,0,0⟩ ⟨none,0,0⟩ 0) 294 λi H=>iE (oI s t u v x y z A B C D E F) H i 0 λj=>(cond (l !=0) (iE ξ j c 0 λI=>iE anm I a 0 λe=>iG e c λJ L M N O P Q R S T U=>f_ e (a.add 0) λV=>f_ e (a.add 1) λW=>f_ e (a.add 2) λX=>K J L M N O P Q R S T U V W X l e) (uN j i λY Z aa ab ac ad ae af ag ah ai aj ak=>tV Y Z aa ab ac ad ae af ag ah ai aj ak j λal am an m ao=>Ε ao anm 102 λb ap=>iE [Β al,Β am,Β an] ap b 0 λd=>(cond (m !=0) (iE ξ d c 0 λaq=>iE anm aq a 0 λf=>iG f c λar au av aw ax ay az aA aB aC aD=>f_ f (a.add 0) λaE=>f_ f (a.add 1) λaF=>f_ f (a.add 2) λaG=>K ar au av aw ax ay az aA aB aC aD aE aF aG m f) (iG d.drew (i.add 1) λaH aI aJ aK aL aM aN aO aP aQ aR=>f_ d.drew (b.add 0) λn=>f_ d.drew (b.add 1) λo=>f_ d.drew (b.add 2) λp=>iE (gX aH aI aJ aK aL aM aN aO aP aQ aR) d.drew c 0 λh=>h.cell? (b.add 0)=some (Β n)/\
 h.cell? (b.add 1)=some (Β o)/\
 h.cell? (b.add 2)=some (Β p)/\
 iE [Β n,Β o,Β p] h a 0 λg=>iG g c λaS aT aU aV aW aX aY aZ a1 a2 a4=>f_ g (a.add 0) λa6=>f_ g (a.add 1) λa7=>f_ g (a.add 2) λa8=>K aS aT aU aV aW aX aY aZ a1 a2 a4 a6 a7 a8 0 g))))):=χ Tryz.func95
theorem ZH {j k l m n o p q r s t u v x e y z A w K}:gV (Dp j k l m n o p q r s t u v x e y z A w K)
 (Ε w (gX j k l m n o p q r s t) 41 λf F=>Ε F [Β u,Β v,Β x,Δ e] 97 λb G=>Ε G ξ 41 λB c=>f_ c (b.add 0) λH=>f_ c (b.add 1) λI=>f_ c (b.add 2) λJ=>Ld .slice c (b.add 3) λL=>Ad H I J L y z A c λM N O g _ P=>iE [Β M,Β N,Β O,Δ g] P b 0 λC=>Ld .slice C (f.add 9) λQ=>iD Q C λh R=>St R (f.add 9) (Δ h) λd=>f_ d (b.add 0) λS=>f_ d (b.add 1) λT=>f_ d (b.add 2) λU=>Ld .slice d (b.add 3) λV=>Ap S T U V d λi _ W=>St W (f.add 10) (Δ i) λD=>iG D f λX Y Z aa ab ac ad ae af ag ah=>iE (gX X Y Z aa ab ac ad ae af ag ah) D B 0 λE=>iG E B λai aj ak al am an ao ap aq ar au=>K ai aj ak al am an ao ap aq ar au E):=χ Tryz.func96
theorem RZ {o p q r s t u v x y z w K}:gV (tN o p q r s t u v x y z w K)
 (Ε w (gX o p q r s t u v x y z) 41 λc A=>iG A c λI J L M N O P Q R S T=>Gt I J L M N O P Q R S T A λB h=>(cond (B !=0) (K Value.nilIface B h) (iG h c λU V W X Y Z aa ab ac ad ae=>BQ U V W X Y Z aa ab ac ad ae h λaf b=>(cond (!af) (K Value.nilIface 4 b) (f_ b (c.add 4) λi=>(cond (i==17) (f_ b (c.add 5) λag=>f_ b (c.add 6) λah=>Ld .slice b (c.add 10) λai=>IK ag ah ai b λaj ak al j am an=>Ε an ant 126 λe ao=>iE [Β aj,Β ak,.bool al,Δ j] ao e 0 λf=>f_ f (e.add 0) λap=>f_ f (e.add 1) λaq=>Ld .bool f (e.add 2) λar=>Ld .slice f (e.add 3) λk=>K (Value.iface 303 (Value.agg ⟨[Β ap,Β aq,.bool ar,Δ k]⟩)) am f) (cond (i==6) (f_ b (c.add 5) λau=>f_ b (c.add 6) λav=>Ld .slice b (c.add 10) λaw=>IG au av aw b λax ay az aA aB aC aD aE aF aG aH aI=>Ε aI (mQ 0 0 0 0 0 0 0 0 ⟨none,0,0⟩ ⟨none,0,0⟩) 305 λC aJ=>iE (mQ ax ay az aA aB aC aD aE aF aG) aJ C 0 λD=>Bj D C λaK aL aM aN aO aP aQ aR aS aT=>K (Value.iface 309 (Value.agg ⟨mQ aK aL aM aN aO aP aQ aR aS aT⟩)) aH D) (cond (i==1) (Ld .slice b (c.add 10) λaU=>Aq aU b λaV aW aX l E aY=>Ε aY ano 97 λd aZ=>iE [Β aV,Β aW,Β aX,Δ l] aZ d 0 λm=>let F:Int->b_:=λa0 g=>(f_ g (d.add 0) λa1=>f_ g (d.add 1) λa2=>f_ g (d.add 2) λa4=>Ld .slice g (d.add 3) λn=>K (Value.iface 311 (Value.agg ⟨[Β a1,Β a2,Β a4,Δ n]⟩)) a0 g)
 let G:Bool->b_:=λa5 H=>((cond a5 (F 8 H) (F E H)))
 (cond (E==0) (f_ m d λa6=>Ar a6 m λa7 a8=>G (!a7) a8) (G false m))) (K Value.nilIface 8 b))))))))):=χ Tryz.func97
theorem ZG {b c d e f g h i j k l m n o p q r s t w K}:gV (Dl b c d e f g h i j k l m n o p q r s t w K)
 (Ε w [Β b,.bool c,Β d,.bool e,Β f,Β g,Β h] 109 λu z=>Ε z (gX i j k l m n o p q r s) 41 λv a=>f_ a (v.add 4) λA=>(cond (A !=6) (K 0 true a) (f_ a.drew (u.add 4) λx=>iG a.drew v λB C D E F G H I J L M=>Ec B C D E F G H I J L M a.drew λN y=>y.cell? (u.add 4)=some (Β x)/\
 Gm x t N y λO P Q=>K O P Q))):=χ Tryz.func98
theorem RY {d e f g h i j k l m n w K}:gV (BJ d e f g h i j k l m n w K)
 (Ε w (gX d e f g h i j k l m n) 41 λb a=>let c:Bool->Prop:=λo=>(K o a)
 f_ a (b.add 4) λp=>(cond (p==1) (Ld .slice a (b.add 10) λq=>(cond (decide ((q.len:Int)>0)) (Ld .slice a (b.add 10) λr=>iK r 1 0 λs=>Ld (.int .u8) a s λt=>c (t==0)) (c false))) (c false))):=χ Tryz.func99
theorem GI {a w K}:gV (oH a w K)
 (Pt a λe=>Ld .ptr w.drew (e.add 3) λf=>Pt a λb=>f_ w.drew ((b.add 5).add 22) λc=>vg f w.drew λg d=>d.cell? ((b.add 5).add 22)=some (Β c)/\
 K (decide (g>=c)) d):=χ Tryz.func100
theorem Lm {c p q r s w K}:gV (vZ c p q r s w K)
 (Ε w [Β p,Β q,Β r,Β s] 54 λa g=>Pt c λz=>Ld .ptr g.drew (z.add 1) λA=>f_ g.drew a λB=>Pt c λt=>f_ g.drew ((t.add 5).add 20) λu=>pK A B g.drew λC m=>Ci m (t.add 5) 20 u<|(cond (decide (C>=u)) (K 0 (Value.iface 115 (Β 5)) m) (qK c m λD d=>(cond D (K 0 (Value.iface 115 (Β 6)) d) (let v:Addr->Int->b_:=λn E h=>((cond (E !=0) (K 0 (Value.iface 115 (Β 7)) h) (Pt c λF=>Ld .ptr h.drew (F.add 1) λG=>f_ h.drew a λH=>qM G H h.drew λ _ b=>Pt c λI=>Ld .ptr b.drew (I.add 2) λJ=>f_ b.drew (a.add 0) λL=>f_ b.drew (a.add 1) λM=>f_ b.drew (a.add 2) λN=>f_ b.drew (a.add 3) λO=>f_ b.drew (n.add 0) λP=>f_ b.drew (n.add 1) λQ=>f_ b.drew (n.add 2) λR=>yT J L M N O P Q R false b.drew λS _ T=>K S Value.nilIface T)))
 Pt c λo=>Ld .ptr d.drew o λi=>f_ d.drew (a.add 1) λj=>f_ d.drew (a.add 3) λk=>f_ d.drew a λl=>(uj i j k l d.drew λU V W X Y=>Ε Y anm 56 λx e=>Cw e a (Β l)<|Ci e a 3 k<|Ci e a 1 j<|Cw e o (.pointer i)<|iE [Β U,Β V,Β W] e x 0 λZ=>v x X Z)/\
 (Ε d.drew anm 56 λy f=>Cw f a (Β l)<|Ci f a 3 k<|Ci f a 1 j<|Cw f o (.pointer i)<|uj i j k l f λaa ab ac ad ae=>iE [Β aa,Β ab,Β ac] ae y 0 λaf=>v y ad af)))))):=χ Tryz.func101
theorem U4 {d e f g h i j k l m n o p q r s t u v x y z A B C D E F G H I J L M N O b P w K}:gV (D8 d e f g h i j k l m n o p q r s t u v x y z A B C D E F G H I J L M N O b P w K)
 (Ε w (jO d e f g h i j k l m n o p q r s t u v x y z A B C D E F G H I J L M N O) 28 λc a=>(cond (b==17) (f_ a (c.add 30) λQ=>K Q a) (cond (b==1) (f_ a (c.add 33) λR=>K R a) (cond (b==6) (cond (P==3) (f_ a (c.add 31) λS=>K S a) (f_ a (c.add 32) λT=>K T a)) (K 0 a))))):=χ Tryz.func106
theorem JC {a b d e w K}:gV (vk a b d e w K)
 (nM a b w λg c=>(cond (!g) (K false c) (Pt a λh=>Ld .slice c h λi=>iK i 6 b λf=>Pt (some f) λj=>St c (j.add 1) (Β d) λk=>Pt (some f) λl=>St k (l.add 2) (Β e) λm=>K true m))):=χ Tryz.func107
theorem Jy {c q r s t u w K}:gV (uZ c q r s t u w K)
 (Ε w [Β q,Β r,Β s,Β t,Β u] 149 λb B=>jA c B λC f=>(cond (!C) (K 0 2 f) (f_ f b λD=>f_ f ((b.add 3).add 0) λE=>f_ f ((b.add 3).add 1) λF=>oV c D E F f λ _ G i=>(cond G (K 0 9 i) (Pt c λH=>Ld .slice i H λI=>jD I (Value.func (.func 206) #[] #[]) i λe d=>(cond (decide (e<0)) (K 0 7 d) (Pt c λJ=>Ld .slice d.drew J λL=>f_ d.drew (b.add 0) λM=>f_ d.drew (b.add 1) λN=>f_ d.drew (b.add 2) λO=>f_ d.drew (b.add 3) λP=>f_ d.drew (b.add 4) λQ=>iK L 6 e λR=>iE [Β M,Β N,Β O,Β P,Β Q,.bool true] d.drew R 0 λg=>Pt c λv=>Ld .ptr g.drew (v.add 1) λx=>f_ g.drew b λS=>f_ g.drew ((b.add 3).add 0) λT=>f_ g.drew ((b.add 3).add 1) λU=>vN S T U g.drew λV y=>Cs y v 1 (.pointer x)<|pX x V e y λ _ h=>Pt c λW=>Ld .map h.drew (W.add 2) λX=>f_ h.drew b λY=>qF υ 3 .slice X (Β Y) (Value.slice none 0 0) h.drew λz=>ni z e h.drew λZ _ j=>Pt c λk=>Ld .map j.drew (k.add 2) λl=>f_ j.drew b λm=>Ε j.drew [Β e] 3 λaa n=>Cw n b (Β m)<|Cs n k 2 (.map l)<|qg z Z ⟨(some aa),1,1⟩ n λo p=>Cw p b (Β m)<|Cs p k 2 (.map l)<|pq υ 3 l (Β m) (Δ o) p λA=>Pt c λab=>f_ A (ab.add 3) λac=>Pt c λad=>St A (ad.add 3) (Β (ο.wrap (ac+1))) λae=>K e 0 ae))))))):=χ Tryz.func108
theorem NM {a b d w K}:gV (sN a b d w K)
 (lV a w λB g=>(cond (!B) (K 2 g) (let i:Bool->Prop:=λC=>((cond C (K 1 g) (Pt a λD=>Ld .map g (D.add 448) λE=>FC υ 3 E (Β b) (Value.agg ⟨anm⟩) g λF o=>∃p:Int,∃q:Int,∃r:Int,F=(Value.agg ⟨[Β p,Β q,Β r]⟩)/\
 Ε g anm 335 λj G=>iE [Β p,Β q,Β r] G j 0 λe=>let s:Bool->b_:=λH f=>((cond H (K 7 f) (let t:b_:=λu=>(Pt a λI=>f_ u (I.add 450) λJ=>Pt a λL=>St u (L.add 450) (Β (ο.wrap (J+1))) λl=>Pt a λv=>f_ l.drew (v.add 449) λm=>Pt a λx=>f_ l.drew (x.add 450) λy=>Ε l.drew anm 335 λc n=>Ci n x 450 y<|Ci n v 449 m<|iE [Β b,Β (if m>d then m else d),Β y] n c 0 λh=>Pt a λM=>Ld .map h.drew (M.add 448) λN=>f_ h.drew (c.add 0) λO=>f_ h.drew (c.add 1) λP=>f_ h.drew (c.add 2) λQ=>pq υ 3 N (Β b) (Value.agg ⟨[Β O,Β P,Β Q]⟩) h.drew λk=>f_ k (c.add 0) λR=>f_ k (c.add 1) λS=>f_ k (c.add 2) λT=>sO a R S T k λU=>K 0 U)
 (cond o (f_ f (j.add 0) λV=>f_ f (j.add 1) λW=>f_ f (j.add 2) λX=>qP a V W X f λY=>t Y) (t f)))))
 (cond (!o) (Pt a λZ=>Ld .map e.drew (Z.add 448) λaa=>Pt a λz=>f_ e.drew (z.add 451) λA=>TJ e.drew aa λab=>Ci e.drew z 451 A<|s (decide (ab>=A)) e.drew) (s false e.drew)))))
 (cond (decide (b<0)) (i (decide (b<0))) (cond (decide (b>2147483648)) (i (decide (b>2147483648))) (cond (decide (d<0)) (i (decide (d<0))) (i (decide (d>1099511627776))))))))):=χ Tryz.func109
theorem U3 {b c w K}:gV (yV b c w K)
 (let d:Bool->b_:=λe f=>(K e f)
 mD b w λg a=>(cond g (cond (decide (c>=0)) (Pt b λh=>Ld .slice a h λi=>(cond (decide (c<(i.len:Int))) (Pt b λj=>Ld .slice a j λk=>iK k 9 c λl=>Ld .bool a (l.add 8) λm=>d m a) (d false a))) (d false a)) (d false a))):=χ Tryz.func110
theorem Vj {n o p q r s t u v x y z A B C w K}:gV (yX n o p q r s t u v x y z A B C w K)
 (Ε w (gX n o p q r s t u v x y) 41 λb S=>Ε S [Β z,Β A] 227 λd T=>Ε T [Β B,Β C] 227 λg U=>Ε U ξ 41 λc D=>iG D b λV W X Y Z aa ab ac ad ae af=>tN V W X Y Z aa ab ac ad ae af D λag E e=>(cond (E !=0) (iE ξ e c 0 λF=>iG F c λah ai aj ak al am an ao ap aq ar=>K ah ai aj ak al am an ao ap aq ar E F) ((0:Int)<=0/\0<(2:Int)/\
 f_ e (g.add (Int.toNat 0 * 1)) λG=>(0:Int)<=1/\1<(2:Int)/\
 f_ e (g.add (Int.toNat 1 * 1)) λH=>let i:Bool->b_:=λau h=>((cond au (iE ξ h c 0 λI=>iG I c λav aw ax ay az aA aB aC aD aE aF=>K av aw ax ay az aA aB aC aD aE aF 1 I) ((0:Int)<=0/\0<(2:Int)/\
 f_ h.drew (d.add (Int.toNat 0 * 1)) λaG=>(0:Int)<=1/\1<(2:Int)/\
 f_ h.drew (d.add (Int.toNat 1 * 1)) λJ=>St h.drew (b.add 5) (Β aG) λL=>L.cell? (d.add (Int.toNat 1 * 1))=some (Β J)/\
 St L (b.add 6) (Β J) λM=>Ld .slice M (b.add 9) λaH=>iD aH M λj aI=>St aI (b.add 9) (Δ j) λf=>(0:Int)<=0/\0<(2:Int)/\
 f_ f.drew (g.add (Int.toNat 0 * 1)) λaJ=>(0:Int)<=1/\1<(2:Int)/\
 f_ f.drew (g.add (Int.toNat 1 * 1)) λaK=>f_ f.drew (b.add 5) λN=>f_ f.drew (b.add 6) λO=>MK υ ag "goosepond/ports.with" [(Β aJ),(Β aK)] [.one .any] f.drew λaL k=>k.cell? (b.add 6)=some (Β O)/\
 k.cell? (b.add 5)=some (Β N)/\
 MK υ aL "goosepond/ports.build" [(Β N),(Β O)] [.one .slice,.one ν] k λl aM aN=>St aN (b.add 10) (Δ l) λP=>iG P b λaO aP aQ aR aS aT aU aV aW aX aY=>iE (gX aO aP aQ aR aS aT aU aV aW aX aY) P c 0 λQ=>iG Q c λaZ a0 a1 a2 a3 a4 a6 a8 ba bb bc=>K aZ a0 a1 a2 a3 a4 a6 a8 ba bb bc aM Q)))
 (0:Int)<=0/\0<(2:Int)/\
 f_ e (d.add (Int.toNat 0 * 1)) λbd=>mX bd e λbe m=>(cond (!be) (i true m) ((0:Int)<=1/\1<(2:Int)/\
 f_ m (d.add (Int.toNat 1 * 1)) λbf=>mX bf m λbg R=>(cond (!bg) (i true R) (lU (if H>G then H else G) 2 R λbh bi=>i (!bh) bi))))))):=χ Tryz.func111
theorem XC {c f w K}:gV (Gh c f w K)
 (Ε w ξ 41 λb h=>(cond (decide ((c.len:Int)<20)) (iE ξ h b 0 λo=>iG o b λC D E F G H I J L M N=>K C D E F G H I J L M N 3 o) (iK c 1 0 λp=>Ld (.int .u8) h.drew p λd=>(16:Int)≠0/\
 jU c 2 2 h.drew λg e=>e.cell? p=some (.int .u8 d)/\
 let q:Bool->Prop:=λO=>((cond O (iE ξ e b 0 λr=>iG r b λP Q R S T U V W X Y Z=>K P Q R S T U V W X Y Z 4 r) (let i:Bool->Prop:=λaa=>((cond aa (iE ξ e b 0 λs=>iG s b λab ac ad ae af ag ah ai aj ak al=>K ab ac ad ae af ag ah ai aj ak al 3 s) (let t:Bool->b_:=λam j=>((cond am (iE ξ j b 0 λu=>iG u b λan ao ap aq ar au av aw ax ay az=>K an ao ap aq ar au av aw ax ay az 4 u) (let v:Bool->b_:=λaA x=>((cond aA (iE ξ x b 0 λy=>iG y b λaB aC aD aE aF aG aH aI aJ aK aL=>K aB aC aD aE aF aG aH aI aJ aK aL 5 y) (lG c 1 (ο.wrap ((ο.wrap (Int.tmod d 16)) * 4)) (if (c.len:Int)<g then (c.len:Int) else g) λaM=>BL c aM x λaN aO aP aQ aR aS aT aU aV aW aX aY=>Ε aY ξ 41 λk aZ=>iE (gX aN aO aP aQ aR aS aT aU aV aW aX) aZ k 0 λl=>let z:Bool->b_:=λa2 m=>((cond a2 (iE ξ m b 0 λA=>iG A b λa3 a5 a6 a7 a8 a9 ba bb bc bd be=>K a3 a5 a6 a7 a8 a9 ba bb bc bd be 4 A) (iG m k λbf bg bh bi bj bk bl bm bn bo bp=>iE (gX bf bg bh bi bj bk bl bm bn bo bp) m b 0 λB=>iG B b λbq br bs bt bu bv bw bx bz bA bB=>K bq br bs bt bu bv bw bx bz bA bB 0 B)))
 (cond (!f) (iG l k λbC bD bE bF bG bH bI bJ bK bL bM=>zi bC bD bE bF bG bH bI bJ bK bL bM l λbN bO=>z (bN !=0) bO) (z false l)))))
 (cond (!f) (lG c 1 0 (ο.wrap ((ο.wrap (Int.tmod d 16)) * 4)) λn=>Ε j [Δ n] 31 λbP bQ=>Ed ⟨(some bP),1,1⟩ bQ λbR bS=>v (!bR) bS) (v false j)))))
 (cond (decide (g<(ο.wrap ((ο.wrap (Int.tmod d 16)) * 4)))) (t true e) (jU c 6 2 e λbT bU=>t (decide (bT>=32768)) bU)))))
 (cond (decide ((ο.wrap ((ο.wrap (Int.tmod d 16)) * 4))>(c.len:Int))) (i true) (cond (!f) (i (decide (g>(c.len:Int)))) (i false))))))
 iK c 1 0 λbV=>Ld (.int .u8) e bV λbW=>(16:Int)≠0/\
 (cond ((IntKind.u8.wrap (Int.tdiv bW 16)) !=4) (q true) (q (decide ((ο.wrap ((ο.wrap (Int.tmod d 16)) * 4))<20))))))):=χ Tryz.func112
theorem Vs {f g h b w K}:gV (Ef f g h b w K)
 (Ε w [Β f,Β g,.bool h,Δ b] 126 λd i=>let j:Bool->b_:=λk c=>((cond k (K 1 c) (Ld .slice c (d.add 3) λl=>(cond (decide ((l.len:Int)>65527)) (K 6 c) (K 0 c)))))
 f_ i d λm=>nS m 2 i λn e=>(cond (!n) (j true e) (f_ e (d.add 1) λo=>nS o 2 e λp q=>j (!p) q))):=χ Tryz.func113
theorem Vt {e f g c h w K}:gV (zu e f g c h w K)
 (Ε w [Β e,Β f,.bool g,Δ c] 126 λb d=>f_ d.drew b λm=>f_ d.drew (b.add 1) λi=>jy ⟨none,0,0⟩ m 2 d.drew λn j=>j.cell? (b.add 1)=some (Β i)/\
 jy n i 2 j λo k=>Ld .slice k (b.add 3) λp=>jy o (ο.wrap (8+(p.len:Int))) 2 k λq r=>jy q h 2 r λs l=>Ld .slice l (b.add 3) λt=>nH 5 1 1 [(Value.int .u8 0)] s t l λu v=>K u v):=χ Tryz.func114
theorem Si {a b c d w K}:gV (BM a b c d w K)
 (wK a 4294967296 w λe f=>jy ⟨none,0,0⟩ e 4 f λg h=>wK b 4294967296 h λi j=>jy g i 4 j λk l=>Ε l [.int .u8 0] 5 λm n=>nH 5 1 1 [(Value.int .u8 0)] k ⟨(some m),1,1⟩ n λo p=>wK c 256 p λq r=>jy o q 1 r λs t=>wK d 65536 t λu v=>jy s u 2 v λx y=>K x y):=χ Tryz.func115
theorem Xu {c a w K}:gV (nS c a w K)
 (let b:Bool->b_:=λd e=>(K d e)
 (cond (decide (a>=1)) (cond (decide (a<=4)) (cond (decide (c>=0)) (Dt a w λf g=>b (decide (c<f)) g) (b false w)) (b false w)) (b false w))):=χ Tryz.func116
theorem Vm {a w K}:gV (yY a w K)
 (let b:Bool->Prop:=λc=>(K c w)
 (cond (decide (a>=0)) (b (decide (a<4294967296))) (b false))):=χ Tryz.func117
theorem ZO {c w K}:gV (Du c w K)
 (iQ (S:=Int×Int×Unit) (λa e f=>(cond (decide (a.2.1<(c.len:Int))) (iQ (S:=Int×Int×Unit) (λb d g=>iK c 1 a.2.1 λh=>Ld .slice d h λi=>(cond (decide (b.2.1<(i.len:Int))) (iK c 1 a.2.1 λj=>Ld .slice d j λk=>F9 k b.2.1 d λl m=>g ((ο.wrap (b.1+l)),(ο.wrap (b.2.1+2)),()) m) (f (b.1,(ο.wrap (a.2.1+1)),()) d))) (a.1,0,()) e) (Gf a.1 e λn o=>K n o))) (0,0,()) w):=χ Tryz.func118 (gB (gB (.seq (gB (.blk (.loop [(3,ν),(4,ν)] (gB (.seq (.blk (gB (.blk (.loop [(3,ν),(5,ν)] .leaf)))) .leaf))))) .leaf)))
theorem Xz {a b c d e f g h i j k w K}:gV (AB a b c d e f g h i j k w K)
 (Ε w (gX a b c d e f g h i j k) 41 λm l=>Ld .slice l (m.add 9) λn=>K (ο.wrap (20+(n.len:Int))) l):=χ Tryz.func119
theorem ZM {d b c w K}:gV (jy d b c w K)
 (nH 5 1 1 [(Value.int .u8 0)] ⟨none,0,0⟩ d w λe i=>nS b c i λj f=>(cond (!j) (K e f) (iQ (S:=gG×Int×Unit) (λa g k=>(cond (decide (a.2.1>=0)) (Dt a.2.1 g λh l=>h≠0/\
 (256:Int)≠0/\
 Ε l [.int .u8 (IntKind.u8.wrap (Int.tmod (ο.wrap (Int.tdiv b h)) 256))] 5 λm n=>nH 5 1 1 [(Value.int .u8 0)] a.1 ⟨(some m),1,1⟩ n λo p=>k (o,(ο.wrap (a.2.1 - 1)),()) p) (K a.1 g))) (e,(ο.wrap (c - 1)),()) f))):=χ Tryz.func120 (gB (gB (gB (.seq (gB (.blk (.loop [(7,.slice),(8,ν)] .leaf))) .leaf))))
theorem Ql {a w K}:gV (mD a w K)
 (let b:Bool->Prop:=λc=>(K c w)
 (cond (!(Option.isNone a)) (Pt a λd=>Ld .ptr w (d.add 1) λe=>b (!(Option.isNone e))) (b false))):=χ Tryz.func121
theorem OX {a c w K}:gV (pW a c w K)
 (ou a w λe d=>(cond (!e) (K 0 false d) (jG a c d λf g b=>(cond (!g) (K 0 false b) (Pt a λh=>Ld .slice b h λi=>iK i 3 f λj=>f_ b (j.add 1) λk=>K k true b))))):=χ Tryz.func122
theorem Qn {c d e w K}:gV (rE c d e w K)
 (Ε w [Β c,Β d,Β e] 56 λb a=>f_ a b λf=>f_ a (b.add 1) λg=>f_ a (b.add 2) λh=>Ε a [Β f,Β g,Β h] 3 λi j=>FP ⟨(some i),3,3⟩ j λk l=>K k l):=χ Tryz.func123
theorem Ia {b c d e w K}:gV (oV b c d e w K)
 (Ε w [Β d,Β e] 107 λf j=>jA b j λk a=>(cond (!k) (K 0 false a) (Pt b λg=>Ld .ptr a.drew (g.add 1) λh=>f_ a.drew (f.add 0) λl=>f_ a.drew (f.add 1) λm=>vN c l m a.drew λn i=>i.cell? (g.add 1)=some (.pointer h)/\
 pW h n i λo p q=>K o p q))):=χ Tryz.func124
theorem qw {a b w K}:gV (lC a b w K)
 (mM a b w λc d=>K (decide (c>=0)) d):=χ Tryz.func125
theorem OU {A0 A1 f0 w K}:gV (PV A0 A1 f0 w K)
 (Ε w [Β A0,Β A1] 107 λb a=>f_ a b λc=>f_ a f0 λd=>K (c==d) a):=χ Tryz.func126
theorem sF {b c d w K}:gV (mV b c d w K)
 (Ε w [Β c,Β d] 107 λe a=>f_ a (e.add 0) λf=>f_ a (e.add 1) λg=>nN b f g a λh i=>K (decide (h>=0)) i):=χ Tryz.func127
theorem LM {a b w K}:gV (oC a b w K)
 (iP (Value.pointer a)=true/\
 Ε w [.pointer a] 77 λc d=>iP (Β b)=true/\
 Ε d [Β b] 3 λe f=>K (Value.func (.func 223) #[] #[(Value.pointer (some c)),(Value.pointer (some e))]) f):=χ Tryz.func128
theorem CG {a w K}:gV (kM a w K)
 (let b:Bool->Prop:=λc=>(K c w)
 (cond (!(Option.isNone a)) (Pt a λd=>Ld .map w (d.add 3) λe=>b (!(Option.isNone e))) (b false))):=χ Tryz.func129
theorem JH {a w K}:gV (lV a w K)
 (let b:Bool->Prop:=λc=>(K c w)
 (cond (!(Option.isNone a)) (Pt a λd=>Ld .map w (d.add 448) λe=>b (!(Option.isNone e))) (b false))):=χ Tryz.func130
end Go.Proofs
