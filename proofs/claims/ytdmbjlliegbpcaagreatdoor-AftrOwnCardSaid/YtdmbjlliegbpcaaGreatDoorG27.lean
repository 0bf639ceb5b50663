import Derived.Test.YtdmbjlliegbpcaaGreatDoorW3
import Derived.Test.YtdmbjlliegbpcaaGreatDoorProg
import Derived.KernelRfl
set_option maxRecDepth 100000
set_option maxHeartbeats 4000000
namespace Go.Proofs
open Gp
abbrev fM:=Ld ν
abbrev fP (T:Type):=Int->Int->Int->Int->Int->Int->Int->Int->T
abbrev fQ (x:ϓ):ϓ:= .seq .leaf x
theorem iF:Vo Tryz.prog:=Vo.ahX (by kernel_rfl) (by kernel_rfl)
noncomputable abbrev υ:=Tryz.prog
abbrev Β(x:Int):Value:= .int .i64 x
abbrev Δ(s:fU):Value:= .slice s.a s.len s.cap
abbrev Ε(w:θ)(l:List Value)(T:TypeId)(K:Addr->θ->Prop):Prop:=Al w (.cells ⟨l⟩ T) K
abbrev Ζ(w d:θ):θ:=w.putObj d.heap.size (.deferred none)
abbrev Η(w d:θ):Prop:=w.heap[d.heap.size]? =some (.deferred (some []))
abbrev ο:=IntKind.i64
theorem Α{n:Int}(h: -9223372036854775808<=n:=by omega)(k:n<=9223372036854775807:=by omega):IntKind.i64.wrap n=n:=wrap_i64 h k
abbrev aaG:List Value:=[Β 0,Β 0]
abbrev abH:List Value:=[Β 0,Β 0,Β 0]
abbrev abO:List Value:=[Β 0,Β 0,Β 0,.slice none 0 0]
abbrev abQ:List Value:=[Β 0,.bool false,Β 0,.bool false,Β 0,Β 0,Β 0]
abbrev abS:List Value:=[Β 0,.slice none 0 0,.slice none 0 0,Β 0,Β 0,Β 0,.slice none 0 0]
abbrev acC:List Value:=[.slice none 0 0,Β 0,Β 0]
abbrev ac4:List Value:=[Β 0,Β 0,Β 0,Β 0,Β 0,Β 0,Β 0,.bool false]
abbrev adl:List Value:=[Β 0,Β 0,.bool false,.slice none 0 0]
abbrev ado:List Value:=[Β 0,Β 0,Β 0,Β 0,Β 0]
abbrev aej:List Value:=[Β 0,Β 0,Β 0,Β 0,Β 0,Β 0,Β 0]
abbrev aew:List Value:=[Β 0,Β 0,Β 0,Β 0]
abbrev aeQ:List Value:=[Β 0,.slice none 0 0,.slice none 0 0]
abbrev afj:List Value:=[Β 0,Β 0,Β 0,.bool false]
abbrev afp:List Value:=[Β 0,Β 0,Β 0,Β 0,Β 0,.bool false]
theorem χ{f:FuncId}{k:Func}(h:υ.funcs[f]? =some k){a:List Value}{s:List Shape}{w:World}{K:QF (flat s)}{S:Prop}(n:ϓ:= .leaf)(e:aiA υ k s n a w K=S:=by kernel_rfl):gI (fZ υ f a s w K) S:=okF iF h n e
abbrev adq:List Kind:=(.int .u8)::(.int .u8)::(.int .u8)::(.int .u8)::(.int .u8)::(.int .u8)::(.int .u8)::(.int .u8)::(.int .u8)::(.int .u8)::(.int .u8)::(.int .u8)::(.int .u8)::(.int .u8)::(.int .u8)::(.int .u8):: .slice:: .slice::ν::ν::ν::ν::ν::ν::ν::ν::ν::ν::ν::ν::ν::ν::ν::ν::ν:: .slice::[]
@[reducible] def jO (e f g h i j k l m n o p q r s t:Int) (b c:fU) (u v w x y z A B C D E F G H I J K:Int) (d:fU):List Value:= .int .u8 e:: .int .u8 f:: .int .u8 g:: .int .u8 h:: .int .u8 i:: .int .u8 j:: .int .u8 k:: .int .u8 l:: .int .u8 m:: .int .u8 n:: .int .u8 o:: .int .u8 p:: .int .u8 q:: .int .u8 r:: .int .u8 s:: .int .u8 t:: Δ b:: Δ c:: Β u:: Β v:: Β w:: Β x:: Β y:: Β z:: Β A:: Β B:: Β C:: Β D:: Β E:: Β F:: Β G:: Β H:: Β I:: Β J:: Β K:: Δ d::[]
@[reducible] def uS (w:θ) (a:Addr) (K:fP (fP (fU->fU->Int->Int->Int->Int->Int->Int->Int->Int->Int->Int->Int->Int->Int->Int->Int->Int->Int->fU->Prop))):Prop:=Ld (.int .u8) w (a.add 0) λb=>Ld (.int .u8) w (a.add 1) λc=>Ld (.int .u8) w (a.add 2) λd=>Ld (.int .u8) w (a.add 3) λe=>Ld (.int .u8) w (a.add 4) λf=>Ld (.int .u8) w (a.add 5) λg=>Ld (.int .u8) w (a.add 6) λh=>Ld (.int .u8) w (a.add 7) λi=>Ld (.int .u8) w (a.add 8) λj=>Ld (.int .u8) w (a.add 9) λk=>Ld (.int .u8) w (a.add 10) λl=>Ld (.int .u8) w (a.add 11) λm=>Ld (.int .u8) w (a.add 12) λn=>Ld (.int .u8) w (a.add 13) λo=>Ld (.int .u8) w (a.add 14) λp=>Ld (.int .u8) w (a.add 15) λq=>Ld .slice w (a.add 16) λr=>Ld .slice w (a.add 17) λs=>Ld ν w (a.add 18) λt=>Ld ν w (a.add 19) λu=>Ld ν w (a.add 20) λv=>Ld ν w (a.add 21) λx=>Ld ν w (a.add 22) λy=>Ld ν w (a.add 23) λz=>Ld ν w (a.add 24) λA=>Ld ν w (a.add 25) λB=>Ld ν w (a.add 26) λC=>Ld ν w (a.add 27) λD=>Ld ν w (a.add 28) λE=>Ld ν w (a.add 29) λF=>Ld ν w (a.add 30) λG=>Ld ν w (a.add 31) λH=>Ld ν w (a.add 32) λI=>Ld ν w (a.add 33) λJ=>Ld ν w (a.add 34) λL=>Ld .slice w (a.add 35) λM=>K b c d e f g h i j k l m n o p q r s t u v x y z A B C D E F G H I J L M
abbrev rU:List Kind:=ν::ν::ν::ν::ν::ν::ν:: .bool:: .bool:: .slice:: .slice::[]
@[reducible] def gu (d e f g h i j:Int) (k l:Bool) (b c:fU):List Value:= Β d:: Β e:: Β f:: Β g:: Β h:: Β i:: Β j:: .bool k:: .bool l:: Δ b:: Δ c::[]
abbrev ξ:List Value:=gu 0 0 0 0 0 0 0 false false ⟨none,0,0⟩ ⟨none,0,0⟩
@[reducible] def ig (w:θ) (a:Addr) (K:Int->Int->Int->Int->Int->Int->Int->Bool->Bool->fU->fU->Prop):Prop:=Ld ν w (a.add 0) λb=>Ld ν w (a.add 1) λc=>Ld ν w (a.add 2) λd=>Ld ν w (a.add 3) λe=>Ld ν w (a.add 4) λf=>Ld ν w (a.add 5) λg=>Ld ν w (a.add 6) λh=>Ld .bool w (a.add 7) λi=>Ld .bool w (a.add 8) λj=>Ld .slice w (a.add 9) λk=>Ld .slice w (a.add 10) λl=>K b c d e f g h i j k l
@[reducible] def air (a b c d e f g h i j k l m n o p q r s t u v w x y z A B C D E F:Int):List Value:= .int .u8 a:: .int .u8 b:: .int .u8 c:: .int .u8 d:: .int .u8 e:: .int .u8 f:: .int .u8 g:: .int .u8 h:: .int .u8 i:: .int .u8 j:: .int .u8 k:: .int .u8 l:: .int .u8 m:: .int .u8 n:: .int .u8 o:: .int .u8 p:: .int .u8 q:: .int .u8 r:: .int .u8 s:: .int .u8 t:: .int .u8 u:: .int .u8 v:: .int .u8 w:: .int .u8 x:: .int .u8 y:: .int .u8 z:: .int .u8 A:: .int .u8 B:: .int .u8 C:: .int .u8 D:: .int .u8 E:: .int .u8 F::[]
@[reducible] def ais (e f:fO) (g h i j k l m n o p q r s t u v:Int) (b c:fU) (w x y z A B C D E F G H I J K L M:Int) (d:fU) (N O:fO) (P Q:Int):List Value:= .pointer e:: .pointer f:: .int .u8 g:: .int .u8 h:: .int .u8 i:: .int .u8 j:: .int .u8 k:: .int .u8 l:: .int .u8 m:: .int .u8 n:: .int .u8 o:: .int .u8 p:: .int .u8 q:: .int .u8 r:: .int .u8 s:: .int .u8 t:: .int .u8 u:: .int .u8 v:: Δ b:: Δ c:: Β w:: Β x:: Β y:: Β z:: Β A:: Β B:: Β C:: Β D:: Β E:: Β F:: Β G:: Β H:: Β I:: Β J:: Β K:: Β L:: Β M:: Δ d:: .pointer N:: .pointer O:: Β P:: Β Q::[]
abbrev Yx:List Kind:=ν::ν::ν::ν::(.int .u8)::(.int .u8)::(.int .u8)::(.int .u8)::(.int .u8)::(.int .u8)::(.int .u8)::(.int .u8)::(.int .u8)::(.int .u8)::(.int .u8)::(.int .u8)::(.int .u8)::(.int .u8)::(.int .u8)::(.int .u8)::(.int .u8)::(.int .u8)::(.int .u8)::(.int .u8)::(.int .u8)::(.int .u8)::(.int .u8)::(.int .u8)::(.int .u8)::(.int .u8)::(.int .u8)::(.int .u8)::(.int .u8)::(.int .u8)::(.int .u8)::(.int .u8):: .slice::[]
@[reducible] def jc (c d e f g h i j k l m n o p q r s t u v w x y z A B C D E F G H I J K L:Int) (b:fU):List Value:= Β c:: Β d:: Β e:: Β f:: .int .u8 g:: .int .u8 h:: .int .u8 i:: .int .u8 j:: .int .u8 k:: .int .u8 l:: .int .u8 m:: .int .u8 n:: .int .u8 o:: .int .u8 p:: .int .u8 q:: .int .u8 r:: .int .u8 s:: .int .u8 t:: .int .u8 u:: .int .u8 v:: .int .u8 w:: .int .u8 x:: .int .u8 y:: .int .u8 z:: .int .u8 A:: .int .u8 B:: .int .u8 C:: .int .u8 D:: .int .u8 E:: .int .u8 F:: .int .u8 G:: .int .u8 H:: .int .u8 I:: .int .u8 J:: .int .u8 K:: .int .u8 L:: Δ b::[]
@[reducible] def n_ (w:θ) (a:Addr) (K:fP (fP (fP (fP (Int->Int->Int->Int->fU->Prop))))):Prop:=Ld ν w (a.add 0) λb=>Ld ν w (a.add 1) λc=>Ld ν w (a.add 2) λd=>Ld ν w (a.add 3) λe=>Ld (.int .u8) w (a.add 4) λf=>Ld (.int .u8) w (a.add 5) λg=>Ld (.int .u8) w (a.add 6) λh=>Ld (.int .u8) w (a.add 7) λi=>Ld (.int .u8) w (a.add 8) λj=>Ld (.int .u8) w (a.add 9) λk=>Ld (.int .u8) w (a.add 10) λl=>Ld (.int .u8) w (a.add 11) λm=>Ld (.int .u8) w (a.add 12) λn=>Ld (.int .u8) w (a.add 13) λo=>Ld (.int .u8) w (a.add 14) λp=>Ld (.int .u8) w (a.add 15) λq=>Ld (.int .u8) w (a.add 16) λr=>Ld (.int .u8) w (a.add 17) λs=>Ld (.int .u8) w (a.add 18) λt=>Ld (.int .u8) w (a.add 19) λu=>Ld (.int .u8) w (a.add 20) λv=>Ld (.int .u8) w (a.add 21) λx=>Ld (.int .u8) w (a.add 22) λy=>Ld (.int .u8) w (a.add 23) λz=>Ld (.int .u8) w (a.add 24) λA=>Ld (.int .u8) w (a.add 25) λB=>Ld (.int .u8) w (a.add 26) λC=>Ld (.int .u8) w (a.add 27) λD=>Ld (.int .u8) w (a.add 28) λE=>Ld (.int .u8) w (a.add 29) λF=>Ld (.int .u8) w (a.add 30) λG=>Ld (.int .u8) w (a.add 31) λH=>Ld (.int .u8) w (a.add 32) λI=>Ld (.int .u8) w (a.add 33) λJ=>Ld (.int .u8) w (a.add 34) λL=>Ld (.int .u8) w (a.add 35) λM=>Ld .slice w (a.add 36) λN=>K b c d e f g h i j k l m n o p q r s t u v x y z A B C D E F G H I J L M N
abbrev QI:List Kind:=(.int .u8)::(.int .u8)::(.int .u8)::(.int .u8)::(.int .u8)::(.int .u8)::(.int .u8)::(.int .u8)::(.int .u8)::(.int .u8)::(.int .u8)::(.int .u8)::(.int .u8)::(.int .u8)::(.int .u8)::(.int .u8)::[]
@[reducible] def iZ (a b c d e f g h i j k l m n o p:Int):List Value:= .int .u8 a:: .int .u8 b:: .int .u8 c:: .int .u8 d:: .int .u8 e:: .int .u8 f:: .int .u8 g:: .int .u8 h:: .int .u8 i:: .int .u8 j:: .int .u8 k:: .int .u8 l:: .int .u8 m:: .int .u8 n:: .int .u8 o:: .int .u8 p::[]
@[reducible] def nM (w:θ) (a:Addr) (K:fP (fP (Prop))):Prop:=Ld (.int .u8) w (a.add 0) λb=>Ld (.int .u8) w (a.add 1) λc=>Ld (.int .u8) w (a.add 2) λd=>Ld (.int .u8) w (a.add 3) λe=>Ld (.int .u8) w (a.add 4) λf=>Ld (.int .u8) w (a.add 5) λg=>Ld (.int .u8) w (a.add 6) λh=>Ld (.int .u8) w (a.add 7) λi=>Ld (.int .u8) w (a.add 8) λj=>Ld (.int .u8) w (a.add 9) λk=>Ld (.int .u8) w (a.add 10) λl=>Ld (.int .u8) w (a.add 11) λm=>Ld (.int .u8) w (a.add 12) λn=>Ld (.int .u8) w (a.add 13) λo=>Ld (.int .u8) w (a.add 14) λp=>Ld (.int .u8) w (a.add 15) λq=>K b c d e f g h i j k l m n o p q
@[reducible] def ahq (e f g h i:fO) (j k l m n o p q r s t u v w x y:Int) (b c:fU) (z A B C D E F G H I J K L M N O P:Int) (d:fU) (Q:Int):List Value:= .pointer e:: .pointer f:: .pointer g:: .pointer h:: .pointer i:: .int .u8 j:: .int .u8 k:: .int .u8 l:: .int .u8 m:: .int .u8 n:: .int .u8 o:: .int .u8 p:: .int .u8 q:: .int .u8 r:: .int .u8 s:: .int .u8 t:: .int .u8 u:: .int .u8 v:: .int .u8 w:: .int .u8 x:: .int .u8 y:: Δ b:: Δ c:: Β z:: Β A:: Β B:: Β C:: Β D:: Β E:: Β F:: Β G:: Β H:: Β I:: Β J:: Β K:: Β L:: Β M:: Β N:: Β O:: Β P:: Δ d:: Β Q::[]
@[reducible] def afx (a b c d e f g:Int) (h i:Bool):List Value:= Β a:: Β b:: Β c:: Β d:: Β e:: Β f:: Β g:: .bool h:: .bool i::[]
@[reducible] def ai7 (w:θ) (a:Addr) (K:Int->Int->Int->Int->Int->Int->Int->Bool->Bool->Prop):Prop:=Ld ν w (a.add 0) λb=>Ld ν w (a.add 1) λc=>Ld ν w (a.add 2) λd=>Ld ν w (a.add 3) λe=>Ld ν w (a.add 4) λf=>Ld ν w (a.add 5) λg=>Ld ν w (a.add 6) λh=>Ld .bool w (a.add 7) λi=>Ld .bool w (a.add 8) λj=>K b c d e f g h i j
@[reducible] def ait (a b c d e f g h i j k l m n o p q r s t u v w x y z A B C D E F G H I J K L M N O P Q R S T U V W X Y Z aa ab ac ad ae:Int):List Value:= Β a:: Β b:: Β c:: Β d:: Β e:: Β f:: Β g:: Β h:: Β i:: Β j:: Β k:: Β l:: Β m:: Β n:: Β o:: Β p:: Β q:: Β r:: Β s:: Β t:: Β u:: Β v:: Β w:: Β x:: Β y:: Β z:: Β A:: Β B:: Β C:: Β D:: Β E:: Β F:: Β G:: Β H:: Β I:: Β J:: Β K:: Β L:: Β M:: Β N:: Β O:: Β P:: Β Q:: Β R:: Β S:: Β T:: Β U:: Β V:: Β W:: Β X:: Β Y:: Β Z:: Β aa:: Β ab:: Β ac:: Β ad:: Β ae::[]
abbrev ain:List Kind:=ν::ν::ν::ν::ν::ν::ν::ν:: .slice:: .slice::[]
@[reducible] def kY (d e f g h i j k:Int) (b c:fU):List Value:= Β d:: Β e:: Β f:: Β g:: Β h:: Β i:: Β j:: Β k:: Δ b:: Δ c::[]
@[reducible] def zJ (w:θ) (a:Addr) (K:Int->Int->Int->Int->Int->Int->Int->Int->fU->fU->Prop):Prop:=Ld ν w (a.add 0) λb=>Ld ν w (a.add 1) λc=>Ld ν w (a.add 2) λd=>Ld ν w (a.add 3) λe=>Ld ν w (a.add 4) λf=>Ld ν w (a.add 5) λg=>Ld ν w (a.add 6) λh=>Ld ν w (a.add 7) λi=>Ld .slice w (a.add 8) λj=>Ld .slice w (a.add 9) λk=>K b c d e f g h i j k
@[reducible] def ahp (a b c d e f g h i j k l m n o p q r s t:Int):List Value:= Β a:: Β b:: Β c:: Β d:: Β e:: Β f:: Β g:: Β h:: Β i:: Β j:: Β k:: Β l:: Β m:: Β n:: Β o:: Β p:: Β q:: Β r:: Β s:: Β t::[]
abbrev ag7:List Kind:= .slice::ν::ν::ν::ν::ν::ν::ν:: .bool:: .bool:: .slice:: .slice::ν::[]
@[reducible] def mP (b:fU) (e f g h i j k:Int) (l m:Bool) (c d:fU) (n:Int):List Value:= Δ b:: Β e:: Β f:: Β g:: Β h:: Β i:: Β j:: Β k:: .bool l:: .bool m:: Δ c:: Δ d:: Β n::[]
@[reducible] def rV (w:θ) (a:Addr) (K:fU->Int->Int->Int->Int->Int->Int->Int->Bool->Bool->fU->fU->Int->Prop):Prop:=Ld .slice w (a.add 0) λb=>Ld ν w (a.add 1) λc=>Ld ν w (a.add 2) λd=>Ld ν w (a.add 3) λe=>Ld ν w (a.add 4) λf=>Ld ν w (a.add 5) λg=>Ld ν w (a.add 6) λh=>Ld ν w (a.add 7) λi=>Ld .bool w (a.add 8) λj=>Ld .bool w (a.add 9) λk=>Ld .slice w (a.add 10) λl=>Ld .slice w (a.add 11) λm=>Ld ν w (a.add 12) λn=>K b c d e f g h i j k l m n
@[reducible] def Ci (w:θ) (a:Addr) (n:Nat) (x:Int) (R:Prop):Prop:=w.cell? (a.add n)=some (Β x)/\R
@[reducible] def Cj (w:θ) (a:Addr) (x y:Int) (R:Prop):Prop:=Ci w a 0 x (Ci w a 1 y R)
@[reducible] def Cs (w:θ) (a:Addr) (n:Nat) (x:Value) (R:Prop):Prop:=w.cell? (a.add n)=some x/\R
@[reducible] def Ct (w:θ) (a:Addr) (s:fU) (x y:Int) (R:Prop):Prop:=Cs w a 0 (Δ s) (Ci w a 1 x (Ci w a 2 y R))
@[reducible] def Cw (w:θ) (a:Addr) (x:Value) (R:Prop):Prop:=w.cell? a=some x/\R
theorem cmS0 {f:FuncId} {vs:List Value} {w:θ} {K K':Bool->b_}:fZ υ f vs [.one .bool] w K->(∀x0 w,K x0 w->K' x0 w)->fZ υ f vs [.one .bool] w K':=fZ.mono
theorem cmS1 {f:FuncId} {vs:List Value} {w:θ} {K K':Int->b_}:fZ υ f vs [.one ν] w K->(∀x0 w,K x0 w->K' x0 w)->fZ υ f vs [.one ν] w K':=fZ.mono
theorem cmS2 {f:FuncId} {vs:List Value} {w:θ} {K K':fU->b_}:fZ υ f vs [.one .slice] w K->(∀x0 w,K x0 w->K' x0 w)->fZ υ f vs [.one .slice] w K':=fZ.mono
theorem cmS3 {f:FuncId} {vs:List Value} {w:θ} {K K':fU->Int->b_}:fZ υ f vs [.one .slice,.one ν] w K->(∀x0 x1 w,K x0 x1 w->K' x0 x1 w)->fZ υ f vs [.one .slice,.one ν] w K':=fZ.mono
theorem cmS4 {f:FuncId} {vs:List Value} {w:θ} {K K':Int->Bool->b_}:fZ υ f vs [.one ν,.one .bool] w K->(∀x0 x1 w,K x0 x1 w->K' x0 x1 w)->fZ υ f vs [.one ν,.one .bool] w K':=fZ.mono
theorem cmS5 {f:FuncId} {vs:List Value} {w:θ} {K K':Value->b_}:fZ υ f vs [.one .any] w K->(∀x0 w,K x0 w->K' x0 w)->fZ υ f vs [.one .any] w K':=fZ.mono
theorem cmS6 {f:FuncId} {vs:List Value} {w:θ} {K K':(fO)->Int->b_}:fZ υ f vs [.one .ptr,.one ν] w K->(∀x0 x1 w,K x0 x1 w->K' x0 x1 w)->fZ υ f vs [.one .ptr,.one ν] w K':=fZ.mono
theorem cmS7 {f:FuncId} {vs:List Value} {w:θ} {K K':ByteArray->b_}:fZ υ f vs [.one .str] w K->(∀x0 w,K x0 w->K' x0 w)->fZ υ f vs [.one .str] w K':=fZ.mono
theorem cmS8 {f:FuncId} {vs:List Value} {w:θ} {K K':fP (fP (fP (fP (Int->Int->Int->Int->fU->Int->b_))))}:fZ υ f vs [.agg Yx,.one ν] w K->(∀x0 x1 x2 x3 x4 x5 x6 x7 x8 x9 u I J N O R U Y Z aa ac af ag ah ai aj ak am an ao aq ar au av aw ax ay az w,K x0 x1 x2 x3 x4 x5 x6 x7 x8 x9 u I J N O R U Y Z aa ac af ag ah ai aj ak am an ao aq ar au av aw ax ay az w->K' x0 x1 x2 x3 x4 x5 x6 x7 x8 x9 u I J N O R U Y Z aa ac af ag ah ai aj ak am an ao aq ar au av aw ax ay az w)->fZ υ f vs [.agg Yx,.one ν] w K':=fZ.mono
theorem cmS9 {f:FuncId} {vs:List Value} {w:θ} {K K':Int->Int->b_}:fZ υ f vs [.one ν,.one ν] w K->(∀x0 x1 w,K x0 x1 w->K' x0 x1 w)->fZ υ f vs [.one ν,.one ν] w K':=fZ.mono
theorem cmS10 {f:FuncId} {vs:List Value} {w:θ} {K K':b_}:fZ υ f vs [] w K->(∀w,K w->K' w)->fZ υ f vs [] w K':=fZ.mono
theorem cmS11 {f:FuncId} {vs:List Value} {w:θ} {K K':Int->Int->Int->Int->Int->Int->Int->Bool->Bool->fU->fU->Int->b_}:fZ υ f vs [.agg rU,.one ν] w K->(∀x0 x1 x2 x3 x4 x5 x6 x7 x8 x9 u I w,K x0 x1 x2 x3 x4 x5 x6 x7 x8 x9 u I w->K' x0 x1 x2 x3 x4 x5 x6 x7 x8 x9 u I w)->fZ υ f vs [.agg rU,.one ν] w K':=fZ.mono
theorem cmS12 {f:FuncId} {vs:List Value} {w:θ} {K K':Int->Int->Int->Int->b_}:fZ υ f vs [.agg [ν,ν,ν],.one ν] w K->(∀x0 x1 x2 x3 w,K x0 x1 x2 x3 w->K' x0 x1 x2 x3 w)->fZ υ f vs [.agg [ν,ν,ν],.one ν] w K':=fZ.mono
theorem cmS13 {f:FuncId} {vs:List Value} {w:θ} {K K':fP (fP (fU->fU->Int->Int->Int->Int->Int->Int->Int->Int->Int->Int->Int->Int->Int->Int->Int->Int->Int->fU->b_))}:fZ υ f vs [.agg adq] w K->(∀x0 x1 x2 x3 x4 x5 x6 x7 x8 x9 u I J N O R U Y Z aa ac af ag ah ai aj ak am an ao aq ar au av aw ax w,K x0 x1 x2 x3 x4 x5 x6 x7 x8 x9 u I J N O R U Y Z aa ac af ag ah ai aj ak am an ao aq ar au av aw ax w->K' x0 x1 x2 x3 x4 x5 x6 x7 x8 x9 u I J N O R U Y Z aa ac af ag ah ai aj ak am an ao aq ar au av aw ax w)->fZ υ f vs [.agg adq] w K':=fZ.mono
theorem cmS14 {f:FuncId} {vs:List Value} {w:θ} {K K':fP (fP (b_))}:fZ υ f vs [.agg QI] w K->(∀x0 x1 x2 x3 x4 x5 x6 x7 x8 x9 u I J N O R w,K x0 x1 x2 x3 x4 x5 x6 x7 x8 x9 u I J N O R w->K' x0 x1 x2 x3 x4 x5 x6 x7 x8 x9 u I J N O R w)->fZ υ f vs [.agg QI] w K':=fZ.mono
theorem cmS15 {f:FuncId} {vs:List Value} {w:θ} {K K':fU->Int->Int->Int->b_}:fZ υ f vs [.agg [.slice,ν,ν],.one ν] w K->(∀x0 x1 x2 x3 w,K x0 x1 x2 x3 w->K' x0 x1 x2 x3 w)->fZ υ f vs [.agg [.slice,ν,ν],.one ν] w K':=fZ.mono
theorem cmS16 {f:FuncId} {vs:List Value} {w:θ} {K K':Int->Int->Int->Int->Int->Int->Int->Bool->Bool->fU->fU->b_}:fZ υ f vs [.agg rU] w K->(∀x0 x1 x2 x3 x4 x5 x6 x7 x8 x9 u w,K x0 x1 x2 x3 x4 x5 x6 x7 x8 x9 u w->K' x0 x1 x2 x3 x4 x5 x6 x7 x8 x9 u w)->fZ υ f vs [.agg rU] w K':=fZ.mono
theorem cmS17 {f:FuncId} {vs:List Value} {w:θ} {K K':Int->Int->Int->Int->Int->Int->Int->Bool->Bool->fU->fU->Bool->b_}:fZ υ f vs [.agg rU,.one .bool] w K->(∀x0 x1 x2 x3 x4 x5 x6 x7 x8 x9 u I w,K x0 x1 x2 x3 x4 x5 x6 x7 x8 x9 u I w->K' x0 x1 x2 x3 x4 x5 x6 x7 x8 x9 u I w)->fZ υ f vs [.agg rU,.one .bool] w K':=fZ.mono
theorem cmS18 {f:FuncId} {vs:List Value} {w:θ} {K K':Int->Int->b_}:fZ υ f vs [.agg [ν,ν]] w K->(∀x0 x1 w,K x0 x1 w->K' x0 x1 w)->fZ υ f vs [.agg [ν,ν]] w K':=fZ.mono
theorem cmS19 {f:FuncId} {vs:List Value} {w:θ} {K K':Int->Int->Int->Int->Int->Int->Int->Bool->Bool->b_}:fZ υ f vs [.agg [ν,ν,ν,ν,ν,ν,ν,.bool],.one .bool] w K->(∀x0 x1 x2 x3 x4 x5 x6 x7 x8 w,K x0 x1 x2 x3 x4 x5 x6 x7 x8 w->K' x0 x1 x2 x3 x4 x5 x6 x7 x8 w)->fZ υ f vs [.agg [ν,ν,ν,ν,ν,ν,ν,.bool],.one .bool] w K':=fZ.mono
theorem cmS20 {f:FuncId} {vs:List Value} {w:θ} {K K':Int->Int->Int->Int->Int->Bool->b_}:fZ υ f vs [.agg [ν,ν,ν,ν,ν],.one .bool] w K->(∀x0 x1 x2 x3 x4 x5 w,K x0 x1 x2 x3 x4 x5 w->K' x0 x1 x2 x3 x4 x5 w)->fZ υ f vs [.agg [ν,ν,ν,ν,ν],.one .bool] w K':=fZ.mono
theorem cmS21 {f:FuncId} {vs:List Value} {w:θ} {K K':(fO)->b_}:fZ υ f vs [.one .ptr] w K->(∀x0 w,K x0 w->K' x0 w)->fZ υ f vs [.one .ptr] w K':=fZ.mono
theorem cmS22 {f:FuncId} {vs:List Value} {w:θ} {K K':Int->fU->fU->b_}:fZ υ f vs [.agg [ν,.slice,.slice]] w K->(∀x0 x1 x2 w,K x0 x1 x2 w->K' x0 x1 x2 w)->fZ υ f vs [.agg [ν,.slice,.slice]] w K':=fZ.mono
def E_ (c d:Int) (b:fU) (w:θ) (K:Bool->b_):=fZ υ 3 [.int .u16 c,.int .u16 d,Δ b] [.one .bool] w K
def tH (w:θ) (K:Bool->b_):=fZ υ 4 [] [.one .bool] w K
def yU (w:θ) (K:fP (fP (fU->fU->Int->Int->Int->Int->Int->Int->Int->Int->Int->Int->Int->Int->Int->Int->Int->Int->Int->fU->b_))):=fZ υ 5 [] [.agg adq] w K
def D_ (a b c d e f g h i j k l m n o p:Int) (q r:fU) (s t u v x y z A B C D E F G H I J:Int) (L:fU) (w:θ) (K:(fO)->Int->b_):=fZ υ 6 [.agg ⟨jO a b c d e f g h i j k l m n o p q r s t u v x y z A B C D E F G H I J L⟩] [.one .ptr,.one ν] w K
def kX (c d e f g:Int) (b:fU) (w:θ) (K:fU->b_):=fZ υ 7 [Β c,Β d,Β e,Β f,Β g,Δ b] [.one .slice] w K
def oU (c:fO) (b:fU) (w:θ) (K:fU->Int->b_):=fZ υ 8 [.pointer c,Δ b] [.one .slice,.one ν] w K
def yN (c d e f g h i j k l m n o p q r:Int) (s t:fU) (u v x y z A B C D E F G H I J L M:Int) (N:fU) (O:Int) (b:fU) (w:θ) (K:fU->b_):=fZ υ 9 [.agg ⟨jO c d e f g h i j k l m n o p q r s t u v x y z A B C D E F G H I J L M N⟩,Β O,Δ b] [.one .slice] w K
def uJ (b:fU) (w:θ) (K:Int->Int->Int->Int->Int->Int->Int->Bool->Bool->fU->fU->Int->b_):=fZ υ 10 [Δ b] [.agg rU,.one ν] w K
def pU (c:fO) (b:fU) (w:θ) (K:fU->Int->b_):=fZ υ 11 [.pointer c,Δ b] [.one .slice,.one ν] w K
def wM (a:fO) (w:θ) (K:Int->fU->fU->Int->Int->Int->fU->b_):=fZ υ 12 [.pointer a] [.agg [ν,.slice,.slice,ν,ν,ν,.slice]] w K
def Aa (b:fU) (w:θ) (K:fP (fP (b_))):=fZ υ 13 [Δ b] [.agg QI] w K
def Ko (a b c d e f g h i j k l m n o p:Int) (q r:fU) (s t u v x y z A B C D E F G H I J:Int) (L:fU) (w:θ) (K:(fO)->Int->b_):=fZ υ 14 [.agg ⟨jO a b c d e f g h i j k l m n o p q r s t u v x y z A B C D E F G H I J L⟩] [.one .ptr,.one ν] w K
def Ed (w:θ) (K:(fO)->b_):=fZ υ 15 [] [.one .ptr] w K
def Ei (a b c:Int) (w:θ) (K:(fO)->Int->b_):=fZ υ 16 [Β a,Β b,Β c] [.one .ptr,.one ν] w K
def Cb (c d e f:Int) (g:Bool) (b:fU) (w:θ) (K:fU->Int->b_):=fZ υ 17 [Β c,Β d,(.agg ⟨[Β e,Β f,.bool g,Δ b]⟩)] [.one .slice,.one ν] w K
def BZ (a b c d e f g:Int) (h i:Bool) (j k:fU) (w:θ) (K:fU->Int->b_):=fZ υ 18 [.agg ⟨gu a b c d e f g h i j k⟩] [.one .slice,.one ν] w K
def mW (a:fO) (w:θ) (K:Bool->b_):=fZ υ 19 [.pointer a] [.one .bool] w K
def Kz (b:fU) (w:θ) (K:fP (fP (fP (fP (Int->Int->Int->Int->fU->Int->b_))))):=fZ υ 20 [Δ b] [.agg Yx,.one ν] w K
def iP (a:fO) (b:Int) (w:θ) (K:fU->Int->b_):=fZ υ 21 [.pointer a,Β b] [.one .slice,.one ν] w K
def I4 (a:fO) (b c d e f g h i j k l m n o p q r s t u v x y z A B C D E F G H I J L M:Int) (N:fU) (w:θ) (K:fU->Int->b_):=fZ υ 22 [.pointer a,.agg ⟨jc b c d e f g h i j k l m n o p q r s t u v x y z A B C D E F G H I J L M N⟩] [.one .slice,.one ν] w K
def vI (a b c d e f g h i j k l m n o p:Int) (q r:fU) (s t u v x y z A B C D E F G H I J:Int) (L:fU) (M N O P Q R S T U V W X Y Z aa ab:Int) (w:θ) (K:Int->Bool->b_):=fZ υ 23 [.agg ⟨jO a b c d e f g h i j k l m n o p q r s t u v x y z A B C D E F G H I J L⟩,.agg ⟨iZ M N O P Q R S T U V W X Y Z aa ab⟩] [.one ν,.one .bool] w K
def uy (a:fO) (b c d e f g h i j k l m n o p q r s t u v x y z A B C D E F G H I J L M:Int) (N:fU) (w:θ) (K:fU->Int->Int->Bool->b_):=fZ υ 24 [.pointer a,.agg ⟨jc b c d e f g h i j k l m n o p q r s t u v x y z A B C D E F G H I J L M N⟩] [.one .slice,.one ν,.one ν,.one .bool] w K
def qx (a:fO) (b c d e f g h i:Int) (j k:Bool) (l m:fU) (w:θ) (K:Int->Int->Int->Int->Int->Int->Int->Bool->Bool->fU->fU->Int->Bool->b_):=fZ υ 25 [.pointer a,Β b,.agg ⟨gu c d e f g h i j k l m⟩] [.agg rU,.one ν,.one .bool] w K
def qH (a:fO) (b c d e f g h i:Int) (j k:Bool) (l m:fU) (w:θ) (K:fU->Int->b_):=fZ υ 26 [.pointer a,Β b,.agg ⟨gu c d e f g h i j k l m⟩] [.one .slice,.one ν] w K
def mZ (c d e f g h i j k l m n o p q r s t u v x y z A B C D E F G H I J:Int) (b:fU) (w:θ) (K:fP (fP (fP (fP (Int->Int->Int->Int->fU->Int->b_))))):=fZ υ 27 [.agg ⟨iZ c d e f g h i j k l m n o p q r⟩,.agg ⟨iZ s t u v x y z A B C D E F G H I⟩,Β J,Δ b] [.agg Yx,.one ν] w K
def EF (a b c d e f g h i j k l m n o p q r s t u v x y z A B C D E F G H I J L:Int) (M:fU) (w:θ) (K:fU->Int->b_):=fZ υ 28 [.agg ⟨jc a b c d e f g h i j k l m n o p q r s t u v x y z A B C D E F G H I J L M⟩] [.one .slice,.one ν] w K
def Ir (b:fU) (c:Bool) (w:θ) (K:fU->Int->Int->Int->b_):=fZ υ 29 [Δ b,.bool c] [.agg [.slice,ν,ν],.one ν] w K
def uV (b:fU) (w:θ) (K:Bool->b_):=fZ υ 30 [Δ b] [.one .bool] w K
def pK (b:fU) (c d:Int) (w:θ) (K:Int->Int->Int->Int->Int->Int->Int->Bool->Bool->fU->fU->b_):=fZ υ 31 [(.agg ⟨[Δ b,Β c,Β d]⟩)] [.agg rU] w K
def qO (a b c d e f g:Int) (h i:Bool) (j k:fU) (w:θ) (K:Int->b_):=fZ υ 32 [.agg ⟨gu a b c d e f g h i j k⟩] [.one ν] w K
def qA (a:fO) (b:Int) (w:θ) (K:Bool->b_):=fZ υ 33 [.pointer a,Β b] [.one .bool] w K
def nR (a:fO) (b c d e f g h:Int) (i j:Bool) (k l:fU) (m:Bool) (w:θ) (K:fU->Int->b_):=fZ υ 34 [.pointer a,.agg ⟨gu b c d e f g h i j k l⟩,.bool m] [.one .slice,.one ν] w K
def uD (a:fO) (w:θ) (K:Int->fU->fU->Int->Int->Int->fU->b_):=fZ υ 35 [.pointer a] [.agg [ν,.slice,.slice,ν,ν,ν,.slice]] w K
def o9 (a:fO) (w:θ) (K:Int->b_):=fZ υ 36 [.pointer a] [.one ν] w K
def qy (a:fO) (w:θ) (K:Int->b_):=fZ υ 37 [.pointer a] [.one ν] w K
def qI (a:fO) (w:θ) (K:fU->b_):=fZ υ 38 [.pointer a] [.one .slice] w K
def zM (a b c d e f g h i j k l m n o p:Int) (q r:fU) (s t u v x y z A B C D E F G H I J:Int) (L:fU) (w:θ) (K:Int->b_):=fZ υ 39 [.agg ⟨jO a b c d e f g h i j k l m n o p q r s t u v x y z A B C D E F G H I J L⟩] [.one ν] w K
def Kq (b:fU) (c d:Int) (w:θ) (K:(fO)->Int->b_):=fZ υ 40 [Δ b,Β c,Β d] [.one .ptr,.one ν] w K
def F7 (a b:Int) (w:θ) (K:(fO)->Int->b_):=fZ υ 41 [Β a,Β b] [.one .ptr,.one ν] w K
def JZ (a:Int) (w:θ) (K:(fO)->Int->b_):=fZ υ 42 [Β a] [.one .ptr,.one ν] w K
def Ce (a:Int) (w:θ) (K:(fO)->Int->b_):=fZ υ 43 [Β a] [.one .ptr,.one ν] w K
def Gs (a:Int) (w:θ) (K:(fO)->Int->b_):=fZ υ 44 [Β a] [.one .ptr,.one ν] w K
def vM (a:fO) (b c d e f g h:Int) (w:θ) (K:Int->b_):=fZ υ 45 [.pointer a,(.agg ⟨[Β b,Β c,Β d,Β e,Β f,Β g,Β h]⟩)] [.one ν] w K
def LM (a b c:Int) (w:θ) (K:Bool->b_):=fZ υ 46 [Β a,Β b,Β c] [.one .bool] w K
def Cc (c d:Int) (e:Bool) (b:fU) (w:θ) (K:Int->b_):=fZ υ 47 [(.agg ⟨[Β c,Β d,.bool e,Δ b]⟩)] [.one ν] w K
def xB (c d:Int) (e:Bool) (b:fU) (f:Int) (w:θ) (K:fU->b_):=fZ υ 48 [(.agg ⟨[Β c,Β d,.bool e,Δ b]⟩),Β f] [.one .slice] w K
def Eu (b:fU) (w:θ) (K:Int->b_):=fZ υ 49 [Δ b] [.one ν] w K
def Ac (a b c d:Int) (w:θ) (K:fU->b_):=fZ υ 50 [Β a,Β b,Β c,Β d] [.one .slice] w K
def B_ (a b c d e f g:Int) (h i:Bool) (j k:fU) (w:θ) (K:Int->b_):=fZ υ 51 [.agg ⟨gu a b c d e f g h i j k⟩] [.one ν] w K
def yT (a b c d e f g:Int) (h i:Bool) (j k:fU) (l m:Int) (w:θ) (K:fU->b_):=fZ υ 52 [.agg ⟨gu a b c d e f g h i j k⟩,Β l,Β m] [.one .slice] w K
def vT (a b c d e f g:Int) (h i:Bool) (j k:fU) (w:θ) (K:Int->b_):=fZ υ 53 [.agg ⟨gu a b c d e f g h i j k⟩] [.one ν] w K
def N9 (b:fU) (c:Bool) (w:θ) (K:fP (fP (fP (fP (Int->Int->Int->Int->fU->Int->b_))))):=fZ υ 54 [Δ b,.bool c] [.agg Yx,.one ν] w K
def sH (a:fO) (b:Int) (w:θ) (K:Bool->b_):=fZ υ 55 [.pointer a,Β b] [.one .bool] w K
def oG (b:fU) (c d e f g h i j k l m n o p q r:Int) (w:θ) (K:Int->b_):=fZ υ 60 [Δ b,.agg ⟨iZ c d e f g h i j k l m n o p q r⟩] [.one ν] w K
def YO (a b c d e f g h i j k l m n o p q r s t u v x y z A B C D E F G H I J L:Int) (M:fU) (w:θ) (K:Int->Int->Int->Bool->fU->Bool->b_):=fZ υ 61 [.agg ⟨jc a b c d e f g h i j k l m n o p q r s t u v x y z A B C D E F G H I J L M⟩] [.agg [ν,ν,ν,.bool],.one .slice,.one .bool] w K
def qW (c:fO) (d:ByteArray) (e:Int) (f:Bool) (b:fU) (g:ByteArray) (h:Int) (w:θ) (K:ByteArray->fU->Bool->Int->b_):=fZ υ 62 [.pointer c,.string d,Β e,.bool f,Δ b,.string g,Β h] [.one .str,.one .slice,.one .bool,.one ν] w K
def BM (a b c d e f g h i j k l m n o p q r s t u v x y z A B C D E F G H I J L:Int) (M:fU) (N:Int) (w:θ) (K:ByteArray->b_):=fZ υ 63 [.agg ⟨jc a b c d e f g h i j k l m n o p q r s t u v x y z A B C D E F G H I J L M⟩,Β N] [.one .str] w K
def JG (a:Int) (w:θ) (K:Int->b_):=fZ υ 64 [Β a] [.one ν] w K
def Ag (a b c d e f g:Int) (h i:Bool) (j k:fU) (w:θ) (K:Bool->b_):=fZ υ 65 [.agg ⟨gu a b c d e f g h i j k⟩] [.one .bool] w K
def QX (a b c d e f g h:Int) (i j:Bool) (k l:fU) (w:θ) (K:ByteArray->b_):=fZ υ 66 [Β a,.agg ⟨gu b c d e f g h i j k l⟩] [.one .str] w K
def oV (a b c d e f g:Int) (h i:Bool) (j k:fU) (w:θ) (K:fU->b_):=fZ υ 67 [.agg ⟨gu a b c d e f g h i j k⟩] [.one .slice] w K
def kH (a:fO) (b c d e f g h i:Int) (j k:Bool) (l m:fU) (w:θ) (K:Int->Int->Int->Int->Int->Int->Int->Bool->Bool->fU->fU->Int->b_):=fZ υ 68 [.pointer a,Β b,.agg ⟨gu c d e f g h i j k l m⟩] [.agg rU,.one ν] w K
def lU (a:fO) (b c d e f g h:Int) (i j:Bool) (k l:fU) (w:θ) (K:Int->Int->Int->Int->Int->Int->Int->Bool->Bool->fU->fU->b_):=fZ υ 69 [.pointer a,.agg ⟨gu b c d e f g h i j k l⟩] [.agg rU] w K
def sD (c:fO) (d:Int) (b:fU) (w:θ) (K:fU->Int->b_):=fZ υ 70 [.pointer c,Β d,Δ b] [.one .slice,.one ν] w K
def Dh (a:fO) (b c d e f g h i j k:Int) (l m:Bool) (n o:fU) (w:θ) (K:fU->b_):=fZ υ 71 [.pointer a,Β b,Β c,Β d,.agg ⟨gu e f g h i j k l m n o⟩] [.one .slice] w K
def J5 (a b c d e f g:Int) (h i:Bool) (j k:fU) (l:Int) (w:θ) (K:fU->Int->b_):=fZ υ 72 [.agg ⟨gu a b c d e f g h i j k⟩,Β l] [.one .slice,.one ν] w K
def gK (b:fU) (w:θ) (K:fU->b_):=fZ υ 73 [Δ b] [.one .slice] w K
def Ah (a b c d e f g h i j k l m n o p q r s t u v x y z A B C D E F G H I J L:Int) (M:fU) (w:θ) (K:Int->b_):=fZ υ 74 [.agg ⟨jc a b c d e f g h i j k l m n o p q r s t u v x y z A B C D E F G H I J L M⟩] [.one ν] w K
def lG (b:fU) (c d:Int) (w:θ) (K:fU->b_):=fZ υ 75 [Δ b,Β c,Β d] [.one .slice] w K
def jP (b:fU) (w:θ) (K:fU->b_):=fZ υ 76 [Δ b] [.one .slice] w K
def gV (b:fU) (c d e f:Int) (w:θ) (K:Int->b_):=fZ υ 77 [(.agg ⟨[Δ b,Β c,Β d]⟩),Β e,Β f] [.one ν] w K
theorem rG {a b c d e w K f}:gV a b c d e w K->(∀g w,K g w->f g w)->gV a b c d e w f:=fZ.mono
def Iq (b:fU) (w:θ) (K:Int->b_):=fZ υ 78 [Δ b] [.one ν] w K
def xR (b:fU) (w:θ) (K:Bool->b_):=fZ υ 79 [Δ b] [.one .bool] w K
def jI (a b:Int) (w:θ) (K:Bool->b_):=fZ υ 80 [Β a,Β b] [.one .bool] w K
def lF (a:Int) (w:θ) (K:Bool->b_):=fZ υ 81 [Β a] [.one .bool] w K
def Dp (a b c d e f g:Int) (h i:Bool) (j k:fU) (w:θ) (K:Int->b_):=fZ υ 82 [.agg ⟨gu a b c d e f g h i j k⟩] [.one ν] w K
def jR (a:fO) (w:θ) (K:Bool->b_):=fZ υ 83 [.pointer a] [.one .bool] w K
def pV (a:fO) (b:Int) (w:θ) (K:Bool->b_):=fZ υ 84 [.pointer a,Β b] [.one .bool] w K
def KA (a b c d e f g:Int) (h i:Bool) (j k:fU) (w:θ) (K:Int->Int->Int->Int->Int->Int->Int->Bool->Bool->fU->fU->Bool->b_):=fZ υ 85 [.agg ⟨gu a b c d e f g h i j k⟩] [.agg rU,.one .bool] w K
def YN (a b c d e f g:Int) (h i:Bool) (j k:fU) (l:Bool) (w:θ) (K:fU->b_):=fZ υ 86 [.agg ⟨gu a b c d e f g h i j k⟩,.bool l] [.one .slice] w K
def oD (a:fO) (b c d e f g h:Int) (i j:Bool) (k l:fU) (w:θ) (K:Int->Int->Int->Int->Int->Int->Int->Int->Bool->Bool->fU->fU->Int->b_):=fZ υ 87 [.pointer a,.agg ⟨gu b c d e f g h i j k l⟩] [.one ν,.agg rU,.one ν] w K
def wO (a:fO) (b c d e f g h i:Int) (j k:Bool) (l m:fU) (w:θ) (K:fU->b_):=fZ υ 88 [.pointer a,Β b,.agg ⟨gu c d e f g h i j k l m⟩] [.one .slice] w K
def mY (a:fO) (w:θ) (K:Int->b_):=fZ υ 89 [.pointer a] [.one ν] w K
def BN (a:fO) (w:θ) (K:Value->b_):=fZ υ 90 [.pointer a] [.one .any] w K
def sO (a:fO) (w:θ) (K:Value->b_):=fZ υ 91 [.pointer a] [.one .any] w K
def o_ (a:fO) (w:θ) (K:Bool->b_):=fZ υ 92 [.pointer a] [.one .bool] w K
def Dj (a:fO) (w:θ) (K:Int->b_):=fZ υ 93 [.pointer a] [.one ν] w K
def kL (b:fU) (w:θ) (K:fU->b_):=fZ υ 94 [Δ b] [.one .slice] w K
def yx (a b c d e f g h i j k l m n o p:Int) (q r:fU) (s t u v x y z A B C D E F G H I J:Int) (L:fU) (w:θ) (K:fU->b_):=fZ υ 95 [.agg ⟨jO a b c d e f g h i j k l m n o p q r s t u v x y z A B C D E F G H I J L⟩] [.one .slice] w K
def kG (a b c:Int) (w:θ) (K:Bool->b_):=fZ υ 96 [(.agg ⟨[Β a,Β b,Β c]⟩)] [.one .bool] w K
def zT (a:Int) (w:θ) (K:Bool->b_):=fZ υ 97 [Β a] [.one .bool] w K
def zQ (a b c d e f g h i j k l m n o p:Int) (q r:fU) (s t u v x y z A B C D E F G H I J:Int) (L:fU) (w:θ) (K:Bool->b_):=fZ υ 98 [.agg ⟨jO a b c d e f g h i j k l m n o p q r s t u v x y z A B C D E F G H I J L⟩] [.one .bool] w K
def wP (a b c d e f g h i j k l m n o p:Int) (q r:fU) (s t u v x y z A B C D E F G H I J:Int) (L:fU) (w:θ) (K:Bool->b_):=fZ υ 99 [.agg ⟨jO a b c d e f g h i j k l m n o p q r s t u v x y z A B C D E F G H I J L⟩] [.one .bool] w K
def qJ (a:Int) (w:θ) (K:Bool->b_):=fZ υ 100 [Β a] [.one .bool] w K
def iT (b:fU) (c:Int) (w:θ) (K:Bool->b_):=fZ υ 101 [Δ b,Β c] [.one .bool] w K
def zZ (a:Int) (w:θ) (K:(fO)->Int->b_):=fZ υ 102 [Β a] [.one .ptr,.one ν] w K
def vN (a:fO) (b c d e f g h:Int) (w:θ) (K:Bool->b_):=fZ υ 103 [.pointer a,(.agg ⟨[Β b,Β c,Β d,Β e,Β f,Β g,Β h]⟩)] [.one .bool] w K
def ou (a:fO) (b c d e:Int) (w:θ) (K:Int->Bool->b_):=fZ υ 104 [.pointer a,(.agg ⟨[Β b,Β c,Β d,Β e]⟩)] [.one ν,.one .bool] w K
def oq (a:fO) (b c d:Int) (w:θ) (K:Int->Bool->b_):=fZ υ 105 [.pointer a,(.agg ⟨[Β b,Β c,Β d]⟩)] [.one ν,.one .bool] w K
def nS (a:fO) (b:Int) (w:θ) (K:Int->b_):=fZ υ 106 [.pointer a,Β b] [.one ν] w K
def pF (a:fO) (w:θ) (K:Bool->b_):=fZ υ 107 [.pointer a] [.one .bool] w K
def pI (a:fO) (b:Int) (w:θ) (K:Int->b_):=fZ υ 108 [.pointer a,Β b] [.one ν] w K
def wR (a:fO) (b c d:Int) (w:θ) (K:Int->b_):=fZ υ 109 [.pointer a,(.agg ⟨[Β b,Β c,Β d]⟩)] [.one ν] w K
def xu (a:fO) (b c d e f g h:Int) (i:Bool) (w:θ) (K:Int->Int->b_):=fZ υ 110 [.pointer a,(.agg ⟨[Β b,Β c,Β d,Β e,Β f,Β g,Β h,.bool i]⟩)] [.one ν,.one ν] w K
def lY (a b:Int) (w:θ) (K:Bool->b_):=fZ υ 111 [Β a,Β b] [.one .bool] w K
def jh (b:fU) (c d:Int) (w:θ) (K:fU->b_):=fZ υ 112 [Δ b,Β c,Β d] [.one .slice] w K
def F9 (b:fU) (w:θ) (K:Int->b_):=fZ υ 113 [Δ b] [.one ν] w K
def uU (a b:Int) (w:θ) (K:Int->b_):=fZ υ 114 [Β a,Β b] [.one ν] w K
def xA (a:Int) (w:θ) (K:Bool->b_):=fZ υ 115 [Β a] [.one .bool] w K
def yR (a b c d e f g:Int) (h i:Bool) (j k:fU) (w:θ) (K:Int->b_):=fZ υ 116 [.agg ⟨gu a b c d e f g h i j k⟩] [.one ν] w K
def tC (b:fU) (c d:Int) (w:θ) (K:Int->Int->b_):=fZ υ 117 [Δ b,Β c,Β d] [.one ν,.one ν] w K
def sJ (a:fO) (b:Int) (w:θ) (K:Bool->b_):=fZ υ 118 [.pointer a,Β b] [.one .bool] w K
def Kw (a b c d e f g:Int) (h i:Bool) (j k:fU) (w:θ) (K:fU->Int->b_):=fZ υ 128 [.agg ⟨gu a b c d e f g h i j k⟩] [.one .slice,.one ν] w K
def lX (a:fO) (b:Int) (w:θ) (K:Bool->b_):=fZ υ 129 [.pointer a,Β b] [.one .bool] w K
def yQ (a b c d e f g:Int) (h i:Bool) (j k:fU) (w:θ) (K:Bool->b_):=fZ υ 130 [.agg ⟨gu a b c d e f g h i j k⟩] [.one .bool] w K
def yO (a b c d e f g:Int) (h i:Bool) (j k:fU) (w:θ) (K:Int->Int->Int->fU->Bool->b_):=fZ υ 131 [.agg ⟨gu a b c d e f g h i j k⟩] [.agg [ν,ν,ν,.slice],.one .bool] w K
def pq (c:fO) (d e f g h i j k:Int) (l m:Bool) (n o:fU) (p q r:Int) (b:fU) (w:θ) (K:Int->Int->Int->Int->Int->Int->Int->Bool->Bool->fU->fU->Int->b_):=fZ υ 132 [.pointer c,Β d,.agg ⟨gu e f g h i j k l m n o⟩,(.agg ⟨[Β p,Β q,Β r,Δ b]⟩)] [.agg rU,.one ν] w K
def En (a b c d e f g:Int) (h i:Bool) (j k:fU) (w:θ) (K:Int->Int->Int->Int->b_):=fZ υ 133 [.agg ⟨gu a b c d e f g h i j k⟩] [.agg [ν,ν,ν],.one ν] w K
def Ej (a:Int) (w:θ) (K:Int->b_):=fZ υ 134 [Β a] [.one ν] w K
def jQ (a:fO) (b c d e f g h i j k l m n:Int) (o p:Bool) (q r:fU) (w:θ) (K:Int->Bool->Int->Bool->Int->Int->Int->Value->b_):=fZ υ 135 [.pointer a,(.agg ⟨[Β b,Β c,Β d,Β e]⟩),(.agg ⟨[Β f,Β g]⟩),.agg ⟨gu h i j k l m n o p q r⟩] [.agg [ν,.bool,ν,.bool,ν,ν,ν],.one .any] w K
def tJ (a b c:Int) (w:θ) (K:Int->Int->b_):=fZ υ 136 [Β a,Β b,Β c] [.agg [ν,ν]] w K
def FZ (a b:Value) (w:θ) (K:Bool->b_):=fZ υ 137 [a,b] [.one .bool] w K
def kW (a:fO) (b:Int) (c:Bool) (d:Int) (e:Bool) (f g h i j:Int) (w:θ) (K:b_):=fZ υ 138 [.pointer a,(.agg ⟨[Β b,.bool c,Β d,.bool e,Β f,Β g,Β h]⟩),Β i,Β j] [] w K
def nI (a:fO) (b:Int) (w:θ) (K:Int->Int->Int->Int->Int->Int->Int->Bool->Bool->b_):=fZ υ 139 [.pointer a,Β b] [.agg [ν,ν,ν,ν,ν,ν,ν,.bool],.one .bool] w K
def Em (a b c d e f g:Int) (h i:Bool) (j k:fU) (l m:Int) (w:θ) (K:Int->Int->Int->Int->Int->Int->Int->Bool->Bool->fU->fU->Int->b_):=fZ υ 140 [.agg ⟨gu a b c d e f g h i j k⟩,Β l,Β m] [.agg rU,.one ν] w K
def QY (a b c d e f g:Int) (h i:Bool) (j k:fU) (l:Int) (w:θ) (K:Int->Int->Int->Int->Int->Int->Int->Bool->Bool->fU->fU->b_):=fZ υ 141 [.agg ⟨gu a b c d e f g h i j k⟩,Β l] [.agg rU] w K
def Dk (a:Value) (w:θ) (K:fU->b_):=fZ υ 142 [a] [.one .slice] w K
def NZ (a b c d e f g:Int) (h i:Bool) (j k:fU) (l:Int) (w:θ) (K:Value->b_):=fZ υ 143 [.agg ⟨gu a b c d e f g h i j k⟩,Β l] [.one .any] w K
def jA (b:fU) (c:Value) (w:θ) (K:fU->b_):=fZ υ 144 [Δ b,c] [.one .slice] w K
def A_ (a b:Int) (w:θ) (K:Value->b_):=fZ υ 145 [Β a,Β b] [.one .any] w K
def lM (b:fU) (c:Int) (w:θ) (K:fU->b_):=fZ υ 146 [Δ b,Β c] [.one .slice] w K
def EC (a:Int) (w:θ) (K:Int->b_):=fZ υ 147 [Β a] [.one ν] w K
def Bl (b:fU) (w:θ) (K:Int->b_):=fZ υ 148 [Δ b] [.one ν] w K
def qB (b:fU) (c:Bool) (w:θ) (K:Bool->b_):=fZ υ 149 [Δ b,.bool c] [.one .bool] w K
def Eb (a:Int) (w:θ) (K:Bool->b_):=fZ υ 150 [Β a] [.one .bool] w K
def Dn (a b c d e f g:Int) (h i:Bool) (j k:fU) (w:θ) (K:Int->b_):=fZ υ 151 [.agg ⟨gu a b c d e f g h i j k⟩] [.one ν] w K
def kJ (a:fO) (w:θ) (K:Bool->b_):=fZ υ 152 [.pointer a] [.one .bool] w K
def qg (c:fO) (d e f g h i j:Int) (k l:Bool) (m n:fU) (o p q:Int) (b:fU) (w:θ) (K:Int->Int->Int->Int->Int->Int->Int->Int->Bool->Bool->fU->fU->Int->b_):=fZ υ 153 [.pointer c,.agg ⟨gu d e f g h i j k l m n⟩,(.agg ⟨[Β o,Β p,Β q,Δ b]⟩)] [.one ν,.agg rU,.one ν] w K
def pz (a:fO) (b:Int) (c:Bool) (d:Int) (e:Bool) (f g h:Int) (w:θ) (K:Int->Bool->Int->Bool->Int->Int->Int->b_):=fZ υ 154 [.pointer a,(.agg ⟨[Β b,.bool c,Β d,.bool e,Β f,Β g,Β h]⟩)] [.agg [ν,.bool,ν,.bool,ν,ν,ν]] w K
def zU (c d e:Int) (b:fU) (w:θ) (K:Bool->b_):=fZ υ 155 [Β c,(.agg ⟨[Β d,Β e]⟩),Δ b] [.one .bool] w K
def uG (a:fO) (b:Int) (w:θ) (K:fU->b_):=fZ υ 156 [.pointer a,Β b] [.one .slice] w K
def sK (a:fO) (b:Int) (c:Bool) (d:Int) (e:Bool) (f g h i j k l m n o:Int) (p q:Bool) (r s:fU) (w:θ) (K:Int->b_):=fZ υ 157 [.pointer a,(.agg ⟨[Β b,.bool c,Β d,.bool e,Β f,Β g,Β h]⟩),.agg ⟨gu i j k l m n o p q r s⟩] [.one ν] w K
def Ku (a b c d e f g:Int) (h i:Bool) (j k:fU) (l m:Int) (w:θ) (K:Int->Int->Int->Int->Int->Int->Int->Bool->Bool->fU->fU->Int->b_):=fZ υ 158 [.agg ⟨gu a b c d e f g h i j k⟩,Β l,Β m] [.agg rU,.one ν] w K
def J_ (a b c d e f g h i j k l m n o p q r s t u v x y z A B C D E F G H I J L:Int) (M:fU) (N O:Int) (w:θ) (K:fU->Int->b_):=fZ υ 159 [.agg ⟨jc a b c d e f g h i j k l m n o p q r s t u v x y z A B C D E F G H I J L M⟩,Β N,Β O] [.one .slice,.one ν] w K
def nY (a:fO) (w:θ) (K:Bool->b_):=fZ υ 160 [.pointer a] [.one .bool] w K
abbrev Fb:FuncId:=161
def PZ (a:Value) (b:Addr) (w:θ) (K:b_):=fZ υ 161 [a,(.pointer (some b))] [] w K
def kP (a:fO) (w:θ) (K:Bool->b_):=fZ υ 162 [.pointer a] [.one .bool] w K
abbrev wK:FuncId:=163
def Fv (a:Value) (b:Addr) (w:θ) (K:b_):=fZ υ 163 [a,(.pointer (some b))] [] w K
def ji (a:fO) (w:θ) (K:Bool->b_):=fZ υ 164 [.pointer a] [.one .bool] w K
def I8 (a:fO) (w:θ) (K:Int->b_):=fZ υ 165 [.pointer a] [.one ν] w K
abbrev Oy:FuncId:=166
def NV (a b c d e f g h i j k l m n o p:Int) (w:θ) (K:Bool->b_):=fZ υ 166 [.agg ⟨iZ a b c d e f g h i j k l m n o p⟩] [.one .bool] w K
def Ew (a b c d e f g h i j k l m n o p:Int) (w:θ) (K:Bool->b_):=fZ υ 167 [.agg ⟨iZ a b c d e f g h i j k l m n o p⟩] [.one .bool] w K
abbrev Oz:FuncId:=168
def NW (a:Int) (w:θ) (K:Bool->b_):=fZ υ 168 [Β a] [.one .bool] w K
abbrev OA:FuncId:=169
def NY (a b c d e f g:Int) (h:Addr) (w:θ) (K:Bool->b_):=fZ υ 169 [(.agg ⟨[Β a,Β b,Β c,Β d,Β e,Β f,Β g]⟩),(.pointer (some h))] [.one .bool] w K
def BR (a b c d e f g h i j k l m n o p:Int) (q r:fU) (s t u v x y z A B C D E F G H I J:Int) (L:fU) (M N O P Q R S:Int) (w:θ) (K:Bool->b_):=fZ υ 170 [.agg ⟨jO a b c d e f g h i j k l m n o p q r s t u v x y z A B C D E F G H I J L⟩,(.agg ⟨[Β M,Β N,Β O,Β P,Β Q,Β R,Β S]⟩)] [.one .bool] w K
def jM (b:fU) (c:Value) (w:θ) (K:Bool->b_):=fZ υ 171 [Δ b,c] [.one .bool] w K
def jT (b:fU) (c:Value) (w:θ) (K:Bool->b_):=fZ υ 172 [Δ b,c] [.one .bool] w K
def jl (b:fU) (c:Value) (w:θ) (K:Bool->b_):=fZ υ 173 [Δ b,c] [.one .bool] w K
def jL (b:fU) (w:θ) (K:fU->b_):=fZ υ 174 [Δ b] [.one .slice] w K
abbrev KL:FuncId:=175
def zN (a b c d e f g:Int) (w:θ) (K:Int->Int->Int->Int->b_):=fZ υ 175 [(.agg ⟨[Β a,Β b,Β c,Β d,Β e,Β f,Β g]⟩)] [.agg [ν,ν,ν,ν]] w K
abbrev KN:FuncId:=176
def zO (a b c d e f g:Int) (w:θ) (K:Int->Int->Int->b_):=fZ υ 176 [(.agg ⟨[Β a,Β b,Β c,Β d,Β e,Β f,Β g]⟩)] [.agg [ν,ν,ν]] w K
def oW (a:Value) (w:θ) (K:Bool->b_):=fZ υ 177 [a] [.one .bool] w K
def lH (b:fU) (c:Value) (w:θ) (K:Value->b_):=fZ υ 178 [Δ b,c] [.one .any] w K
abbrev DC:FuncId:=179
def uT (a b c d e f g h i j k l m n o p:Int) (w:θ) (K:fP (fP (b_))):=fZ υ 179 [.agg ⟨iZ a b c d e f g h i j k l m n o p⟩] [.agg QI] w K
def uz (a:Value) (w:θ) (K:Bool->b_):=fZ υ 180 [a] [.one .bool] w K
def qc (b:fU) (c:Value) (w:θ) (K:Value->b_):=fZ υ 181 [Δ b,c] [.one .any] w K
abbrev Jb:FuncId:=182
def I5 (a:Int) (w:θ) (K:Int->b_):=fZ υ 182 [Β a] [.one ν] w K
def nJ (a:Value) (w:θ) (K:Bool->b_):=fZ υ 183 [a] [.one .bool] w K
def jZ (b:fU) (c:Value) (w:θ) (K:Value->b_):=fZ υ 184 [Δ b,c] [.one .any] w K
def nK (a:Value) (w:θ) (K:Bool->b_):=fZ υ 185 [a] [.one .bool] w K
def j_ (b:fU) (c:Value) (w:θ) (K:Value->b_):=fZ υ 186 [Δ b,c] [.one .any] w K
abbrev KO:FuncId:=187
def J3 (a:Int) (b:Addr) (w:θ) (K:Bool->b_):=fZ υ 187 [Β a,(.pointer (some b))] [.one .bool] w K
def QZ (c:Int) (b:fU) (w:θ) (K:Bool->b_):=fZ υ 188 [Β c,Δ b] [.one .bool] w K
def lZ (b:fU) (c:Int) (w:θ) (K:Int->b_):=fZ υ 189 [Δ b,Β c] [.one ν] w K
def Bc (a:Int) (w:θ) (K:Bool->b_):=fZ υ 190 [Β a] [.one .bool] w K
def oz (a:fO) (b:ByteArray) (w:θ) (K:Int->Bool->b_):=fZ υ 191 [.pointer a,.string b] [.one ν,.one .bool] w K
def ug (a b c d:Int) (w:θ) (K:ByteArray->b_):=fZ υ 192 [(.agg ⟨[Β a,Β b,Β c,Β d]⟩)] [.one .str] w K
def uh (a b c:Int) (w:θ) (K:ByteArray->b_):=fZ υ 193 [(.agg ⟨[Β a,Β b,Β c]⟩)] [.one .str] w K
def rD (a:fO) (b:Int) (w:θ) (K:(fO)->Int->b_):=fZ υ 194 [.pointer a,Β b] [.one .ptr,.one ν] w K
def BO (a:fO) (w:θ) (K:Int->b_):=fZ υ 195 [.pointer a] [.one ν] w K
def uH (a b:Int) (w:θ) (K:Bool->b_):=fZ υ 196 [(.agg ⟨[Β a,Β b]⟩)] [.one .bool] w K
def rC (a:Int) (w:θ) (K:Bool->b_):=fZ υ 197 [Β a] [.one .bool] w K
def zK (a:fO) (w:θ) (K:Int->Bool->b_):=fZ υ 198 [.pointer a] [.one ν,.one .bool] w K
def oC (a:fO) (b:ByteArray) (c:Int) (w:θ) (K:Int->b_):=fZ υ 199 [.pointer a,.string b,Β c] [.one ν] w K
def Bj (a:Int) (w:θ) (K:Int->b_):=fZ υ 200 [Β a] [.one ν] w K
def Es (b:fU) (c:Int) (w:θ) (K:Int->b_):=fZ υ 201 [Δ b,Β c] [.one ν] w K
def Et (a:Int) (w:θ) (K:Int->b_):=fZ υ 202 [Β a] [.one ν] w K
def Ba (b:fU) (c d:Int) (w:θ) (K:fU->Int->b_):=fZ υ 203 [Δ b,Β c,Β d] [.one .slice,.one ν] w K
def Gn (b:fU) (w:θ) (K:Int->Int->Int->Int->Int->Int->Int->Bool->Bool->fU->fU->Int->b_):=fZ υ 207 [Δ b] [.agg rU,.one ν] w K
def yJ (c d e:Int) (b:fU) (w:θ) (K:fU->Int->b_):=fZ υ 210 [(.agg ⟨[Β c,Β d,Β e,Δ b]⟩)] [.one .slice,.one ν] w K
def Gq (a b c d e f g:Int) (h i:Bool) (j k:fU) (w:θ) (K:fU->b_):=fZ υ 222 [.agg ⟨gu a b c d e f g h i j k⟩] [.one .slice] w K
def vH (b:fU) (c d e:Int) (w:θ) (K:fU->Int->b_):=fZ υ 223 [Δ b,Β c,Β d,Β e] [.one .slice,.one ν] w K
def Dl (b:fU) (w:θ) (K:Int->b_):=fZ υ 224 [Δ b] [.one ν] w K
def yL (b:fU) (w:θ) (K:Int->Int->Int->fU->Int->b_):=fZ υ 225 [Δ b] [.agg [ν,ν,ν,.slice],.one ν] w K
def Ef (a:Int) (w:θ) (K:Bool->b_):=fZ υ 226 [Β a] [.one .bool] w K
def tK (b:fU) (w:θ) (K:Int->Int->Int->Int->Int->Int->Int->Bool->Bool->fU->fU->Int->Int->Int->Int->b_):=fZ υ 227 [Δ b] [.agg rU,.agg [ν,ν,ν],.one ν] w K
def Bg (c d e f g h i:Int) (j k:Bool) (l m:fU) (n o p:Int) (b:fU) (q:Bool) (r s:Int) (w:θ) (K:Int->Int->Int->Int->Int->Int->Int->Bool->Bool->fU->fU->b_):=fZ υ 228 [.agg ⟨gu c d e f g h i j k l m⟩,(.agg ⟨[Β n,Β o,Β p,Δ b]⟩),.bool q,Β r,Β s] [.agg rU] w K
def qL (a b c d e f g:Int) (h i:Bool) (j k:fU) (w:θ) (K:Value->Int->b_):=fZ υ 229 [.agg ⟨gu a b c d e f g h i j k⟩] [.one .any,.one ν] w K
def Bf (a:Int) (b:Bool) (c:Int) (d:Bool) (e f g h i j k l m n:Int) (o p:Bool) (q r:fU) (s:Bool) (w:θ) (K:Int->Bool->b_):=fZ υ 230 [(.agg ⟨[Β a,.bool b,Β c,.bool d,Β e,Β f,Β g]⟩),.agg ⟨gu h i j k l m n o p q r⟩,.bool s] [.one ν,.one .bool] w K
def z_ (a b c d e f g:Int) (h i:Bool) (j k:fU) (w:θ) (K:Bool->b_):=fZ υ 231 [.agg ⟨gu a b c d e f g h i j k⟩] [.one .bool] w K
def mM (a:fO) (w:θ) (K:Bool->b_):=fZ υ 232 [.pointer a] [.one .bool] w K
def uF (a:fO) (b c d e:Int) (w:θ) (K:Int->Value->b_):=fZ υ 233 [.pointer a,(.agg ⟨[Β b,Β c,Β d,Β e]⟩)] [.one ν,.one .any] w K
def BQ (a b c d e f g h i j k l m n o p:Int) (q r:fU) (s t u v x y z A B C D E F G H I J:Int) (L:fU) (M N:Int) (w:θ) (K:Int->b_):=fZ υ 238 [.agg ⟨jO a b c d e f g h i j k l m n o p q r s t u v x y z A B C D E F G H I J L⟩,Β M,Β N] [.one ν] w K
def sS (a:fO) (b c d:Int) (w:θ) (K:Bool->b_):=fZ υ 239 [.pointer a,Β b,Β c,Β d] [.one .bool] w K
def sN (a:fO) (b c d e f:Int) (w:θ) (K:Int->Int->b_):=fZ υ 240 [.pointer a,(.agg ⟨[Β b,Β c,Β d,Β e,Β f]⟩)] [.one ν,.one ν] w K
def qC (a:fO) (b c:Int) (w:θ) (K:Int->b_):=fZ υ 241 [.pointer a,Β b,Β c] [.one ν] w K
def BP (a:fO) (b:Int) (w:θ) (K:Bool->b_):=fZ υ 242 [.pointer a,Β b] [.one .bool] w K
def xw (a b c d e f g:Int) (h i:Bool) (j k:fU) (l m n o:Int) (w:θ) (K:Int->Int->Int->Int->Int->Int->Int->Bool->Bool->fU->fU->Int->b_):=fZ υ 243 [.agg ⟨gu a b c d e f g h i j k⟩,(.agg ⟨[Β l,Β m]⟩),(.agg ⟨[Β n,Β o]⟩)] [.agg rU,.one ν] w K
def Gi (c d:Int) (b:fU) (w:θ) (K:Int->Int->Int->Int->Int->Int->Int->Int->fU->fU->Int->b_):=fZ υ 244 [Β c,Β d,Δ b] [.agg ain,.one ν] w K
abbrev UD:FuncId:=251
def Un (a:Value) (b c:Addr) (w:θ) (K:b_):=fZ υ 251 [a,(.pointer (some b)),(.pointer (some c))] [] w K
def Ea (b:fU) (w:θ) (K:Value->b_):=fZ υ 252 [Δ b] [.one .any] w K
def tN (b:fU) (c:Bool) (w:θ) (K:Int->b_):=fZ υ 253 [Δ b,.bool c] [.one ν] w K
def mX (a:fO) (b c d:Int) (w:θ) (K:Int->Bool->b_):=fZ υ 254 [.pointer a,Β b,(.agg ⟨[Β c,Β d]⟩)] [.one ν,.one .bool] w K
def nV (a:fO) (b:Int) (w:θ) (K:Int->Int->Int->Int->Int->Bool->b_):=fZ υ 255 [.pointer a,Β b] [.agg [ν,ν,ν,ν,ν],.one .bool] w K
def kE (b:fU) (c:Value) (w:θ) (K:Bool->b_):=fZ υ 256 [Δ b,c] [.one .bool] w K
def N7 (a b:Int) (c:Addr) (w:θ) (K:Bool->b_):=fZ υ 257 [(.agg ⟨[Β a,Β b]⟩),(.pointer (some c))] [.one .bool] w K
def kZ (b:fU) (c d:Int) (w:θ) (K:Bool->b_):=fZ υ 258 [Δ b,(.agg ⟨[Β c,Β d]⟩)] [.one .bool] w K
def uI (a:fO) (b:Int) (w:θ) (K:Value->b_):=fZ υ 259 [.pointer a,Β b] [.one .any] w K
def N8 (a b c d e f g h i j k l m n o p q r s t u v x y z A B C D E F G H I J L:Int) (M:fU) (w:θ) (K:Int->b_):=fZ υ 260 [.agg ⟨jc a b c d e f g h i j k l m n o p q r s t u v x y z A B C D E F G H I J L M⟩] [.one ν] w K
def Uo (b:fU) (c:Int) (w:θ) (K:Value->b_):=fZ υ 261 [Δ b,Β c] [.one .any] w K
def Q7 (a b c:Int) (d:Bool) (w:θ) (K:fU->Int->b_):=fZ υ 262 [(.agg ⟨[Β a,Β b,Β c,.bool d]⟩)] [.one .slice,.one ν] w K
def zS (a:Int) (w:θ) (K:Bool->b_):=fZ υ 263 [Β a] [.one .bool] w K
def ku (b:fU) (c:Value) (w:θ) (K:Int->b_):=fZ υ 264 [Δ b,c] [.one ν] w K
def mG (b:fU) (c:Value) (w:θ) (K:Int->b_):=fZ υ 265 [Δ b,c] [.one ν] w K
def jE (b:fU) (c:Value) (w:θ) (K:Int->b_):=fZ υ 266 [Δ b,c] [.one ν] w K
abbrev wG:FuncId:=267
def wF (a:Value) (b c:Addr) (w:θ) (K:b_):=fZ υ 267 [a,(.pointer (some b)),(.pointer (some c))] [] w K
abbrev Dz:FuncId:=268
def Di (a:Value) (b c:Addr) (w:θ) (K:b_):=fZ υ 268 [a,(.pointer (some b)),(.pointer (some c))] [] w K
abbrev sU:FuncId:=269
def sF (a:Value) (b c:Addr) (w:θ) (K:b_):=fZ υ 269 [a,(.pointer (some b)),(.pointer (some c))] [] w K
abbrev sV:FuncId:=270
def sG (a:Value) (b c:Addr) (w:θ) (K:b_):=fZ υ 270 [a,(.pointer (some b)),(.pointer (some c))] [] w K
def wQ (a b c:Int) (w:θ) (K:Bool->b_):=fZ υ 271 [(.agg ⟨[Β a,Β b]⟩),Β c] [.one .bool] w K
def oZ (a:fO) (w:θ) (K:Bool->b_):=fZ υ 272 [.pointer a] [.one .bool] w K
def jS (a:fO) (b:ByteArray) (w:θ) (K:Int->Bool->b_):=fZ υ 273 [.pointer a,.string b] [.one ν,.one .bool] w K
def Ec (b:fU) (w:θ) (K:ByteArray->b_):=fZ υ 274 [Δ b] [.one .str] w K
def vJ (a:fO) (w:θ) (K:b_):=fZ υ 275 [.pointer a] [] w K
def Ee (c d e:Int) (b:fU) (w:θ) (K:Int->b_):=fZ υ 278 [(.agg ⟨[Β c,Β d,Β e,Δ b]⟩)] [.one ν] w K
def Ky (a b c d e f g:Int) (h i:Bool) (j k:fU) (w:θ) (K:Int->b_):=fZ υ 287 [.agg ⟨gu a b c d e f g h i j k⟩] [.one ν] w K
def qh (a:Value) (w:θ) (K:fU->b_):=fZ υ 288 [a] [.one .slice] w K
def Eh (c:Int) (b:fU) (w:θ) (K:Bool->b_):=fZ υ 289 [Β c,Δ b] [.one .bool] w K
def vP (b:fU) (w:θ) (K:fU->Int->Int->Int->Int->Int->Int->Int->Bool->Bool->fU->fU->Int->Int->b_):=fZ υ 290 [Δ b] [.agg ag7,.one ν] w K
def qM (a:fU) (b c d e f g h:Int) (i j:Bool) (k l:fU) (m:Int) (w:θ) (K:Int->Int->Int->Int->b_):=fZ υ 291 [.agg ⟨mP a b c d e f g h i j k l m⟩] [.agg [ν,ν,ν],.one ν] w K
def yC (c d e:Int) (b:fU) (f:Bool) (g h:Int) (w:θ) (K:Int->Int->Int->fU->Int->b_):=fZ υ 292 [(.agg ⟨[Β c,Β d,Β e,Δ b]⟩),.bool f,Β g,Β h] [.agg [ν,ν,ν,.slice],.one ν] w K
def Gm (c d:Int) (b:fU) (w:θ) (K:Int->Int->Bool->fU->Int->b_):=fZ υ 293 [Β c,Β d,Δ b] [.agg [ν,ν,.bool,.slice],.one ν] w K
def yM (a:Int) (w:θ) (K:Bool->b_):=fZ υ 294 [Β a] [.one .bool] w K
def Ey (a:Int) (b:Bool) (c:Int) (w:θ) (K:Int->Bool->b_):=fZ υ 295 [Β a,.bool b,Β c] [.one ν,.one .bool] w K
def BX (a b c d e f g:Int) (h i:Bool) (j k:fU) (w:θ) (K:Int->b_):=fZ υ 296 [.agg ⟨gu a b c d e f g h i j k⟩] [.one ν] w K
def sQ (a:fO) (w:θ) (K:Int->b_):=fZ υ 297 [.pointer a] [.one ν] w K
def qX (a:fO) (b c d:Int) (w:θ) (K:Int->Int->Int->Int->b_):=fZ υ 298 [.pointer a,Β b,Β c,Β d] [.agg [ν,ν,ν],.one ν] w K
def nX (a:fO) (b:Int) (w:θ) (K:Bool->b_):=fZ υ 302 [.pointer a,Β b] [.one .bool] w K
def jk (b:fU) (c:Value) (w:θ) (K:Int->b_):=fZ υ 303 [Δ b,c] [.one ν] w K
abbrev FC:FuncId:=304
def wJ (a b c d e:Int) (f:Bool) (w:θ) (K:Bool->b_):=fZ υ 304 [(.agg ⟨[Β a,Β b,Β c,Β d,Β e,.bool f]⟩)] [.one .bool] w K
def xC (a b c:Int) (w:θ) (K:ByteArray->b_):=fZ υ 305 [Β a,(.agg ⟨[Β b,Β c]⟩)] [.one .str] w K
def lI (b:fU) (c:Int) (w:θ) (K:Int->Bool->b_):=fZ υ 306 [Δ b,Β c] [.one ν,.one .bool] w K
def oH (b:fU) (d:Int) (c:fU) (w:θ) (K:fU->b_):=fZ υ 307 [Δ b,Β d,Δ c] [.one .slice] w K
def uK (a:fO) (b c d:Int) (w:θ) (K:b_):=fZ υ 308 [.pointer a,(.agg ⟨[Β b,Β c,Β d]⟩)] [] w K
def vU (a:fO) (b c d:Int) (w:θ) (K:b_):=fZ υ 309 [.pointer a,(.agg ⟨[Β b,Β c,Β d]⟩)] [] w K
def rE (a b c d:Int) (w:θ) (K:fU->b_):=fZ υ 310 [Β a,Β b,Β c,Β d] [.one .slice] w K
abbrev UF:FuncId:=311
def Us (a b:Int) (c:Addr) (w:θ) (K:Int->b_):=fZ υ 311 [Β a,Β b,(.pointer (some c))] [.one ν] w K
abbrev Xz:FuncId:=316
def WQ (a:Value) (b:Addr) (w:θ) (K:b_):=fZ υ 316 [a,(.pointer (some b))] [] w K
def kU (b:fU) (c:Value) (w:θ) (K:Int->b_):=fZ υ 317 [Δ b,c] [.one ν] w K
def lV (b:fU) (c d:Int) (w:θ) (K:Int->b_):=fZ υ 318 [Δ b,(.agg ⟨[Β c,Β d]⟩)] [.one ν] w K
abbrev yc:FuncId:=319
def Gf (a:Value) (b c:Addr) (w:θ) (K:b_):=fZ υ 319 [a,(.pointer (some b)),(.pointer (some c))] [] w K
def vK (a:fO) (b:Int) (w:θ) (K:Value->b_):=fZ υ 321 [.pointer a,Β b] [.one .any] w K
def F5 (a:ByteArray) (b:Int) (w:θ) (K:Int->b_):=fZ υ 322 [.string a,Β b] [.one ν] w K
def uj (a:Int) (w:θ) (K:Bool->b_):=fZ υ 325 [Β a] [.one .bool] w K
def jJ (a:fU) (b c d e f g h:Int) (i j:Bool) (k l:fU) (m n:Int) (w:θ) (K:Int->b_):=fZ υ 327 [.agg ⟨mP a b c d e f g h i j k l m⟩,Β n] [.one ν] w K
def Q5 (b:fU) (c d:Int) (w:θ) (K:fU->Int->b_):=fZ υ 328 [Δ b,Β c,Β d] [.one .slice,.one ν] w K
def LP (b:fU) (c d:Int) (w:θ) (K:fU->Int->b_):=fZ υ 329 [Δ b,Β c,Β d] [.one .slice,.one ν] w K
def Ad (a:Int) (w:θ) (K:Bool->b_):=fZ υ 330 [Β a] [.one .bool] w K
def CB (a:Int) (b:Bool) (w:θ) (K:Int->b_):=fZ υ 331 [Β a,.bool b] [.one ν] w K
def Af (a:Int) (b:Bool) (w:θ) (K:Int->b_):=fZ υ 332 [Β a,.bool b] [.one ν] w K
def vO (a:fO) (b c:Int) (w:θ) (K:Value->b_):=fZ υ 333 [.pointer a,Β b,Β c] [.one .any] w K
def zL (a b:Int) (w:θ) (K:Bool->b_):=fZ υ 334 [Β a,Β b] [.one .bool] w K
def pJ (a:Int) (w:θ) (K:Bool->b_):=fZ υ 335 [Β a] [.one .bool] w K
def Cm (b:fU) (c:Int) (w:θ) (K:b_):=fZ υ 337 [Δ b,Β c] [] w K
def pO (a:fO) (b:Int) (w:θ) (K:(fO)->b_):=fZ υ 338 [.pointer a,Β b] [.one .ptr] w K
def jm (b:fU) (c:Value) (w:θ) (K:fU->b_):=fZ υ 339 [Δ b,c] [.one .slice] w K
abbrev GX:FuncId:=340
def xU (a b c:Int) (d:Addr) (w:θ) (K:Bool->b_):=fZ υ 340 [(.agg ⟨[Β a,Β b,Β c]⟩),(.pointer (some d))] [.one .bool] w K
def zu (a b:Int) (w:θ) (K:Int->b_):=fZ υ 341 [Β a,Β b] [.one ν] w K
abbrev yG:FuncId:=344
def I7 (a:Value) (b c:Addr) (w:θ) (K:b_):=fZ υ 344 [a,(.pointer (some b)),(.pointer (some c))] [] w K
def Bh (b:fU) (c d:Int) (w:θ) (K:fU->Int->Int->Int->Int->Int->Int->Int->Bool->Bool->fU->fU->Int->Int->b_):=fZ υ 346 [Δ b,Β c,Β d] [.agg ag7,.one ν] w K
def nU (a:fU) (b c d e f g h:Int) (i j:Bool) (k l:fU) (m n o p q:Int) (w:θ) (K:fU->b_):=fZ υ 347 [.agg ⟨mP a b c d e f g h i j k l m⟩,Β n,Β o,Β p,Β q] [.one .slice] w K
def kQ (a b:Int) (c:Bool) (w:θ) (K:Int->b_):=fZ υ 348 [(.agg ⟨[Β a,Β b]⟩),.bool c] [.one ν] w K
abbrev Jc:FuncId:=349
def I9 (a:Value) (b c d:Addr) (w:θ) (K:b_):=fZ υ 349 [a,(.pointer (some b)),(.pointer (some c)),(.pointer (some d))] [] w K
def yA (a b c:Int) (w:θ) (K:Bool->b_):=fZ υ 350 [(.agg ⟨[Β a,Β b]⟩),Β c] [.one .bool] w K
def qY (a:fO) (b c:Int) (w:θ) (K:fU->b_):=fZ υ 351 [.pointer a,Β b,Β c] [.one .slice] w K
def CG (a b:Int) (w:θ) (K:Int->b_):=fZ υ 353 [Β a,Β b] [.one ν] w K
def jq (b:fU) (c:Value) (w:θ) (K:Int->b_):=fZ υ 354 [Δ b,c] [.one ν] w K
def um (b:fU) (c d e:Int) (w:θ) (K:Int->fU->fU->b_):=fZ υ 355 [Δ b,Β c,Β d,Β e] [.agg [ν,.slice,.slice]] w K
def vS (b:fU) (d:Int) (c:fU) (w:θ) (K:fU->b_):=fZ υ 356 [Δ b,Β d,Δ c] [.one .slice] w K
def qN (a:fU) (b c d e f g h:Int) (i j:Bool) (k l:fU) (m:Int) (w:θ) (K:Int->b_):=fZ υ 357 [.agg ⟨mP a b c d e f g h i j k l m⟩] [.one ν] w K
def qK (a b c d:Int) (w:θ) (K:Value->b_):=fZ υ 358 [(.agg ⟨[Β a,Β b]⟩),Β c,Β d] [.one .any] w K
def gB (a b c d:Int) (w:θ) (K:Int->Int->b_):=fZ υ 359 [(.agg ⟨[Β a,Β b]⟩),(.agg ⟨[Β c,Β d]⟩)] [.agg [ν,ν]] w K
theorem LV {a b c d w K e}:gB a b c d w K->(∀f g w,K f g w->e f g w)->gB a b c d w e:=fZ.mono
def kK (a:Int) (w:θ) (K:Int->Int->b_):=fZ υ 360 [Β a] [.agg [ν,ν]] w K
theorem CJ {a w K b}:kK a w K->(∀c d w,K c d w->b c d w)->kK a w b:=fZ.mono
def iJ (a:Int) (w:θ) (K:Int->Int->b_):=fZ υ 361 [Β a] [.agg [ν,ν]] w K
theorem Ut {a w K b}:iJ a w K->(∀c d w,K c d w->b c d w)->iJ a w b:=fZ.mono
def qZ (a b c:Int) (w:θ) (K:Int->b_):=fZ υ 362 [(.agg ⟨[Β a,Β b]⟩),Β c] [.one ν] w K
def Ez (d:Int) (b c:fU) (w:θ) (K:Int->b_):=fZ υ 364 [Β d,Δ b,Δ c] [.one ν] w K
abbrev UE:FuncId:=365
def Ur (a:Value) (b c d:Addr) (w:θ) (K:b_):=fZ υ 365 [a,(.pointer (some b)),(.pointer (some c)),(.pointer (some d))] [] w K
theorem OJ {u i e w K}:gI (E_ u i e w K)
 ((cond (decide ((e.len:Int)>500)) (tH w λD E=>K D E) (yU w λF G H I J L M N O P Q R T U V W X Y Z aa ab ac ad ae af ag ah ai aj ak al am an ao ap aq ar=>Ε ar (jO 0 0 0 0 0 0 0 0 0 0 0 0 0 0 0 0 ⟨none,0,0⟩ ⟨none,0,0⟩ 0 0 0 0 0 0 0 0 0 0 0 0 0 0 0 0 0 ⟨none,0,0⟩) 31 λj au=>iw (jO F G H I J L M N O P Q R T U V W X Y Z aa ab ac ad ae af ag ah ai aj ak al am an ao ap aq) au j 0 λv=>uS v j λav aw ax ay az aA aB aC aD aE aF aG aH aI aJ aK aL aM aN aO aP aQ aR aS aT aU aV aW aX aY aZ a3 a4 a5 a6 a7=>D_ av aw ax ay az aA aB aC aD aE aF aG aH aI aJ aK aL aM aN aO aP aQ aR aS aT aU aV aW aX aY aZ a3 a4 a5 a6 a7 v λf a8 x=>let y:Bool->Prop:=λa9=>((cond a9 (K false x) (kX 167772161 134744072 (ο.wrap u) (ο.wrap i) 9 e x λba bb=>iW (S:=Int×Unit) (λg k bc=>(cond (decide (g.1<2)) (uS k j λbd be bf bg bh bi bj bk bl bm bn bo bp bq br bs bt bu bv bw bx bz bA bB bC bD bE bF bG bH bI bJ bK bL bM bN=>yN bd be bf bg bh bi bj bk bl bm bn bo bp bq br bs bt bu bv bw bx bz bA bB bC bD bE bF bG bH bI bJ bK bL bM bN g.1 ba k λbO bP=>oU f bO bP λz bQ l=>let A:Bool->Prop:=λbR=>((cond bR (K false l) (iM z 2 0 λbS=>Ld .slice l (bS.add 1) λbT=>uJ bT l λbU bV bW bX bY bZ b0 b1 b2 b3 b4 b5 b6=>Ε b6 ξ 43 λd b7=>iw (gu bU bV bW bX bY bZ b0 b1 b2 b3 b4) b7 d 0 λc=>let B:Bool->Prop:=λb8=>((cond b8 (K false c) (fM c.drew (d.add 5) λb9=>Ld .slice c.drew (d.add 10) λca=>iM ca 1 0 λcb=>Ld (.int .u8) c.drew cb λcc=>Ld .slice c.drew (d.add 10) λcd=>iM cd 1 1 λce=>Ld (.int .u8) c.drew ce λcf=>kX 134744072 b9 (ο.wrap i) (ο.wrap ((ο.wrap ((ο.wrap cc) * 256))+(ο.wrap cf))) 9 e c.drew λcg ch=>pU f cg ch λC ci m=>let n:Bool->Prop:=λcj=>((cond cj (K false m) (bc ((ο.wrap (g.1+1)),()) m)))
 (cond (ci !=0) (n true) (cond ((C.len:Int) !=1) (n true) (iM C 2 0 λck=>fM m ck λcl=>n (cl !=g.1)))))))
 (cond (b5 !=0) (B true) (Ld .slice c (d.add 10) λcm=>B (decide ((cm.len:Int)<8)))))))
 (cond (bQ !=0) (A true) (A ((z.len:Int) !=1)))) (wM f k λcn o p co cp cq q cr=>Ε cr abS 51 λh cs=>iw [Β cn,Δ o,Δ p,Β co,Β cp,Β cq,Δ q] cs h 0 λb=>let r:Bool->b_:=λct cu=>(K ct cu)
 Ld .slice b.drew (h.add 1) λcv=>(cond ((cv.len:Int)==2) (Ld .slice b.drew (h.add 1) λcw=>iM cw 8 0 λs=>fM b.drew ((s.add 4).add 0) λcx=>fM b.drew ((s.add 4).add 1) λcy=>fM b.drew ((s.add 4).add 2) λcz=>Ld .slice b.drew (h.add 1) λcA=>iM cA 8 1 λt=>fM b.drew ((t.add 4).add 0) λcB=>fM b.drew ((t.add 4).add 1) λcC=>fM b.drew ((t.add 4).add 2) λcD=>(cond (!((cx==cB) && ((cy==cC) && ((cz==cD) && true)))) (tH b.drew λcE cF=>r cE cF) (r false b.drew))) (r false b.drew))))) (0,()) bb)))
 (cond (Option.isNone f) (y true) (y (a8 !=0)))))):=χ Tryz.func3 (fQ (fQ (fQ (fQ (fQ (fQ (.seq (fQ (.blk (.loop [(42,ν)] .leaf))) .leaf)))))))
theorem Vb {w K}:gI (yU w K)
 (Ε w (jO 0 0 0 0 0 0 0 0 0 0 0 0 0 0 0 0 ⟨none,0,0⟩ ⟨none,0,0⟩ 0 0 0 0 0 0 0 0 0 0 0 0 0 0 0 0 0 ⟨none,0,0⟩) 31 λa c=>Ε c [Β 8193,Β 3512,Β 0,Β 0,Β 0,Β 0,Β 0,Β 1] 3 λd e=>Aa ⟨(some d),8,8⟩ e λf g h i j k l m n o p q r s t u v=>Ε v [Β 8193,Β 3512,Β 1,Β 0,Β 0,Β 0,Β 0,Β 1] 3 λx y=>Aa ⟨(some x),8,8⟩ y λz A B C D E F G H I J L M N O P Q=>Ε Q [Β 8193,Β 3512,Β 2,Β 0,Β 0,Β 0,Β 0,Β 1] 3 λR S=>Aa ⟨(some R),8,8⟩ S λT U V W X Y Z aa ab ac ad ae af ag ah ai aj=>Ε aj (air z A B C D E F G H I J L M N O P T U V W X Y Z aa ab ac ad ae af ag ah ai) 26 λak al=>Ε al [Β 3325256705] 3 λam an=>iw (jO f g h i j k l m n o p q r s t u ⟨(some ak),2,2⟩ ⟨(some am),1,1⟩ 1024 65535 16 64 128 8 1048576 1500 1500 64 0 2 300 7440 240 60 60 ⟨none,0,0⟩) an a 0 λb=>uS b a λao ap aq ar au av aw ax ay az aA aB aC aD aE aF aG aH aI aJ aK aL aM aN aO aP aQ aR aS aT aU aV aW aX aY aZ=>K ao ap aq ar au av aw ax ay az aA aB aC aD aE aF aG aH aI aJ aK aL aM aN aO aP aQ aR aS aT aU aV aW aX aY aZ b):=χ Tryz.func5
theorem Zi {f g h i j k l m n o p q r s t u v x y z A B C D E F G H I J L M N O P Q w K}:gI (D_ f g h i j k l m n o p q r s t u v x y z A B C D E F G H I J L M N O P Q w K)
 (Ε w (jO f g h i j k l m n o p q r s t u v x y z A B C D E F G H I J L M N O P Q) 31 λa R=>uS R a λx4 x5 x6 x7 x8 x9 aM aN aO aP aQ aR aS aT aU aV aW aX aY aZ a0 a1 a2 a4 a5 a6 a7 a8 a9 ba bb bc bd be bf bg=>Ko x4 x5 x6 x7 x8 x9 aM aN aO aP aQ aR aS aT aU aV aW aX aY aZ a0 a1 a2 a4 a5 a6 a7 a8 a9 ba bb bc bd be bf bg R λbh S d=>(cond (S !=0) (K none S d) (uS d.drew a λT U V W X Y Z aa ab ac ad ae af ag ah ai aj ak al am an ao ap aq ar au av aw ax ay az aA aB aC aD aE=>Ed d.drew λbi aF=>u_ (jO T U V W X Y Z aa ab ac ad ae af ag ah ai aj ak al am an ao ap aq ar au av aw ax ay az aA aB aC aD aE) aF a 0 (
 Ε aF (ais none none T U V W X Y Z aa ab ac ad ae af ag ah ai aj ak al am an ao ap aq ar au av aw ax ay az aA aB aC aD aE bh bi 0 1) 70 λe b=>fM b (a.add 23) λbj=>fM b (a.add 24) λbk=>fM b (a.add 34) λbl=>Ei bj bk bl b λbm _ bn=>Pt (some e) λbo=>St bn bo (.pointer bm) λc=>fM c (a.add 23) λbp=>fM c (a.add 24) λbq=>fM c (a.add 34) λbr=>Ei bp bq br c λbs _ bt=>Pt (some e) λbu=>St bt (bu.add 1) (.pointer bs) λbv=>K (some e) 0 bv)))):=χ Tryz.func6
theorem Nh {a b c d e f w K}:gI (kX a b c d e f w K)
 (Cb a b c d false f w λg _ h=>BZ 0 0 0 e 17 a b false false ⟨none,0,0⟩ g h λi _ j=>K i j):=χ Tryz.func7
theorem Jd {a i w K}:gI (oU a i w K)
 (mW a w λl j=>(cond (!l) (K ⟨none,0,0⟩ 1 j) (Kz i j λm n o p q r s t u v x y z A B C D E F G H I J L M N O P Q R S T U V W X Y Z aa=>Ε aa (jc 0 0 0 0 0 0 0 0 0 0 0 0 0 0 0 0 0 0 0 0 0 0 0 0 0 0 0 0 0 0 0 0 0 0 0 0 ⟨none,0,0⟩) 79 λc ab=>iw (jc m n o p q r s t u v x y z A B C D E F G H I J L M N O P Q R S T U V W X Y) ab c 0 λb=>(cond (Z !=0) (iP a 1 b λac ad ae=>K ac ad ae) (nM b.drew (c.add 20) λaf ag ah ai aj ak al am an ao ap aq ar au av aw=>Pt a λax=>nM b.drew (ax.add 2) λay az aA aB aC aD aE aF aG aH aI aJ aK aL aM aN=>(cond (!((af==ay) && ((ag==az) && ((ah==aA) && ((ai==aB) && ((aj==aC) && ((ak==aD) && ((al==aE) && ((am==aF) && ((an==aG) && ((ao==aH) && ((ap==aI) && ((aq==aJ) && ((ar==aK) && ((au==aL) && ((av==aM) && ((aw==aN) && true))))))))))))))))) (iP a 2 b.drew λaO aP aQ=>K aO aP aQ) (fM b.drew (c.add 2) λaR=>(cond (aR==58) (n_ b.drew c λaS aT aU aV aW aX aY aZ a2 a3 a4 a5 a6 a7 a8 a9 ba bb bc bd be bf bg bh bi bj bk bl bm bn bo bp bq br bs bt bu=>I4 a aS aT aU aV aW aX aY aZ a2 a3 a4 a5 a6 a7 a8 a9 ba bb bc bd be bf bg bh bi bj bk bl bm bn bo bp bq br bs bt bu b.drew λbv bw bx=>K bv bw bx) (Pt a λbz=>uS b.drew.drew (bz.add 2) λbA bB bC bD bE bF bG bH bI bJ bK bL bM bN bO bP bQ bR bS bT bU bV bW bX bY bZ b0 b1 b2 b3 b4 b5 b6 b7 b8 b9=>nM b.drew.drew (c.add 4) λca cb cc cd ce cf cg ch ci cj ck cl cm cn co cp=>vI bA bB bC bD bE bF bG bH bI bJ bK bL bM bN bO bP bQ bR bS bT bU bV bW bX bY bZ b0 b1 b2 b3 b4 b5 b6 b7 b8 b9 ca cb cc cd ce cf cg ch ci cj ck cl cm cn co cp b.drew.drew λk cq e=>(cond (!cq) (iP a 2 e λcr cs ct=>K cr cs ct) (n_ e c λcu cv cw cx cy cz cA cB cC cD cE cF cG cH cI cJ cK cL cM cN cO cP cQ cR cS cT cU cV cW cX cY cZ c0 c1 c2 c3 c4=>uy a cu cv cw cx cy cz cA cB cC cD cE cF cG cH cI cJ cK cL cM cN cO cP cQ cR cS cT cU cV cW cX cY cZ c0 c1 c2 c3 c4 e λc5 c6 c7 c8 f=>(cond (!c8) (iP a c7 f λc9 da db=>K c9 da db) (cond (c6 !=4) (iP a 4 f λdc dd de=>K dc dd de) (uJ c5 f λdf dg dh di dj dk dl dm dn dp dq dr ds=>Ε ds ξ 43 λd dt=>iw (gu df dg dh di dj dk dl dm dn dp dq) dt d 0 λg=>(cond (dr !=0) (iP a 1 g λdu dv dw=>K du dv dw) (ig g d λdx dy dz dA dB dC dD dE dF dG dH=>qx a k dx dy dz dA dB dC dD dE dF dG dH g λdI dJ dK dL dM dN dO dP dQ dR dS dT dU dV=>iw (gu dI dJ dK dL dM dN dO dP dQ dR dS) dV d 0 λh=>(cond (!dU) (iP a dT h λdW dX dY=>K dW dX dY) (ig h d λdZ d0 d1 d2 d3 d4 d5 d6 d7 d8 d9=>qH a k dZ d0 d1 d2 d3 d4 d5 d6 d7 d8 d9 h λea eb ec=>K ea eb ec)))))))))))))))))):=χ Tryz.func8
theorem UR {Q R S T U V W X Y Z aa ab ac ad ae af ag ah ai aj ak al am an ao ap aq ar au av aw ax ay az aA aB a1 O w K}:gI (yN Q R S T U V W X Y Z aa ab ac ad ae af ag ah ai aj ak al am an ao ap aq ar au av aw ax ay az aA aB a1 O w K)
 (Ε w (jO Q R S T U V W X Y Z aa ab ac ad ae af ag ah ai aj ak al am an ao ap aq ar au av aw ax ay az aA aB) 31 λc d=>let J6:Addr->b_:=λj7 w8=>(n_ w8 j7 λx9 aJ aK aL aM aN aO aP aQ aR aS aT aU aV aW aX aY aZ a0 a3 a4 a6 a7 a8 a9 ba bb bc bd be bf bg bh bi bj bk bl=>EF x9 aJ aK aL aM aN aO aP aQ aR aS aT aU aV aW aX aY aZ a0 a3 a4 a6 a7 a8 a9 ba bb bc bd be bf bg bh bi bj bk bl w8 λbm _ bn=>K bm bn)
 Ld .slice d.drew (c.add 16) λb=>iM b 16 a1 λP=>nM d.drew P λe f g h i j k l m n o p q r s t=>nM d.drew c λu v x y z A B C D E F G H I J L=>(mZ e f g h i j k l m n o p q r s t u v x y z A B C D E F G H I J L 64 O d.drew λbo bp bq br bs bt bu bv bw bx bz bA bB bC bD bE bF bG bH bI bJ bK bL bM bN bO bP bQ bR bS bT bU bV bW bX bY bZ _ b0=>Ε b0 (jc 0 0 0 0 0 0 0 0 0 0 0 0 0 0 0 0 0 0 0 0 0 0 0 0 0 0 0 0 0 0 0 0 0 0 0 0 ⟨none,0,0⟩) 79 λaF M=>u_ (iZ u v x y z A B C D E F G H I J L) M c 0 (
 u_ (iZ e f g h i j k l m n o p q r s t) M P 0 (
 M.cell? (c.add 16)=some (Δ b)/\
 iw (jc bo bp bq br bs bt bu bv bw bx bz bA bB bC bD bE bF bG bH bI bJ bK bL bM bN bO bP bQ bR bS bT bU bV bW bX bY bZ) M aF 0 λb1=>J6 aF b1)))/\
 (Ε d.drew (jc 0 0 0 0 0 0 0 0 0 0 0 0 0 0 0 0 0 0 0 0 0 0 0 0 0 0 0 0 0 0 0 0 0 0 0 0 ⟨none,0,0⟩) 79 λaG N=>u_ (iZ u v x y z A B C D E F G H I J L) N c 0 (
 u_ (iZ e f g h i j k l m n o p q r s t) N P 0 (
 N.cell? (c.add 16)=some (Δ b)/\
 mZ e f g h i j k l m n o p q r s t u v x y z A B C D E F G H I J L 64 O N λb2 b3 b4 b5 b6 b7 b8 b9 ca cb cc cd ce cf cg ch ci cj ck cl cm cn co cp cq cr cs ct cu cv cw cx cy cz cA cB cC _ cD=>iw (jc b2 b3 b4 b5 b6 b7 b8 b9 ca cb cc cd ce cf cg ch ci cj ck cl cm cn co cp cq cr cs ct cu cv cw cx cy cz cA cB cC) cD aG 0 λcE=>J6 aG cE)))):=χ Tryz.func9
theorem ZF {e w K}:gI (uJ e w K)
 (Ε w ξ 43 λb q=>Ir e false q λf r s k t=>Ε t acC 94 λc u=>iw [Δ f,Β r,Β s] u c 0 λg=>(cond (k !=0) (iw ξ g b 0 λl=>ig l b λv x y z A B C D E F G=>K v x y z A B C D E F G k l) (fM g (c.add 1) λH=>kT e 1 0 H λh=>Ε g [Δ h] 23 λI J=>uV ⟨(some I),1,1⟩ J λL d=>(cond (!L) (iw ξ d b 0 λm=>ig m b λM N O P Q R S T U V W=>K M N O P Q R S T U V W 5 m) (Ld .slice d (c.add 0) λX=>fM d (c.add 1) λY=>fM d (c.add 2) λZ=>pK X Y Z d λaa ab ac ad ae af ag ah ai aj ak al=>Ε al ξ 43 λi am=>iw (gu aa ab ac ad ae af ag ah ai aj ak) am i 0 λn=>ig n i λan ao ap aq ar au av aw ax ay az=>qO an ao ap aq ar au av aw ax ay az n λaA j=>(cond (aA !=0) (iw ξ j b 0 λo=>ig o b λaB aC aD aE aF aG aH aI aJ aK aL=>K aB aC aD aE aF aG aH aI aJ aK aL 4 o) (ig j i λaM aN aO aP aQ aR aS aT aU aV aW=>iw (gu aM aN aO aP aQ aR aS aT aU aV aW) j b 0 λp=>ig p b λaX aY aZ a1 a2 a4 a5 a6 a7 a8 a9=>K aX aY aZ a1 a2 a4 a5 a6 a7 a8 a9 0 p))))))):=χ Tryz.func10
theorem OB {a f w K}:gI (pU a f w K)
 (mW a w λh g=>(cond (!h) (K ⟨none,0,0⟩ 1 g) (uJ f g λi j k l m n o p q r s t u=>Ε u ξ 43 λb v=>iw (gu i j k l m n o p q r s) v b 0 λc=>(cond (t !=0) (iP a 1 c λx y z=>K x y z) (Pt a λA=>Ld .ptr c.drew (A.add 38) λB=>fM c.drew (b.add 6) λC=>qA B C c.drew λD d=>(cond (!D) (iP a 9 d λE F G=>K E F G) (ig d b λH I J L M N O P Q R S=>qx a 255 H I J L M N O P Q R S d λT U V W X Y Z aa ab ac ad ae af ag=>iw (gu T U V W X Y Z aa ab ac ad) ag b 0 λe=>(cond (!af) (iP a ae e λah ai aj=>K ah ai aj) (ig e b λak al am an ao ap aq ar au av aw=>nR a ak al am an ao ap aq ar au av aw false e λax ay az=>K ax ay az))))))))):=χ Tryz.func11
theorem MN {d w K}:gI (wM d w K)
 (Ε w abS 51 λb A=>mW d A λB h=>(cond (!B) (iw abS h b 0 λe=>fM e (b.add 0) λC=>Ld .slice e (b.add 1) λD=>Ld .slice e (b.add 2) λE=>fM e (b.add 3) λF=>fM e (b.add 4) λG=>fM e (b.add 5) λH=>Ld .slice e (b.add 6) λI=>K C D E F G H I e) (Pt d λJ=>Ld .ptr h (J.add 38) λL=>uD L h λM i j N O P k Q=>Ε Q abS 51 λc R=>iw [Β M,Δ i,Δ j,Β N,Β O,Β P,Δ k] R c 0 λl=>Pt d λS=>Ld .ptr l.drew S λT=>Pt d λs=>Ld .ptr l.drew (s.add 1) λt=>o9 T l.drew λU u=>u.cell? (s.add 1)=some (.pointer t)/\
 o9 t u λV W=>St W (c.add 3) (Β (ο.wrap (U+V))) λm=>Pt d λX=>Ld .ptr m.drew X λY=>Pt d λv=>Ld .ptr m.drew (v.add 1) λx=>qy Y m.drew λZ y=>y.cell? (v.add 1)=some (.pointer x)/\
 qy x y λaa ab=>St ab (c.add 4) (Β (ο.wrap (Z+aa))) λn=>fM n (c.add 5) λac=>fM n (c.add 4) λad=>St n (c.add 5) (Β (ο.wrap (ac+ad))) λz=>Pt d λae=>Ld .ptr z (ae.add 39) λaf=>qI af z λo ag=>St ag (c.add 6) (Δ o) λf=>fM f (c.add 0) λah=>Ld .slice f (c.add 1) λp=>Ld .slice f (c.add 2) λq=>fM f (c.add 3) λai=>fM f (c.add 4) λaj=>fM f (c.add 5) λak=>Ld .slice f (c.add 6) λr=>iw [Β ah,Δ p,Δ q,Β ai,Β aj,Β ak,Δ r] f b 0 λg=>fM g (b.add 0) λal=>Ld .slice g (b.add 1) λam=>Ld .slice g (b.add 2) λan=>fM g (b.add 3) λao=>fM g (b.add 4) λap=>fM g (b.add 5) λaq=>Ld .slice g (b.add 6) λar=>K al am an ao ap aq ar g))):=χ Tryz.func12
theorem Zz {c w K}:gI (Aa c w K)
 (Ε w (iZ 0 0 0 0 0 0 0 0 0 0 0 0 0 0 0 0) 26 λe i=>Ε i (iZ 0 0 0 0 0 0 0 0 0 0 0 0 0 0 0 0) 26 λd j=>iW (S:=Int×Unit) (λa b k=>let f:Bool->Prop:=λl=>((cond l (iM c 1 a.1 λm=>fM b m λg=>(65536:Int)≠0/\
 (65536:Int)≠0/\
 (256:Int)≠0/\
 (256:Int)≠0/\
 (0:Int)<=(ο.wrap (2 * a.1))/\(ο.wrap (2 * a.1))<(16:Int)/\
 St b (d.add (Int.toNat (ο.wrap (2 * a.1)) * 1)) (Value.int .u8 (IntKind.u8.wrap (ο.wrap (Int.tdiv (Int.tmod (ο.wrap ((Int.tmod g 65536)+65536)) 65536) 256)))) λn=>(0:Int)<=(ο.wrap ((ο.wrap (2 * a.1))+1))/\(ο.wrap ((ο.wrap (2 * a.1))+1))<(16:Int)/\
 St n (d.add (Int.toNat (ο.wrap ((ο.wrap (2 * a.1))+1)) * 1)) (Value.int .u8 (IntKind.u8.wrap (Int.tmod (Int.tmod (ο.wrap ((Int.tmod g 65536)+65536)) 65536) 256))) λo=>k ((ο.wrap (a.1+1)),()) o) (nM b d λp q r s t u v x y z A B C D E F=>iw (iZ p q r s t u v x y z A B C D E F) b e 0 λh=>nM h e λG H I J L M N O P Q R T U V W X=>K G H I J L M N O P Q R T U V W X h)))
 (cond (decide (a.1<(c.len:Int))) (f (decide (a.1<8))) (f false))) (0,()) j):=χ Tryz.func13 (fQ (fQ (.seq (fQ (.blk (.loop [(4,ν)] .leaf))) .leaf)))
theorem Zr {k l m n o p q r s t u v x y z A B C D E F G H I J L M N O P Q R T U V W w K}:gI (Ko k l m n o p q r s t u v x y z A B C D E F G H I J L M N O P Q R T U V W w K)
 (Ε w (jO k l m n o p q r s t u v x y z A B C D E F G H I J L M N O P Q R T U V W) 31 λa X=>uS X a λx4 x5 x6 x7 x8 x9 ak al am an ao ap aq ar au av aw ax ay az aA aB aC aD aE aF aG aH aI aJ aK aL aM aN aO aP=>zM x4 x5 x6 x7 x8 x9 ak al am an ao ap aq ar au av aw ax ay az aA aB aC aD aE aF aG aH aI aJ aK aL aM aN aO aP X λY h=>(cond (Y !=0) (K none Y h) (uS h a λaQ aR aS aT aU aV aW aX aY aZ a0 a1 a2 a4 a5 a6 a7 a8 a9 ba bb bc bd be bf bg bh bi bj bk bl bm bn bo bp bq=>Ε h (ahq none none none none none aQ aR aS aT aU aV aW aX aY aZ a0 a1 a2 a4 a5 a6 a7 a8 a9 ba bb bc bd be bf bg bh bi bj bk bl bm bn bo bp bq 0) 113 λe g=>Ld .slice g (a.add 17) λbr=>fM g (a.add 18) λbs=>fM g (a.add 19) λbt=>Kq br bs bt g λbu _ bv=>Pt (some e) λbw=>St bv bw (.pointer bu) λi=>Ld .slice i (a.add 16) λbx=>fM i (a.add 20) λbz=>F7 (bx.len:Int) bz i λbA _ bB=>Pt (some e) λbC=>St bB (bC.add 1) (.pointer bA) λZ=>fM Z (a.add 21) λbD=>JZ bD Z λbE _ bF=>Pt (some e) λbG=>St bF (bG.add 2) (.pointer bE) λaa=>fM aa (a.add 22) λbH=>Ce bH aa λbI _ bJ=>Pt (some e) λbK=>St bJ (bK.add 3) (.pointer bI) λab=>fM ab (a.add 22) λbL=>Gs bL ab λbM _ bN=>Pt (some e) λbO=>St bN (bO.add 4) (.pointer bM) λac=>Ld .slice ac (a.add 35) λad=>iW (S:=Int×Unit) (λj b bP=>(cond (decide (j.1<(ad.len:Int))) (iM ad 7 j.1 λf=>fM b (f.add 0) λbQ=>fM b (f.add 1) λbR=>fM b (f.add 2) λbS=>fM b (f.add 3) λbT=>fM b (f.add 4) λbU=>fM b (f.add 5) λbV=>fM b (f.add 6) λbW=>Ε b aej 125 λc bX=>iw [Β bQ,Β bR,Β bS,Β bT,Β bU,Β bV,Β bW] bX c 0 λd=>fM d (c.add 0) λbY=>fM d (c.add 1) λbZ=>fM d (c.add 2) λb0=>fM d (c.add 3) λb1=>fM d (c.add 4) λb2=>fM d (c.add 5) λb3=>fM d (c.add 6) λb4=>vM (some e) bY bZ b0 b1 b2 b3 b4 d λ _ b5=>bP ((ο.wrap (j.1+1)),()) b5) (K (some e) 0 b))) (0,()) ac))):=χ Tryz.func14 (fQ (fQ (fQ (fQ (fQ (fQ (fQ (fQ (.seq (fQ (.blk (.loop [(76,ν)] .leaf))) .leaf)))))))))
theorem UJ {w K}:gI (Ed w K)
 (Wp 3 1 8 [(Β 0)] 14 14 w λb c=>Ε c [Δ b] 128 λd e=>K (some d) e):=χ Tryz.func15
theorem Zq {a b c w K}:gI (Ei a b c w K)
 (let d:Bool->b_:=λk e=>((cond k (K none 1 e) (Al e (.map #[] 0) λ _ l=>Ε l [.map (some e.heap.size),Β a,Β b,Β c] 132 λm n=>K (some m) 0 n)))
 jy υ [.one .bool] (Value.func (.func 46) #[] #[]) [(Β a),(Β 0),(Β 1073741824)] w λo f=>∃g:Bool,o=(Value.bool g)/\
 (cond (!g) (d true f) (jy υ [.one .bool] (Value.func (.func 46) #[] #[]) [(Β b),(Β 0),(Β 1073741824)] f λp h=>∃i:Bool,p=(Value.bool i)/\
 (cond (!i) (d true h) (jy υ [.one .bool] (Value.func (.func 46) #[] #[]) [(Β c),(Β 1),(Β 1099511627776)] h λq r=>∃j:Bool,q=(Value.bool j)/\
 d (!j) r))))):=χ Tryz.func16
theorem Tq {j k l m n g w K}:gI (Cb j k l m n g w K)
 (Ε w [Β l,Β m,.bool n,Δ g] 76 λb d=>fM d (b.add 0) λr=>fM d (b.add 1) λs=>Ld .bool d (b.add 2) λt=>Ld .slice d (b.add 3) λu=>Cc r s t u d λo c=>(cond (o !=0) (K ⟨none,0,0⟩ o c) (fM c (b.add 0) λv=>fM c (b.add 1) λx=>Ld .bool c (b.add 2) λy=>Ld .slice c (b.add 3) λz=>xB v x y z 0 c λe h=>Ld .bool h (b.add 2) λA=>(cond A (K e 0 h) (Ac j k 17 (e.len:Int) h λi B=>Ε B [Δ i,Δ e] 23 λC D=>Eu ⟨(some C),2,2⟩ D λp f=>let q:Int->Prop:=λE=>(fM f (b.add 0) λF=>fM f (b.add 1) λG=>Ld .bool f (b.add 2) λH=>Ld .slice f (b.add 3) λI=>xB F G H I E f λJ L=>K J 0 L)
 (cond (p==0) (q 65535) (q p))))))):=χ Tryz.func17
theorem Tj {h i j k l m n o p q r w K}:gI (BZ h i j k l m n o p q r w K)
 (Ε w (gu h i j k l m n o p q r) 43 λb s=>ig s b λU V W X Y Z aa ab ac ad ae=>B_ U V W X Y Z aa ab ac ad ae s λt d=>(cond (t !=0) (K ⟨none,0,0⟩ t d) (ig d.drew b λu v x y z A B C D E F=>ig d.drew b λaf ag ah ai aj ak al am an ao ap=>vT af ag ah ai aj ak al am an ao ap d.drew λaq G=>u_ (gu u v x y z A B C D E F) G b 0 (
 yT u v x y z A B C D E F aq 0 G λf ar=>Ε ar [Δ f] 23 λau av=>Eu ⟨(some au),1,1⟩ av λaw e=>ig e.drew b λH I J L M N O P Q R S=>ig e.drew b λax ay az aA aB aC aD aE aF aG aH=>Ld .slice e.drew (b.add 10) λc=>vT ax ay az aA aB aC aD aE aF aG aH e.drew λaI g=>g.cell? (b.add 10)=some (Δ c)/\
 u_ (gu H I J L M N O P Q R S) g b 0 (
 yT H I J L M N O P Q R S aI aw g λaJ T=>T.cell? (b.add 10)=some (Δ c)/\
 lK 5 1 1 [(Value.int .u8 0)] aJ c T λaK aL=>K aK 0 aL))))):=χ Tryz.func18
theorem KP {a w K}:gI (mW a w K)
 (let b:Bool->Prop:=λc=>(K c w)
 (cond (!(Option.isNone a)) (Pt a λd=>Ld .ptr w (d.add 38) λe=>b (!(Option.isNone e))) (b false))):=χ Tryz.func19
theorem ZK {a w K}:gI (Kz a w K)
 (Ε w (jc 0 0 0 0 0 0 0 0 0 0 0 0 0 0 0 0 0 0 0 0 0 0 0 0 0 0 0 0 0 0 0 0 0 0 0 0 ⟨none,0,0⟩) 79 λb d=>N9 a false d λe f g h i j k l m n o p q r s t u v x y z A B C D E F G H I J L M N O P Q R S=>iw (jc e f g h i j k l m n o p q r s t u v x y z A B C D E F G H I J L M N O P Q) S b 0 λc=>n_ c b λT U V W X Y Z aa ab ac ad ae af ag ah ai aj ak al am an ao ap aq ar au av aw ax ay az aA aB aC aD aE aF=>K T U V W X Y Z aa ab ac ad ae af ag ah ai aj ak al am an ao ap aq ar au av aw ax ay az aA aB aC aD aE aF R c):=χ Tryz.func20
theorem MP {b a w K}:gI (iP b a w K)
 (Pt b λc=>Ld .ptr w (c.add 39) λd=>sH d a w λ _ e=>K ⟨none,0,0⟩ a e):=χ Tryz.func21
theorem KR {c d e f g h i j k l m n o p q r s t u v x y z A B C D E F G H I J L M N O P Q R S T U V W X Y Z aa ab ac ad w K}:gI (vI c d e f g h i j k l m n o p q r s t u v x y z A B C D E F G H I J L M N O P Q R S T U V W X Y Z aa ab ac ad w K)
 (Ε w (jO c d e f g h i j k l m n o p q r s t u v x y z A B C D E F G H I J L M N) 31 λa4 w3=>Ε w3 (iZ O P Q R S T U V W X Y Z aa ab ac ad) 26 λa6 a=>Ld .slice a (a4.add 16) λx7=>nM a a6 λx8 x9 ak al am an ao ap aq ar au av aw ax ay az=>oG x7 x8 x9 ak al am an ao ap aq ar au av aw ax ay az a λb aA=>K (if (0:Int)>b then 0 else b) (decide (b>=0)) aA):=χ Tryz.func23
theorem Jf {a0 B0 B1 B2 B3 B4 B5 B6 B7 B8 B9 au av aw ax ay az aA aB aC aD aE aF aG aH aI aJ aK aL aM aN aO aP aQ aR aS aT aU w K}:gI (uy a0 B0 B1 B2 B3 B4 B5 B6 B7 B8 B9 au av aw ax ay az aA aB aC aD aE aF aG aH aI aJ aK aL aM aN aO aP aQ aR aS aT aU w K)
 (Ε w (jc B0 B1 B2 B3 B4 B5 B6 B7 B8 B9 au av aw ax ay az aA aB aC aD aE aF aG aH aI aJ aK aL aM aN aO aP aQ aR aS aT aU) 79 λi w3=>fM w3 (i.add 2) λx5=>(cond (x5 !=44) (Ld .slice w3.drew (i.add 36) λx6=>fM w3.drew (i.add 2) λx7=>K x6 x7 0 true w3.drew) (n_ w3 i λx8 x9 a6 a7 a8 a9 ba bb bc bd be bf bg bh bi bj bk bl bm bn bo bp bq br bs bt bu bv bw bx bz bA bB bC bD bE bF=>YO x8 x9 a6 a7 a8 a9 ba bb bc bd be bf bg bh bi bj bk bl bm bn bo bp bq br bs bt bu bv bw bx bz bA bB bC bD bE bF w3 λbG bH bI bJ af bK bL=>Ε bL afj 152 λa bM=>iw [Β bG,Β bH,Β bI,.bool bJ] bM a 0 λj=>(cond (!bK) (K ⟨none,0,0⟩ 0 1 false j) (let ag:ByteArray->fU->Bool->Int->b_:=λaV bN bO aW aX=>(let ah:Bool->Prop:=λbP=>((cond bP (JG aW aX λbQ bR=>K ⟨none,0,0⟩ 0 bQ false bR) (adA aV 0 λbS=>K bN (ο.wrap bS) 0 true aX.drew)))
 (cond (aW !=0) (ah true) (cond (!bO) (ah true) (ah ((aV.size:Int)==0)))))
 Pt a0 λk=>Ld .ptr j.drew k λe=>n_ j.drew i λm n o p q r s t u v x y z A B C D E F G H I J L M N O P Q R S T U V W X Y=>fM j.drew (a.add 2) λZ=>fM j.drew (a.add 1) λf=>Ld .bool j.drew (a.add 3) λg=>fM j.drew a λad=>Pt a0 λl=>fM j.drew (l.add 40) λh=>(BM m n o p q r s t u v x y z A B C D E F G H I J L M N O P Q R S T U V W X Y Z j.drew λbT ab=>Ci ab l 40 h<|Cw ab a (Β ad)<|Cs ab a 3 (.bool g)<|Ci ab a 1 f<|Cw ab k (.pointer e)<|Ε ab [.int .u8 (IntKind.u8.wrap ad)] 5 λbU c=>Ci c l 40 h<|Cs c a 3 (.bool g)<|Ci c a 1 f<|Ci c a 2 Z<|u_ (jc m n o p q r s t u v x y z A B C D E F G H I J L M N O P Q R S T U V W X Y) c i 0 (
 Cw c k (.pointer e)<|vC c ⟨(some bU),1,1⟩ λbV=>Ci c l 40 h<|Cs c a 3 (.bool g)<|Ci c a 1 f<|Ci c a 2 Z<|u_ (jc m n o p q r s t u v x y z A B C D E F G H I J L M N O P Q R S T U V W X Y) c i 0 (
 Cw c k (.pointer e)<|qW e bT f g af bV h c λbW bX bY bZ b0=>ag bW bX bY bZ b0)))/\
 (Ε j.drew [.int .u8 (IntKind.u8.wrap ad)] 5 λaY b=>Ci b l 40 h<|Cs b a 3 (.bool g)<|Ci b a 1 f<|Ci b a 2 Z<|u_ (jc m n o p q r s t u v x y z A B C D E F G H I J L M N O P Q R S T U V W X Y) b i 0 (
 Cw b k (.pointer e)<|(BM m n o p q r s t u v x y z A B C D E F G H I J L M N O P Q R S T U V W X Y Z b λb1 d=>Ci d l 40 h<|Cw d a (Β ad)<|Cs d a 3 (.bool g)<|Ci d a 1 f<|Cw d k (.pointer e)<|vC d ⟨(some aY),1,1⟩ λb2=>Ci d l 40 h<|Cs d a 3 (.bool g)<|Ci d a 1 f<|Ci d a 2 Z<|u_ (jc m n o p q r s t u v x y z A B C D E F G H I J L M N O P Q R S T U V W X Y) d i 0 (
 Cw d k (.pointer e)<|qW e b1 f g af b2 h d λb3 b4 b5 b6 b7=>ag b3 b4 b5 b6 b7))/\
 (vC b ⟨(some aY),1,1⟩ λb8=>Ci b l 40 h<|Cs b a 3 (.bool g)<|Ci b a 1 f<|Ci b a 2 Z<|u_ (jc m n o p q r s t u v x y z A B C D E F G H I J L M N O P Q R S T U V W X Y) b i 0 (
 Cw b k (.pointer e)<|BM m n o p q r s t u v x y z A B C D E F G H I J L M N O P Q R S T U V W X Y Z b λb9 ac=>Ci ac l 40 h<|Cw ac a (Β ad)<|Cs ac a 3 (.bool g)<|Ci ac a 1 f<|Cw ac k (.pointer e)<|qW e b9 f g af b8 h ac λca cb cc cd ce=>ag ca cb cc cd ce))))))))):=χ Tryz.func24
theorem KQ {q t u v x y z A B C D E F w K}:gI (qx q t u v x y z A B C D E F w K)
 (Ε w (gu u v x y z A B C D E F) 43 λb w4=>Ε w4 ξ 43 λe G=>ig G b λx8 x9 ae af ag ah ai aj ak al am=>Ag x8 x9 ae af ag ah ai aj ak al am G λan i=>(cond an (ig i b λao ap aq ar au av aw ax ay az aA=>iw (gu ao ap aq ar au av aw ax ay az aA) i e 0 λH=>ig H e λaB aC aD aE aF aG aH aI aJ aK aL=>K aB aC aD aE aF aG aH aI aJ aK aL 0 true H) (ig i b λaM aN aO aP aQ aR aS aT aU aV aW=>Ε i ξ 43 λh aX=>iw (gu aM aN aO aP aQ aR aS aT aU aV aW) aX h 0 λaY=>St aY (h.add 2) (Β 0) λaZ=>St aZ (h.add 8) (.bool false) λa2=>St a2 (h.add 10) (.slice none 0 0) λf=>Pt q λj=>Ld .ptr f.drew (j.add 1) λk=>ig f.drew b λa3 a4 a6 a8 a9 ba bb bc bd be bf=>fM f.drew (b.add 2) λl=>Ld .bool f.drew (b.add 8) λm=>Ld .slice f.drew (b.add 10) λd=>ig f.drew h λI J L M N O P Q R S T=>Pt q λn=>fM f.drew (n.add 40) λo=>QX t a3 a4 a6 a8 a9 ba bb bc bd be bf f.drew λbg g=>Ci g n 40 o<|u_ (gu I J L M N O P Q R S T) g h 0 (
 Cs g b 10 (Δ d)<|Cs g b 8 (.bool m)<|Ci g b 2 l<|Cs g j 1 (.pointer k)<|oV I J L M N O P Q R S T g λbh c=>Ci c n 40 o<|Cs c b 10 (Δ d)<|Cs c b 8 (.bool m)<|Ci c b 2 l<|Cs c j 1 (.pointer k)<|vC c bh λbi=>Ci c n 40 o<|Cs c b 10 (Δ d)<|Cs c b 8 (.bool m)<|Ci c b 2 l<|Cs c j 1 (.pointer k)<|qW k bg l m d bi o c λbj r bk U V=>let W:Bool->Prop:=λbl=>((cond bl (JG U V λbm bn=>iw ξ bn e 0 λX=>ig X e λbo bp bq br bs bt bu bv bw bx bz=>K bo bp bq br bs bt bu bv bw bx bz bm false X) (YA 5 bj V λbA bB=>uJ bA bB λbC bD bE bF bG bH bI bJ bK bL bM _ bN=>Ε bN ξ 43 λp bO=>iw (gu bC bD bE bF bG bH bI bJ bK bL bM) bO p 0 λbP=>St bP (p.add 10) (Δ r) λY=>ig Y p λbQ bR bS bT bU bV bW bX bY bZ b0=>qO bQ bR bS bT bU bV bW bX bY bZ b0 Y λb1 s=>(cond (b1 !=0) (iw ξ s e 0 λZ=>ig Z e λb2 b3 b4 b5 b6 b7 b8 b9 ca cb cc=>K b2 b3 b4 b5 b6 b7 b8 b9 ca cb cc 1 false Z) (ig s p λcd ce cf cg ch ci cj ck cl cm cn=>iw (gu cd ce cf cg ch ci cj ck cl cm cn) s e 0 λaa=>ig aa e λco cp cq cr cs ct cu cv cw cx cy=>K co cp cq cr cs ct cu cv cw cx cy 0 true aa)))))
 (cond (U !=0) (W true) (W (!bk))))))):=χ Tryz.func25
theorem FD {b e H I J L M N O P Q R T w K}:gI (qH b e H I J L M N O P Q R T w K)
 (Ε w (gu H I J L M N O P Q R T) 43 λf v=>let y:Addr->Int->b_:=λz c g=>((cond (c==0) (Pt b λam=>Ld .ptr g.drew (am.add 38) λan=>fM g.drew (z.add 6) λao=>qA an ao g.drew λap i=>(cond ap (ig i z λaq ar au av aw ax ay az aA aB aC=>nR b aq ar au av aw ax ay az aA aB aC true i λaD aE aF=>K aD aE aF) (ig i.drew z λaG aH aI aJ aK aL aM aN aO aP aQ=>Pt b λaR=>fM i.drew ((aR.add 2).add 26) λaS=>J5 aG aH aI aJ aK aL aM aN aO aP aQ aS i.drew λU aT x=>(cond (aT !=0) (Pt b λaU=>fM x.drew ((aU.add 2).add 26) λaV=>ig x.drew f λaW aX aY aZ a2 a3 a4 a6 a7 a8 a9=>Dh b e 4 aV aW aX aY aZ a2 a3 a4 a6 a7 a8 a9 x.drew λba bb=>sD b 11 ba bb λbc bd be=>K bc bd be) (iW (S:=fU×Int×Unit) (λj A bf=>(cond (decide (j.2.1<(U.len:Int))) (iM U 11 j.2.1 λbg=>ig A bg λbh bi bj bk bl bm bn bo bp bq br=>Ε A ξ 43 λV bs=>iw (gu bh bi bj bk bl bm bn bo bp bq br) bs V 0 λW=>ig W V λbt bu bv bw bx bz bA bB bC bD bE=>oV bt bu bv bw bx bz bA bB bC bD bE W λB bF=>Ε bF [Β (-1),Δ B] 47 λbG bH=>lK 47 2 32 [(Β 0),(Value.slice none 0 0)] j.1 ⟨(some bG),1,1⟩ bH λbI bJ=>bf (bI,(ο.wrap (j.2.1+1)),()) bJ) (K j.1 0 A))) (⟨none,0,0⟩,0,()) x))))) (let C:Bool->Prop:=λbK=>((cond bK (ig g f λbL bM bN bO bP bQ bR bS bT bU bV=>Dh b e 1 0 bL bM bN bO bP bQ bR bS bT bU bV g λbW bX=>sD b c bW bX λbY bZ b0=>K bY bZ b0) (iP b c g λb1 b2 b3=>K b1 b2 b3)))
 (cond (c==5) (C (c==5)) (cond (c==6) (C (c==6)) (C (c==7)))))))
 Pt b λh=>Ld .ptr v.drew (h.add 38) λd=>ig v.drew f λk l m n o p q r s t u=>(lU b k l m n o p q r s t u v.drew λX Y Z aa ab ac ad ae af ag ah D=>Cs D h 38 (.pointer d)<|(kH d e X Y Z aa ab ac ad ae af ag ah D λb4 b5 b6 b7 b8 b9 ca cb cc cd ce cf cg=>Ε cg ξ 43 λai E=>u_ (gu k l m n o p q r s t u) E f 0 (
 Cs E h 38 (.pointer d)<|iw (gu b4 b5 b6 b7 b8 b9 ca cb cc cd ce) E ai 0 λch=>y ai cf ch))/\
 (Ε D ξ 43 λaj F=>u_ (gu k l m n o p q r s t u) F f 0 (
 Cs F h 38 (.pointer d)<|kH d e X Y Z aa ab ac ad ae af ag ah F λci cj ck cl cm cn co cp cq cr cs ct cu=>iw (gu ci cj ck cl cm cn co cp cq cr cs) cu aj 0 λcv=>y aj ct cv)))/\
 (Ε v.drew ξ 43 λak G=>u_ (gu k l m n o p q r s t u) G f 0 (
 Cs G h 38 (.pointer d)<|lU b k l m n o p q r s t u G λcw cx cy cz cA cB cC cD cE cF cG al=>Cs al h 38 (.pointer d)<|kH d e cw cx cy cz cA cB cC cD cE cF cG al λcH cI cJ cK cL cM cN cO cP cQ cR cS cT=>iw (gu cH cI cJ cK cL cM cN cO cP cQ cR) cT ak 0 λcU=>y ak cS cU))):=χ Tryz.func26 (fQ (fQ (fQ (fQ (fQ (fQ (fQ (.seq (fQ (.blk (.loop [(12,.slice),(87,ν)] .leaf))) .leaf))))))))
theorem X5 {g h i j k l m n o p q r s t u v x y z A B C D E F G H I J L M N O P w K}:gI (mZ g h i j k l m n o p q r s t u v x y z A B C D E F G H I J L M N O P w K)
 (Ε w (iZ g h i j k l m n o p q r s t u v) 26 λU V=>Ε V (iZ x y z A B C D E F G H I J L M N) 26 λW X=>Ε X (jc 0 0 0 0 0 0 0 0 0 0 0 0 0 0 0 0 0 0 0 0 0 0 0 0 0 0 0 0 0 0 0 0 0 0 0 0 ⟨none,0,0⟩) 79 λb d=>nM d U λY Z aa ab ac ad ae af ag ah ai aj ak al am an=>nM d W λao ap aq ar au av aw ax ay az aA aB aC aD aE aF=>Ε d (jc 0 0 0 0 0 0 0 0 0 0 0 0 0 0 0 0 0 0 0 0 0 0 0 0 0 0 0 0 0 0 0 0 0 0 0 0 ⟨none,0,0⟩) 79 λc aG=>iw (jc 0 0 4 O Y Z aa ab ac ad ae af ag ah ai aj ak al am an ao ap aq ar au av aw ax ay az aA aB aC aD aE aF ⟨none,0,0⟩) aG c 0 λaH=>gK P aH λe aI=>St aI (c.add 36) (Δ e) λQ=>n_ Q c λaJ aK aL aM aN aO aP aQ aR aS aT aU aV aW aX aY aZ a0 a1 a4 a5 a7 a9 ba bb bc bd be bf bg bh bi bj bk bl bm bn=>Ah aJ aK aL aM aN aO aP aQ aR aS aT aU aV aW aX aY aZ a0 a1 a4 a5 a7 a9 ba bb bc bd be bf bg bh bi bj bk bl bm bn Q λR f=>(cond (R !=0) (iw (jc 0 0 0 0 0 0 0 0 0 0 0 0 0 0 0 0 0 0 0 0 0 0 0 0 0 0 0 0 0 0 0 0 0 0 0 0 ⟨none,0,0⟩) f b 0 λS=>n_ S b λbo bp bq br bs bt bu bv bw bx bz bA bB bC bD bE bF bG bH bI bJ bK bL bM bN bO bP bQ bR bS bT bU bV bW bX bY bZ=>K bo bp bq br bs bt bu bv bw bx bz bA bB bC bD bE bF bG bH bI bJ bK bL bM bN bO bP bQ bR bS bT bU bV bW bX bY bZ R S) (n_ f c λb0 b1 b2 b3 b4 b5 b6 b7 b8 b9 ca cb cc cd ce cf cg ch ci cj ck cl cm cn co cp cq cr cs ct cu cv cw cx cy cz cA=>iw (jc b0 b1 b2 b3 b4 b5 b6 b7 b8 b9 ca cb cc cd ce cf cg ch ci cj ck cl cm cn co cp cq cr cs ct cu cv cw cx cy cz cA) f b 0 λT=>n_ T b λcB cC cD cE cF cG cH cI cJ cK cL cM cN cO cP cQ cR cS cT cU cV cW cX cY cZ c0 c1 c2 c3 c4 c5 c6 c7 c8 c9 da db=>K cB cC cD cE cF cG cH cI cJ cK cL cM cN cO cP cQ cR cS cT cU cV cW cX cY cZ c0 c1 c2 c3 c4 c5 c6 c7 c8 c9 da db 0 T))):=χ Tryz.func27
theorem ZI {i j k l m n o p q r s t u v x y z A B C D E F G H I J L M N O P Q R S T U w K}:gI (EF i j k l m n o p q r s t u v x y z A B C D E F G H I J L M N O P Q R S T U w K)
 (Ε w (jc i j k l m n o p q r s t u v x y z A B C D E F G H I J L M N O P Q R S T U) 79 λb V=>n_ V b λZ x5 x6 x7 x8 x9 af ag ah ai aj ak al am an ao ap aq ar au av aw ax ay az aA aB aC aD aE aF aG aH aI aJ aK aL=>Ah Z x5 x6 x7 x8 x9 af ag ah ai aj ak al am an ao ap aq ar au av aw ax ay az aA aB aC aD aE aF aG aH aI aJ aK aL V λW c=>(cond (W !=0) (K ⟨none,0,0⟩ W c) (fM c b λaM=>0<=(20:Int)/\
 fM c (b.add 1) λaN=>lG ⟨none,0,0⟩ (Ql .i64 (Ql .i64 1610612736 (FU .i64 aM 20)) aN) 4 c λaO X=>Ld .slice X (b.add 36) λaP=>lG aO (aP.len:Int) 2 X λaQ d=>fM d (b.add 2) λaR=>fM d (b.add 3) λaS=>Ε d [.int .u8 (IntKind.u8.wrap aR),.int .u8 (IntKind.u8.wrap aS)] 5 λaT aU=>lK 5 1 1 [(Value.int .u8 0)] aQ ⟨(some aT),2,2⟩ aU λe Y=>FX (b.add 4) 16 1 0 (16:Int) λf=>FX (b.add 20) 16 1 0 (16:Int) λg=>Ld .slice Y.drew (b.add 36) λh=>Ε Y.drew [Δ e,Δ f,Δ g,Δ h] 23 λaV aW=>jP ⟨(some aV),4,4⟩ aW λaX aY=>K aX 0 aY))):=χ Tryz.func28
theorem aaA {e p w K}:gI (Ir e p w K)
 (Ε w acC 94 λb m=>(cond (decide ((e.len:Int)<20)) (iw acC m b 0 λg=>Ld .slice g (b.add 0) λx=>fM g (b.add 1) λy=>fM g (b.add 2) λz=>K x y z 3 g) (iM e 1 0 λA=>Ld (.int .u8) m A λB=>Ε m acC 94 λc C=>iw [Δ e,Β (ο.wrap ((ο.wrap (kF .u8 B 15)) * 4)),Β 0] C c 0 λh=>Ld .slice h (c.add 0) λD=>fM h (c.add 1) λE=>fM h (c.add 2) λF=>gV D E F 2 2 h λG H=>St H (c.add 2) (Β G) λd=>let q:Bool->Prop:=λI=>((cond I (iw acC d b 0 λi=>Ld .slice i (b.add 0) λJ=>fM i (b.add 1) λL=>fM i (b.add 2) λM=>K J L M 4 i) (let n:Bool->Prop:=λN=>((cond N (iw acC d b 0 λj=>Ld .slice j (b.add 0) λO=>fM j (b.add 1) λP=>fM j (b.add 2) λQ=>K O P Q 3 j) (let r:Bool->b_:=λR f=>((cond R (iw acC f b 0 λk=>Ld .slice k (b.add 0) λS=>fM k (b.add 1) λT=>fM k (b.add 2) λU=>K S T U 4 k) (Ld .slice f (c.add 0) λo=>fM f (c.add 1) λV=>fM f (c.add 2) λW=>iw [Δ o,Β V,Β W] f b 0 λl=>Ld .slice l (b.add 0) λX=>fM l (b.add 1) λY=>fM l (b.add 2) λZ=>K X Y Z 0 l)))
 fM d (c.add 2) λs=>fM d (c.add 1) λt=>(cond (decide (s<t)) (r (decide (s<t)) d) (Ld .slice d (c.add 0) λaa=>fM d (c.add 1) λab=>fM d (c.add 2) λac=>gV aa ab ac 6 2 d λad ae=>r ((kF .i64 ad 32768) !=0) ae)))))
 fM d (c.add 1) λu=>(cond (decide (u>(e.len:Int))) (n (decide (u>(e.len:Int)))) (fM d (c.add 2) λaf=>(cond (decide (af>(e.len:Int))) (n (!p)) (n false)))))))
 iM e 1 0 λag=>Ld (.int .u8) d ag λv=>0<=(4:Int)/\
 (cond ((jH .u8 v 4) !=4) (q ((jH .u8 v 4) !=4)) (fM d (c.add 1) λah=>q (decide (ah<20))))))):=χ Tryz.func29
theorem XQ {a w K}:gI (uV a w K)
 (Iq a w λb c=>K (b==65535) c):=χ Tryz.func30
theorem JB {P A1 A2 w K}:gI (pK P A1 A2 w K)
 (Ε w [Δ P,Β A1,Β A2] 94 λb w2=>Ε w2 ξ 43 λa5 Q=>Ld .slice Q (b.add 0) λx6=>fM Q (b.add 1) λx7=>fM Q (b.add 2) λx8=>gV x6 x7 x8 6 2 Q λW l=>let v:Addr->b_:=λF aG=>(St aG (F.add 2) (Β (ο.wrap ((kF .i64 W 8191) * 8))) λaH=>St aH (F.add 7) (.bool ((kF .i64 W 16384) !=0)) λaI=>St aI (F.add 8) (.bool ((kF .i64 W 8192) !=0)) λX=>Ld .slice X b λaJ=>fM X (b.add 1) λaK=>kT aJ 1 20 aK λaL=>gK aL X λY aM=>St aM (F.add 9) (Δ Y) λJ=>Ld .slice J b λaN=>fM J (b.add 1) λaO=>fM J (b.add 2) λaj=>Ld .slice J b λak=>kT aN 1 aO (if (ak.len:Int)<aj then (ak.len:Int) else aj) λaP=>gK aP J λZ aQ=>St aQ (F.add 10) (Δ Z) λal=>ig al F λaR aS aT aU aV aW aX aY aZ a0 a1=>iw (gu aR aS aT aU aV aW aX aY aZ a0 a1) al a5 0 λam=>ig am a5 λa2 a4 a6 a7 a8 a9 ba bb bc bd be=>K a2 a4 a6 a7 a8 a9 ba bb bc bd be am)
 Ld .slice l.drew (b.add 0) λs=>fM l.drew (b.add 1) λt=>fM l.drew (b.add 2) λu=>Ld .slice l.drew (b.add 0) λp=>fM l.drew (b.add 1) λq=>fM l.drew (b.add 2) λr=>Ld .slice l.drew (b.add 0) λm=>fM l.drew (b.add 1) λn=>fM l.drew (b.add 2) λo=>Ld .slice l.drew (b.add 0) λi=>fM l.drew (b.add 1) λj=>fM l.drew (b.add 2) λk=>Ld .slice l.drew (b.add 0) λf=>fM l.drew (b.add 1) λg=>fM l.drew (b.add 2) λh=>Ld .slice l.drew (b.add 0) λc=>fM l.drew (b.add 1) λd=>fM l.drew (b.add 2) λe=>(gV s t u 1 1 l.drew λG x=>Ct x b c d e<|Ct x b f g h<|Ct x b i j k<|Ct x b m n o<|Ct x b p q r<|(gV p q r 4 2 x λL H=>Ct H b c d e<|Ct H b f g h<|Ct H b i j k<|Ct H b m n o<|(gV m n o 8 1 H λR M=>Ct M b c d e<|Ct M b f g h<|Ct M b i j k<|(gV i j k 9 1 M λaa S=>Ct S b c d e<|Ct S b f g h<|(gV f g h 12 4 S λan ab=>Ct ab b c d e<|(gV c d e 16 4 ab λbf bg=>Ε bg ξ 43 λao y=>Ct y b c d e<|Ct y b f g h<|Ct y b i j k<|Ct y b m n o<|Ct y b p q r<|Ct y b s t u<|iw (gu G L 0 R aa an bf false false ⟨none,0,0⟩ ⟨none,0,0⟩) y ao 0 λbh=>v ao bh)/\
 (Ε ab ξ 43 λap z=>Ct z b c d e<|Ct z b f g h<|Ct z b i j k<|Ct z b m n o<|Ct z b p q r<|Ct z b s t u<|gV c d e 16 4 z λbi bj=>iw (gu G L 0 R aa an bi false false ⟨none,0,0⟩ ⟨none,0,0⟩) bj ap 0 λbk=>v ap bk))/\
 (Ε S ξ 43 λaq A=>Ct A b c d e<|Ct A b f g h<|Ct A b i j k<|Ct A b m n o<|Ct A b p q r<|Ct A b s t u<|gV f g h 12 4 A λbl ar=>Ct ar b c d e<|gV c d e 16 4 ar λbm bn=>iw (gu G L 0 R aa bl bm false false ⟨none,0,0⟩ ⟨none,0,0⟩) bn aq 0 λbo=>v aq bo))/\
 (Ε M ξ 43 λau B=>Ct B b c d e<|Ct B b f g h<|Ct B b i j k<|Ct B b m n o<|Ct B b p q r<|Ct B b s t u<|gV i j k 9 1 B λbp ac=>Ct ac b c d e<|Ct ac b f g h<|gV f g h 12 4 ac λbq av=>Ct av b c d e<|gV c d e 16 4 av λbr bs=>iw (gu G L 0 R bp bq br false false ⟨none,0,0⟩ ⟨none,0,0⟩) bs au 0 λbt=>v au bt))/\
 (Ε H ξ 43 λaw C=>Ct C b c d e<|Ct C b f g h<|Ct C b i j k<|Ct C b m n o<|Ct C b p q r<|Ct C b s t u<|gV m n o 8 1 C λbu T=>Ct T b c d e<|Ct T b f g h<|Ct T b i j k<|gV i j k 9 1 T λbv ad=>Ct ad b c d e<|Ct ad b f g h<|gV f g h 12 4 ad λbw ax=>Ct ax b c d e<|gV c d e 16 4 ax λbx bz=>iw (gu G L 0 bu bv bw bx false false ⟨none,0,0⟩ ⟨none,0,0⟩) bz aw 0 λbA=>v aw bA))/\
 (Ε x ξ 43 λay D=>Ct D b c d e<|Ct D b f g h<|Ct D b i j k<|Ct D b m n o<|Ct D b p q r<|Ct D b s t u<|gV p q r 4 2 D λbB N=>Ct N b c d e<|Ct N b f g h<|Ct N b i j k<|Ct N b m n o<|gV m n o 8 1 N λbC U=>Ct U b c d e<|Ct U b f g h<|Ct U b i j k<|gV i j k 9 1 U λbD ae=>Ct ae b c d e<|Ct ae b f g h<|gV f g h 12 4 ae λbE az=>Ct az b c d e<|gV c d e 16 4 az λbF bG=>iw (gu G bB 0 bC bD bE bF false false ⟨none,0,0⟩ ⟨none,0,0⟩) bG ay 0 λbH=>v ay bH))/\
 (Ε l.drew ξ 43 λaA E=>Ct E b c d e<|Ct E b f g h<|Ct E b i j k<|Ct E b m n o<|Ct E b p q r<|Ct E b s t u<|gV s t u 1 1 E λbI I=>Ct I b c d e<|Ct I b f g h<|Ct I b i j k<|Ct I b m n o<|Ct I b p q r<|gV p q r 4 2 I λbJ O=>Ct O b c d e<|Ct O b f g h<|Ct O b i j k<|Ct O b m n o<|gV m n o 8 1 O λbK V=>Ct V b c d e<|Ct V b f g h<|Ct V b i j k<|gV i j k 9 1 V λbL af=>Ct af b c d e<|Ct af b f g h<|gV f g h 12 4 af λbM aB=>Ct aB b c d e<|gV c d e 16 4 aB λbN bO=>iw (gu bI bJ 0 bK bL bM bN false false ⟨none,0,0⟩ ⟨none,0,0⟩) bO aA 0 λbP=>v aA bP)):=χ Tryz.func31
theorem ZE {l m n o p q r s t u v w K}:gI (qO l m n o p q r s t u v w K)
 (Ε w (gu l m n o p q r s t u v) 43 λa c=>fM c.drew a λH=>fM c.drew (a.add 3) λx=>fM c.drew (a.add 4) λg=>fM c.drew (a.add 1) λd=>jI H 1 c.drew λI e=>Ci e a 1 d<|Ci e a 4 g<|Ci e a 3 x<|jI x 1 e λJ h=>Ci h a 1 d<|Ci h a 4 g<|jI g 1 h λL y=>Ci y a 1 d<|jI d 2 y λM N=>Ε N [.bool I,.bool J,.bool L,.bool M] 4 λO P=>xR ⟨(some O),4,4⟩ P λQ i=>fM i.drew (a.add 5) λR=>fM i.drew (a.add 6) λz=>lF R i.drew λS A=>Ci A a 6 z<|lF z A λT U=>Ε U [.bool S,.bool T] 4 λV W=>xR ⟨(some V),2,2⟩ W λX b=>let B:Bool->b_:=λY j=>(Ld .slice j (a.add 9) λZ=>Ld .slice j (a.add 9) λaa=>(4:Int)≠0/\
 Ε j [.bool (decide ((Z.len:Int)<=40)),.bool ((Int.tmod (aa.len:Int) 4)==0)] 4 λab ac=>xR ⟨(some ab),2,2⟩ ac λad ae=>Ε ae [.bool Q,.bool X,.bool Y,.bool ad] 4 λaf ag=>xR ⟨(some af),4,4⟩ ag λah k=>(cond (!ah) (K 1 k) (let C:Bool->b_:=λai D=>((cond ai (K 6 D) (K 0 D)))
 ig k a λaj ak al am an ao ap aq ar au av=>Dp aj ak al am an ao ap aq ar au av k λaw f=>(cond (decide (aw>65535)) (C true f) (fM f (a.add 2) λax=>Ld .slice f (a.add 10) λay=>C (decide (ax>(ο.wrap (65535 - (ay.len:Int))))) f)))))
 fM b (a.add 2) λE=>fM b (a.add 2) λF=>fM b (a.add 2) λG=>(8:Int)≠0/\
 Ld .bool b (a.add 8) λaz=>(cond (!az) (Ε b [.bool (decide (E>=0)),.bool (decide (F<=65528)),.bool ((Int.tmod G 8)==0),.bool true] 4 λaA aB=>xR ⟨(some aA),4,4⟩ aB λaC aD=>B aC aD) (Ld .slice b (a.add 10) λaE=>(8:Int)≠0/\
 Ε b [.bool (decide (E>=0)),.bool (decide (F<=65528)),.bool ((Int.tmod G 8)==0),.bool ((Int.tmod (aE.len:Int) 8)==0)] 4 λaF aG=>xR ⟨(some aF),4,4⟩ aG λaH aI=>B aH aI))):=χ Tryz.func32
theorem KY {a c w K}:gI (qA a c w K)
 (let d:Bool->b_:=λe f=>(K e f)
 jR a w λg b=>(cond g (Pt a λh=>Ld .ptr b h λi=>pV i c b λj k=>d j k) (d false b))):=χ Tryz.func33
theorem G5 {a t u v x y z A B C D E F w K}:gI (nR a t u v x y z A B C D E F w K)
 (Ε w (gu t u v x y z A B C D E) 43 λG H=>ig H G λN O P Q R S T U V W X=>KA N O P Q R S T U V W X H λY Z aa ab ac ad ae af ag ah ai aj ak=>Ε ak ξ 43 λc al=>iw (gu Y Z aa ab ac ad ae af ag ah ai) al c 0 λb=>(cond (!aj) (ig b G λam an ao ap aq ar au av aw ax ay=>YN am an ao ap aq ar au av aw ax ay F b λaz aA=>sD a 3 az aA λaB aC aD=>K aB aC aD) (let I:Int->Addr->Int->b_:=λaE aF J p=>((cond (J !=0) (iP a J p λaG aH aI=>K aG aH aI) (ig p aF λaJ aK aL aM aN aO aP aQ aR aS aT=>lU a aJ aK aL aM aN aO aP aQ aR aS aT p λaU aV aW aX aY aZ a1 a3 a4 a6 a7 a8=>wO a aE aU aV aW aX aY aZ a1 a3 a4 a6 a7 a8 λa9 ba=>K a9 0 ba)))
 Pt a λq=>Ld .ptr b.drew (q.add 38) λd=>ig b.drew c λe f g h i j k l m n o=>(oD d e f g h i j k l m n o b.drew λbb bc bd be bf bg bh bi bj bk bl bm bn bo=>Ε bo ξ 43 λL r=>u_ (gu e f g h i j k l m n o) r c 0 (
 r.cell? (q.add 38)=some (.pointer d)/\
 iw (gu bc bd be bf bg bh bi bj bk bl bm) r L 0 λbp=>I bb L bn bp))/\
 (Ε b.drew ξ 43 λM s=>u_ (gu e f g h i j k l m n o) s c 0 (
 s.cell? (q.add 38)=some (.pointer d)/\
 oD d e f g h i j k l m n o s λbq br bs bt bu bv bw bx bz bA bB bC bD bE=>iw (gu br bs bt bu bv bw bx bz bA bB bC) bE M 0 λbF=>I bq M bD bF))))):=χ Tryz.func34
theorem Jo {p w K}:gI (uD p w K)
 (Ε w abS 51 λb U=>jR p U λV s=>(cond (!V) (iw abS s b 0 λl=>fM l (b.add 0) λW=>Ld .slice l (b.add 1) λX=>Ld .slice l (b.add 2) λY=>fM l (b.add 3) λZ=>fM l (b.add 4) λaa=>fM l (b.add 5) λab=>Ld .slice l (b.add 6) λac=>K W X Y Z aa ab ac l) (let J:Addr->b_:=λe L=>(Al L (.map #[] 0) λ _ ad=>Ε ad [.map none] 185 λA ae=>St ae A (.map (some L.heap.size)) λM=>Pt p λaf=>Ld .ptr M (af.add 2) λag=>BN ag M λah c=>yI υ none [.one ν,.agg [ν,ν,ν,ν,ν,ν,ν,.bool]] ah c (λt i N ai=>Ε N ac4 58 λj aj=>iw [Β i.2.1.1,Β i.2.1.2.1,Β i.2.1.2.2.1,Β i.2.1.2.2.2.1,Β i.2.1.2.2.2.2.1,Β i.2.1.2.2.2.2.2.1,Β i.2.1.2.2.2.2.2.2.1,.bool i.2.1.2.2.2.2.2.2.2.1] aj j 0 λy=>y.heap[t]? =N.heap[t]? /\
 Ld .map (gG y t) A λak=>Ld .slice (gG y t) (e.add 1) λal=>og υ 3 ak (Β i.1) (Β (al.len:Int)) (gG y t) λf=>Ld .slice f (e.add 1) λam=>fM f (j.add 0) λan=>fM f (j.add 1) λao=>fM f (j.add 2) λap=>fM f (j.add 3) λaq=>fM f (j.add 4) λar=>fM f (j.add 5) λau=>fM f (j.add 6) λav=>Ld .bool f (j.add 7) λaw=>Ε f [Β an,Β ao,Β ap,Β aq,Β ar,Β au,Β av,.bool aw] 58 λax ay=>lK 58 8 64 [(Β 0),(Β 0),(Β 0),(Β 0),(Β 0),(Β 0),(Β 0),(Value.bool false)] am ⟨(some ax),1,1⟩ ay λB az=>St az (e.add 1) (Δ B) λaA=>ai .normal aA)
 (λO=>Pt p λaB=>Ld .ptr O (aB.add 3) λaC=>sO aC O λaD d=>yI υ none [.one ν,.agg [ν,ν,ν,ν,ν]] aD d (λq u P aE=>Ε P ado 195 λm aF=>iw [Β u.2.1.1,Β u.2.1.2.1,Β u.2.1.2.2.1,Β u.2.1.2.2.2.1,Β u.2.1.2.2.2.2.1] aF m 0 λv=>v.heap[q]? =P.heap[q]? /\
 Ld .map (gG v q) A λaG=>fM (gG v q) m λaH=>qG υ 3 ν aG (Β aH) (Β 0) (gG v q) λaI=>St (gG v q) m (Β aI) λo=>Ld .slice o (e.add 2) λaJ=>fM o (m.add 0) λaK=>fM o (m.add 1) λaL=>fM o (m.add 2) λaM=>fM o (m.add 3) λaN=>fM o (m.add 4) λaO=>Ε o [Β aK,Β aL,Β aM,Β aN,Β aO] 195 λaP aQ=>lK 195 5 40 [(Β 0),(Β 0),(Β 0),(Β 0),(Β 0)] aJ ⟨(some aP),1,1⟩ aQ λC aR=>St aR (e.add 2) (Δ C) λaS=>aE .normal aS)
 (λn=>fM n (e.add 0) λaT=>Ld .slice n (e.add 1) λD=>Ld .slice n (e.add 2) λE=>fM n (e.add 3) λaU=>fM n (e.add 4) λaV=>fM n (e.add 5) λaW=>Ld .slice n (e.add 6) λF=>iw [Β aT,Δ D,Δ E,Β aU,Β aV,Β aW,Δ F] n b 0 λg=>Η g d/\
 Η (Ζ g d) c/\
 fM (Ζ (Ζ g d) c) (b.add 0) λaX=>Ld .slice (Ζ (Ζ g d) c) (b.add 1) λaY=>Ld .slice (Ζ (Ζ g d) c) (b.add 2) λaZ=>fM (Ζ (Ζ g d) c) (b.add 3) λa1=>fM (Ζ (Ζ g d) c) (b.add 4) λa2=>fM (Ζ (Ζ g d) c) (b.add 5) λa4=>Ld .slice (Ζ (Ζ g d) c) (b.add 6) λa5=>K aX aY aZ a1 a2 a4 a5 (Ζ (Ζ g d) c))
 (λh=>Η h d/\
 Η (Ζ h d) c/\
 fM (Ζ (Ζ h d) c) (b.add 0) λa6=>Ld .slice (Ζ (Ζ h d) c) (b.add 1) λa7=>Ld .slice (Ζ (Ζ h d) c) (b.add 2) λa8=>fM (Ζ (Ζ h d) c) (b.add 3) λa9=>fM (Ζ (Ζ h d) c) (b.add 4) λba=>fM (Ζ (Ζ h d) c) (b.add 5) λbb=>Ld .slice (Ζ (Ζ h d) c) (b.add 6) λbc=>K a6 a7 a8 a9 ba bb bc (Ζ (Ζ h d) c))
 [])
 (λk=>Η k c/\
 fM (Ζ k c) (b.add 0) λbd=>Ld .slice (Ζ k c) (b.add 1) λbe=>Ld .slice (Ζ k c) (b.add 2) λbf=>fM (Ζ k c) (b.add 3) λbg=>fM (Ζ k c) (b.add 4) λbh=>fM (Ζ k c) (b.add 5) λbi=>Ld .slice (Ζ k c) (b.add 6) λbj=>K bd be bf bg bh bi bj (Ζ k c))
 [])
 Pt p λx=>fM s.drew (x.add 41) λr=>Pt p λG=>Ld .ptr s.drew (G.add 4) λz=>(mY z s.drew λbk Q=>Ci Q x 41 r<|Ε Q abS 51 λR H=>Cs H G 4 (.pointer z)<|Ci H x 41 r<|iw [Β r,.slice none 0 0,.slice none 0 0,Β 0,Β 0,Β bk,.slice none 0 0] H R 0 λbl=>J R bl)/\
 (Ε s.drew abS 51 λS I=>Cs I G 4 (.pointer z)<|Ci I x 41 r<|mY z I λbm T=>Ci T x 41 r<|iw [Β r,.slice none 0 0,.slice none 0 0,Β 0,Β 0,Β bm,.slice none 0 0] T S 0 λbn=>J S bn)))):=χ Tryz.func35 (fQ (fQ (fQ (fQ (.seq (fQ (.blk (.rng [.one ν,.agg [ν,ν,ν,ν,ν,ν,ν,.bool]] .leaf .leaf))) (.seq (fQ (.blk (.rng [.one ν,.agg [ν,ν,ν,ν,ν]] .leaf .leaf))) .leaf))))))
theorem Jl {a w K}:gI (o9 a w K)
 (o_ a w λc b=>(cond (!c) (K 0 b) (Dj a b λd e=>K d e))):=χ Tryz.func36
theorem KX {b w K}:gI (qy b w K)
 (o_ b w λc a=>(cond (!c) (K 0 a) (Pt b λd=>Ld .map a d λe=>NP a e λf=>K f a))):=χ Tryz.func37
theorem FH {a w K}:gI (qI a w K)
 ((cond (Option.isNone a) (K ⟨none,0,0⟩ w) (Pt a λb=>Ld .slice w b λc=>kL c w λd e=>K d e))):=χ Tryz.func38
theorem Qb {i j k l m n o p q r s t u v x y z A B C D E F G H I J L M N O P Q R T U w K}:gI (zM i j k l m n o p q r s t u v x y z A B C D E F G H I J L M N O P Q R T U w K)
 (Ε w (jO i j k l m n o p q r s t u v x y z A B C D E F G H I J L M N O P Q R T U) 31 λb V=>uS V b λx4 x5 x6 x7 x8 x9 ag ah ai aj ak al am an ao ap aq ar au av aw ax ay az aA aB aC aD aE aF aG aH aI aJ aK aL=>yx x4 x5 x6 x7 x8 x9 ag ah ai aj ak al am an ao ap aq ar au av aw ax ay az aA aB aC aD aE aF aG aH aI aJ aK aL V λW aM=>iW (S:=Int×Unit) (λe a aN=>(cond (decide (e.1<(W.len:Int))) (iM W 3 e.1 λf=>fM a (f.add 0) λaO=>fM a (f.add 1) λaP=>fM a (f.add 2) λaQ=>Ε a abH 200 λc aR=>iw [Β aO,Β aP,Β aQ] aR c 0 λd=>fM d (c.add 0) λaS=>fM d (c.add 1) λaT=>fM d (c.add 2) λaU=>kG aS aT aU d λaV X=>(cond (!aV) (K 1 X) (aN ((ο.wrap (e.1+1)),()) X))) (let Y:Bool->b_:=λaW g=>((cond aW (K 1 g) (uS g b λaX aY aZ a0 a1 a2 a4 a5 a6 a7 a8 a9 ba bb bc bd be bf bg bh bi bj bk bl bm bn bo bp bq br bs bt bu bv bw bx=>wP aX aY aZ a0 a1 a2 a4 a5 a6 a7 a8 a9 ba bb bc bd be bf bg bh bi bj bk bl bm bn bo bp bq br bs bt bu bv bw bx g λbz Z=>(cond bz (K 9 Z) (K 0 Z)))))
 fM a (b.add 28) λbA=>zT bA a λbB h=>(cond (!bB) (Y true h) (uS h b λbC bD bE bF bG bH bI bJ bK bL bM bN bO bP bQ bR bS bT bU bV bW bX bY bZ b0 b1 b2 b3 b4 b5 b6 b7 b8 b9 ca cb=>zQ bC bD bE bF bG bH bI bJ bK bL bM bN bO bP bQ bR bS bT bU bV bW bX bY bZ b0 b1 b2 b3 b4 b5 b6 b7 b8 b9 ca cb h λcc cd=>Y (!cc) cd))))) (0,()) aM):=χ Tryz.func39 (fQ (.seq (fQ (.blk (.loop [(8,ν)] .leaf))) .leaf))
theorem Zu {b d e w K}:gI (Kq b d e w K)
 (let c:Bool->Prop:=λn=>((cond n (K none 1 w) (iW (S:=Int×Unit) (λf g o=>(cond (decide (f.1<(b.len:Int))) (iM b 1 f.1 λp=>fM g p λi=>let j:Bool->b_:=λq k=>((cond q (K none 1 k) (o ((ο.wrap (f.1+1)),()) k)))
 qJ i g λr l=>(cond (!r) (j true l) (kT b 1 0 f.1 λs=>iT s i l λt u=>j t u))) (kL b g λh m=>Al m (.map #[] 0) λ _ v=>Ε v [Β d,Β e,Δ h,.map (some m.heap.size)] 207 λx y=>K (some x) 0 y))) (0,()) w)))
 (cond (decide ((b.len:Int)<1)) (c true) (cond (decide ((b.len:Int)>16)) (c true) (cond (decide (d<1)) (c true) (cond (decide (e<d)) (c true) (c (decide (e>=65536)))))))):=χ Tryz.func40 (fQ (fQ (.seq (fQ (.blk (.loop [(33,ν)] .leaf))) .leaf)))
theorem XJ {b c w K}:gI (F7 b c w K)
 (let d:Bool->Prop:=λj=>((cond j (K none 1 w) (Wp 212 2 16 [(Β 0),(Β 0)] b b w λe k=>Ε k [Δ e] 210 λf i=>Pt (some f) λl=>Ld .slice i l λm=>iW (S:=Int×Unit) (λg h n=>(cond (decide (g.1<(m.len:Int))) (Pt (some f) λo=>Ld .slice h o λp=>iM p 2 g.1 λq=>St h (q.add 1) (Β c) λr=>n ((ο.wrap (g.1+1)),()) r) (K (some f) 0 h))) (0,()) i)))
 (cond (decide (b<1)) (d true) (cond (decide (b>64)) (d true) (cond (decide (c<0)) (d true) (d (decide (c>4096))))))):=χ Tryz.func41 (fQ (fQ (fQ (.seq (fQ (.blk (.loop [(31,ν)] .leaf))) .leaf))))
theorem Zk {b w K}:gI (JZ b w K)
 (let d:Bool->Prop:=λg=>((cond g (K none 1 w) (zZ b w λh i j=>zZ b j λk l e=>let f:Bool->Prop:=λm=>((cond m (K none 1 e) (Wp 301 9 72 (afx 0 0 0 0 0 0 0 false false) b b e λc n=>Ε n [Δ c,.pointer h,.pointer k,Β 0] 218 λo p=>K (some o) 0 p)))
 (cond (i !=0) (f true) (f (l !=0))))))
 (cond (decide (b<0)) (d true) (d (decide (b>4096))))):=χ Tryz.func42
theorem Tz {b w K}:gI (Ce b w K)
 (let d:Bool->Prop:=λh=>((cond h (K none 1 w) (zZ b w λi e f=>(cond (e !=0) (K none e f) (Wp 304 6 48 [(Β 0),(Β 0),(Β 0),(Β 0),(Β 0),(Value.bool false)] b b f λc g=>Al g (.map #[] 0) λ _ j=>Ε j [Δ c,.pointer i,.map (some g.heap.size),Β 0] 222 λk l=>K (some k) 0 l)))))
 (cond (decide (b<0)) (d true) (d (decide (b>4096))))):=χ Tryz.func43
theorem X4 {a w K}:gI (Gs a w K)
 (let b:Bool->Prop:=λc=>((cond c (K none 1 w) (Al w (.map #[] 0) λ _ d=>Ε d (List.replicate 448 (Value.slice none 0 0)++([(Value.map (some w.heap.size)),(Β 0),(Β 0),(Β a)])) 229 λe f=>K (some e) 0 f)))
 (cond (decide (a<0)) (b true) (b (decide (a>1048576))))):=χ Tryz.func44
theorem KZ {b k l m n o p q w K}:gI (vM b k l m n o p q w K)
 (Ε w [Β k,Β l,Β m,Β n,Β o,Β p,Β q] 125 λa v=>jR b v λx c=>(cond (!x) (K 2 c) (fM c (a.add 0) λy=>fM c (a.add 1) λz=>fM c (a.add 2) λA=>fM c (a.add 3) λB=>fM c (a.add 4) λC=>fM c (a.add 5) λD=>fM c (a.add 6) λE=>vN b y z A B C D E c λF e=>(cond (!F) (K 1 e) (Pt b λG=>Ld .ptr e.drew (G.add 2) λH=>fM e.drew (a.add 0) λI=>fM e.drew (a.add 1) λJ=>fM e.drew (a.add 2) λL=>fM e.drew (a.add 3) λM=>ou H I J L M e.drew λ _ r f=>Pt b λN=>Ld .ptr f.drew (N.add 2) λO=>fM f.drew ((a.add 4).add 0) λP=>fM f.drew ((a.add 4).add 1) λQ=>fM f.drew ((a.add 4).add 2) λR=>oq O P Q R f.drew λ _ S g=>let s:Bool->Prop:=λT=>((cond T (K 9 g) (Pt b λU=>Ld .ptr g.drew (U.add 1) λV=>fM g.drew a λW=>Pt b λt=>fM g.drew ((t.add 5).add 20) λu=>nS V W g.drew λX j=>j.cell? ((t.add 5).add 20)=some (Β u)/\
 (cond (decide (X>=u)) (K 10 j) (pF b j λY i=>(cond Y (K 7 i) (Pt b λZ=>Ld .ptr i.drew (Z.add 1) λaa=>fM i.drew a λab=>pI aa ab i.drew λ _ h=>Pt b λac=>Ld .ptr h.drew ac λad=>fM h.drew ((a.add 4).add 0) λae=>fM h.drew ((a.add 4).add 1) λaf=>fM h.drew ((a.add 4).add 2) λag=>wR ad ae af ag h.drew λ _ d=>Pt b λah=>Ld .ptr d.drew (ah.add 2) λai=>fM d.drew (a.add 0) λaj=>fM d.drew (a.add 1) λak=>fM d.drew (a.add 2) λal=>fM d.drew (a.add 3) λam=>fM d.drew ((a.add 4).add 0) λan=>fM d.drew ((a.add 4).add 1) λao=>fM d.drew ((a.add 4).add 2) λap=>xu ai aj ak al am an ao ap true d.drew λ _ aq ar=>K aq ar)))))))
 (cond r (s r) (s S))))))):=χ Tryz.func45
theorem UQ {a b c w K}:gI (LM a b c w K)
 (let d:Bool->Prop:=λe=>(K e w)
 (cond (decide (a>=b)) (d (decide (a<=c))) (d false))):=χ Tryz.func46
theorem Tt {f g h b w K}:gI (Cc f g h b w K)
 (Ε w [Β f,Β g,.bool h,Δ b] 76 λd i=>let j:Bool->b_:=λk c=>((cond k (K 1 c) (Ld .slice c (d.add 3) λl=>(cond (decide ((l.len:Int)>65527)) (K 6 c) (K 0 c)))))
 fM i d λm=>lY m 2 i λn e=>(cond (!n) (j true e) (fM e (d.add 1) λo=>lY o 2 e λp q=>j (!p) q))):=χ Tryz.func47
theorem Tv {e f g c h w K}:gI (xB e f g c h w K)
 (Ε w [Β e,Β f,.bool g,Δ c] 76 λb d=>fM d.drew b λm=>fM d.drew (b.add 1) λi=>jh ⟨none,0,0⟩ m 2 d.drew λn j=>j.cell? (b.add 1)=some (Β i)/\
 jh n i 2 j λo k=>Ld .slice k (b.add 3) λp=>jh o (ο.wrap (8+(p.len:Int))) 2 k λq r=>jh q h 2 r λs l=>Ld .slice l (b.add 3) λt=>lK 5 1 1 [(Value.int .u8 0)] s t l λu v=>K u v):=χ Tryz.func48
theorem Zy {a w K}:gI (Eu a w K)
 (F9 a w λb c=>K (ο.wrap (65535 - b)) c):=χ Tryz.func49
theorem Qj {a b c d w K}:gI (Ac a b c d w K)
 (uU a 4294967296 w λe f=>jh ⟨none,0,0⟩ e 4 f λg h=>uU b 4294967296 h λi j=>jh g i 4 j λk l=>Ε l [.int .u8 0] 5 λm n=>lK 5 1 1 [(Value.int .u8 0)] k ⟨(some m),1,1⟩ n λo p=>uU c 256 p λq r=>jh o q 1 r λs t=>uU d 65536 t λu v=>jh s u 2 v λx y=>K x y):=χ Tryz.func50
theorem Tn {l m n o p q r s t u v w K}:gI (B_ l m n o p q r s t u v w K)
 (Ε w (gu l m n o p q r s t u v) 43 λa x=>let f:Bool->b_:=λC y=>(let d:Bool->b_:=λD b=>(let z:Bool->Prop:=λE=>(let e:Bool->Prop:=λF=>((cond F (K 1 b) (let A:Bool->b_:=λG B=>((cond G (K 6 B) (K 0 B)))
 ig b a λH I J L M N O P Q R S=>vT H I J L M N O P Q R S b λT g=>(cond (decide (T>65535)) (A true g) (fM g (a.add 2) λU=>Ld .slice g (a.add 10) λV=>A (decide (U>(ο.wrap (65535 - (V.len:Int))))) g)))))
 (cond (!C) (e true) (cond (!D) (e true) (cond (!E) (e true) (Ld .bool b (a.add 8) λW=>(cond W (Ld .slice b (a.add 10) λX=>(8:Int)≠0/\
 e ((Int.tmod (X.len:Int) 8) !=0)) (e false)))))))
 Ld .slice b (a.add 9) λY=>(cond (decide ((Y.len:Int)<=40)) (Ld .slice b (a.add 9) λZ=>(4:Int)≠0/\
 z ((Int.tmod (Z.len:Int) 4)==0)) (z false)))
 fM y (a.add 5) λaa=>xA aa y λab h=>(cond ab (fM h (a.add 6) λac=>xA ac h λad c=>(cond ad (fM c (a.add 2) λae=>(cond (decide (ae>=0)) (fM c (a.add 2) λaf=>(cond (decide (af<=65528)) (fM c (a.add 2) λag=>(8:Int)≠0/\
 d ((Int.tmod ag 8)==0) c) (d false c))) (d false c))) (d false c))) (d false h)))
 fM x a λah=>lY ah 1 x λai i=>(cond ai (fM i (a.add 3) λaj=>lY aj 1 i λak j=>(cond ak (fM j (a.add 4) λal=>lY al 1 j λam k=>(cond am (fM k (a.add 1) λan=>lY an 2 k λao ap=>f ao ap) (f false k))) (f false j))) (f false i))):=χ Tryz.func51
theorem Va {e f g h i j k l m n o p q w K}:gI (yT e f g h i j k l m n o p q w K)
 (Ε w (gu e f g h i j k l m n o) 43 λa b=>fM b (a.add 2) λr=>(8:Int)≠0/\
 let s:Int->Prop:=λt=>(let u:Int->Prop:=λE=>(ig b.drew a λF G H I J L M N O P Q=>fM b.drew a λv=>yR F G H I J L M N O P Q b.drew λR x=>x.cell? a=some (Β v)/\
 (4:Int)≠0/\
 Ε x [.int .u8 (IntKind.u8.wrap (ο.wrap (64+(ο.wrap (Int.tdiv R 4))))),.int .u8 (IntKind.u8.wrap v)] 5 λS y=>fM y.drew (a.add 1) λz=>jh ⟨(some S),2,2⟩ p 2 y.drew λT A=>A.cell? (a.add 1)=some (Β z)/\
 jh T z 2 A λU V=>jh U E 2 V λW c=>fM c (a.add 3) λX=>fM c (a.add 4) λY=>Ε c [.int .u8 (IntKind.u8.wrap X),.int .u8 (IntKind.u8.wrap Y)] 5 λZ aa=>lK 5 1 1 [(Value.int .u8 0)] W ⟨(some Z),2,2⟩ aa λab ac=>jh ab q 2 ac λad d=>fM d.drew (a.add 5) λae=>fM d.drew (a.add 6) λB=>jh ad ae 4 d.drew λaf C=>C.cell? (a.add 6)=some (Β B)/\
 jh af B 4 C λag D=>Ld .slice D (a.add 9) λah=>lK 5 1 1 [(Value.int .u8 0)] ag ah D λai aj=>K ai aj)
 Ld .bool b (a.add 8) λak=>(cond ak (u (ο.wrap (t+8192))) (u t)))
 Ld .bool b (a.add 7) λal=>(cond al (s (ο.wrap ((ο.wrap (Int.tdiv r 8))+16384))) (s (ο.wrap (Int.tdiv r 8))))):=χ Tryz.func52
theorem U_ {e f g h i j k l m n o w K}:gI (vT e f g h i j k l m n o w K)
 (Ε w (gu e f g h i j k l m n o) 43 λc d=>ig d.drew c λq r s t u v x y z A B=>Ld .slice d.drew (c.add 10) λb=>yR q r s t u v x y z A B d.drew λC p=>p.cell? (c.add 10)=some (Δ b)/\
 K (ο.wrap (C+(b.len:Int))) p):=χ Tryz.func53
theorem aaC {b j w K}:gI (N9 b j w K)
 (Ε w (jc 0 0 0 0 0 0 0 0 0 0 0 0 0 0 0 0 0 0 0 0 0 0 0 0 0 0 0 0 0 0 0 0 0 0 0 0 ⟨none,0,0⟩) 79 λc k=>(cond (decide ((b.len:Int)<40)) (iw (jc 0 0 0 0 0 0 0 0 0 0 0 0 0 0 0 0 0 0 0 0 0 0 0 0 0 0 0 0 0 0 0 0 0 0 0 0 ⟨none,0,0⟩) k c 0 λl=>n_ l c λv x y z A B C D E F G H I J L M N O P Q R S T U V W X Y Z aa ab ac ad ae af ag ah=>K v x y z A B C D E F G H I J L M N O P Q R S T U V W X Y Z aa ab ac ad ae af ag ah 3 l) (tC b 0 4 k λf _ ai=>tC b 4 2 ai λg _ d=>0<=(28:Int)/\
 (cond ((jH .i64 f 28) !=6) (iw (jc 0 0 0 0 0 0 0 0 0 0 0 0 0 0 0 0 0 0 0 0 0 0 0 0 0 0 0 0 0 0 0 0 0 0 0 0 ⟨none,0,0⟩) d c 0 λm=>n_ m c λaj ak al am an ao ap aq ar au av aw ax ay az aA aB aC aD aE aF aG aH aI aJ aK aL aM aN aO aP aQ aR aS aT aU aV=>K aj ak al am an ao ap aq ar au av aw ax ay az aA aB aC aD aE aF aG aH aI aJ aK aL aM aN aO aP aQ aR aS aT aU aV 4 m) (let n:Bool->Prop:=λaW=>((cond aW (iw (jc 0 0 0 0 0 0 0 0 0 0 0 0 0 0 0 0 0 0 0 0 0 0 0 0 0 0 0 0 0 0 0 0 0 0 0 0 ⟨none,0,0⟩) d c 0 λo=>n_ o c λaX aY aZ a2 a3 a5 a6 a7 a8 a9 ba bb bc bd be bf bg bh bi bj bk bl bm bn bo bp bq br bs bt bu bv bw bx bz bA bB=>K aX aY aZ a2 a3 a5 a6 a7 a8 a9 ba bb bc bd be bf bg bh bi bj bk bl bm bn bo bp bq br bs bt bu bv bw bx bz bA bB 3 o) (0<=(20:Int)/\
 iM b 1 6 λp=>Ld (.int .u8) d.drew p λq=>iM b 1 7 λr=>Ld (.int .u8) d.drew r λs=>Ε d.drew (jc 0 0 0 0 0 0 0 0 0 0 0 0 0 0 0 0 0 0 0 0 0 0 0 0 0 0 0 0 0 0 0 0 0 0 0 0 ⟨none,0,0⟩) 79 λe h=>h.cell? r=some (.int .u8 s)/\
 h.cell? p=some (.int .u8 q)/\
 iw (jc (kF .i64 (jH .i64 f 20) 255) (kF .i64 f 1048575) (ο.wrap q) (ο.wrap s) 0 0 0 0 0 0 0 0 0 0 0 0 0 0 0 0 0 0 0 0 0 0 0 0 0 0 0 0 0 0 0 0 ⟨none,0,0⟩) h e 0 λbC=>FX (e.add 4) 16 1 0 (16:Int) λbD=>kT b 1 8 (b.len:Int) λbE=>wL 1 bD bE bC.drew λ _ bF=>FX (e.add 20) 16 1 0 (16:Int) λbG=>kT b 1 24 (b.len:Int) λbH=>wL 1 bG bH bF.drew λ _ bI=>kT b 1 40 (if (b.len:Int)<(ο.wrap (40+g)) then (b.len:Int) else (ο.wrap (40+g))) λbJ=>gK bJ bI λi bK=>St bK (e.add 36) (Δ i) λt=>n_ t e λbL bM bN bO bP bQ bR bS bT bU bV bW bX bY bZ b0 b1 b2 b3 b4 b5 b6 b7 b8 b9 ca cb cc cd ce cf cg ch ci cj ck cl=>iw (jc bL bM bN bO bP bQ bR bS bT bU bV bW bX bY bZ b0 b1 b2 b3 b4 b5 b6 b7 b8 b9 ca cb cc cd ce cf cg ch ci cj ck cl) t c 0 λu=>n_ u c λcm cn co cp cq cr cs ct cu cv cw cx cy cz cA cB cC cD cE cF cG cH cI cJ cK cL cM cN cO cP cQ cR cS cT cU cV cW=>K cm cn co cp cq cr cs ct cu cv cw cx cy cz cA cB cC cD cE cF cG cH cI cJ cK cL cM cN cO cP cQ cR cS cT cU cV cW 0 u)))
 (cond (decide (g>(ο.wrap ((b.len:Int) - 40)))) (n (!j)) (n false))))))):=χ Tryz.func54
theorem G8 {c a w K}:gI (sH c a w K)
 (let d:Bool->b_:=λg b=>((cond g (K false b) (Pt c λh=>Ld .slice b h λe=>iM e 1 a λi=>fM b i λj=>iM e 1 a λk=>St b k (Β (ο.wrap (j+1))) λl=>K true l)))
 sJ c a w λm f=>(cond (!m) (d true f) (d (a==0) f))):=χ Tryz.func55
theorem wI {c d e f g h i j k l m n o p q r s w K}:gI (oG c d e f g h i j k l m n o p q r s w K)
 (Ε w (iZ d e f g h i j k l m n o p q r s) 26 λt u=>iW (S:=Int×Unit) (λb a v=>(cond (decide (b.1<(c.len:Int))) (nM a.drew t λx y z A B C D E F G H I J L M N=>iM c 16 b.1 λO=>nM a.drew O λP Q R T U V W X Y Z aa ab ac ad ae af=>(cond ((x==P) && ((y==Q) && ((z==R) && ((A==T) && ((B==U) && ((C==V) && ((D==W) && ((E==X) && ((F==Y) && ((G==Z) && ((H==aa) && ((I==ab) && ((J==ac) && ((L==ad) && ((M==ae) && ((N==af) && true)))))))))))))))) (K b.1 a.drew) (v ((ο.wrap (b.1+1)),()) a.drew))) (K (-1) a))) (0,()) u):=χ Tryz.func60 (fQ (.seq (fQ (.blk (.loop [(8,ν)] .leaf))) .leaf))
theorem ZG {b c d e f g h i j k l w K}:gI (Ag b c d e f g h i j k l w K)
 (Ε w (gu b c d e f g h i j k l) 43 λm a=>let n:Bool->Prop:=λo=>(K o a)
 Ld .bool a (m.add 8) λp=>(cond (!p) (fM a (m.add 2) λq=>n (decide (q<=0))) (n false))):=χ Tryz.func65
theorem UG {a b c d e f g h i j k w K}:gI (oV a b c d e f g h i j k w K)
 (Ε w (gu a b c d e f g h i j k) 43 λm l=>ig l m λn o p q r s t u v x y=>Kw n o p q r s t u v x y l λz _ A=>K z A):=χ Tryz.func67
theorem K_ {i L C0 C1 C2 C3 C4 C5 C6 C7 C8 C9 ak w K}:gI (kH i L C0 C1 C2 C3 C4 C5 C6 C7 C8 C9 ak w K)
 (Ε w (gu C0 C1 C2 C3 C4 C5 C6 C7 C8 C9 ak) 43 λc w4=>Ε w4 ξ 43 λg w6=>let Q:Bool->b_:=λj9 R=>((cond j9 (iw ξ R g 0 λal=>ig al g λaI aJ aK aL aM aN aO aP aQ aR aS=>K aI aJ aK aL aM aN aO aP aQ aR aS 1 al) (ig R c λaT aU aV aW aX aY aZ a2 a3 a4 a6=>yO aT aU aV aW aX aY aZ a2 a3 a4 a6 R λa8 a9 ba S bb bc=>Ε bc abO 142 λE bd=>iw [Β a8,Β a9,Β ba,Δ S] bd E 0 λj=>(cond bb (ig j c λbe bf bg bh bi bj bk bl bm bn bo=>fM j (E.add 0) λbp=>fM j (E.add 1) λbq=>fM j (E.add 2) λbr=>Ld .slice j (E.add 3) λbs=>pq i L be bf bg bh bi bj bk bl bm bn bo bp bq br bs j λbt bu bv bw bx bz bA bB bC bD bE bF bG=>iw (gu bt bu bv bw bx bz bA bB bC bD bE) bG g 0 λam=>ig am g λbH bI bJ bK bL bM bN bO bP bQ bR=>K bH bI bJ bK bL bM bN bO bP bQ bR bF am) (ig j c λbS bT bU bV bW bX bY bZ b0 b1 b2=>En bS bT bU bV bW bX bY bZ b0 b1 b2 j λb3 b4 b5 an b6=>Ε b6 abH 261 λd b7=>iw [Β b3,Β b4,Β b5] b7 d 0 λF=>(cond (an !=0) (Ej an F λb8 b9=>iw ξ b9 g 0 λao=>ig ao g λca cb cc cd ce cf cg ch ci cj ck=>K ca cb cc cd ce cf cg ch ci cj ck b8 ao) (fM F d λcl=>fM F (c.add 5) λcm=>fM F (d.add 1) λcn=>Ε F aew 54 λb co=>iw [Β L,Β cl,Β cm,Β cn] co b 0 λh=>let T:Addr->Value->b_:=λf cp cq=>(Ε cq [Β 0] 271 λU cr=>FZ cp (Value.iface 273 (Value.pointer (some U))) cr λcs e=>(cond cs (fM e.drew U λap=>iw ξ e.drew g 0 λV=>Cw V U (Β ap)<|ig V g λct cu cv cw cx cy cz cA cB cC cD=>K ct cu cv cw cx cy cz cA cB cC cD ap V) (fM e (f.add 0) λcE=>Ld .bool e (f.add 1) λcF=>fM e (f.add 2) λcG=>Ld .bool e (f.add 3) λcH=>fM e (f.add 4) λcI=>fM e (f.add 5) λcJ=>fM e (f.add 6) λcK=>fM e d λcL=>fM e (f.add 4) λcM=>kW i cE cF cG cH cI cJ cK cL cM e λM=>let aq:Addr->b_:=λar N=>(ig N c λcN cO cP cQ cR cS cT cU cV cW cX=>fM N ((ar.add 4).add 1) λcY=>fM N ((ar.add 4).add 2) λcZ=>Em cN cO cP cQ cR cS cT cU cV cW cX cY cZ N λc0 c1 c2 c3 c4 c5 c6 c7 c8 c9 da _ db=>Ε db ξ 43 λau dc=>iw (gu c0 c1 c2 c3 c4 c5 c6 c7 c8 c9 da) dc au 0 λav=>ig av au λdd de df dg dh di dj dk dl dm dn=>iw (gu dd de df dg dh di dj dk dl dm dn) av g 0 λaw=>ig aw g λdp dq dr ds dt du dv dw dx dy dz=>K dp dq dr ds dt du dv dw dx dy dz 0 aw)
 Pt i λW=>Ld .ptr M.drew (W.add 2) λO=>fM M.drew f λP=>(nI O P M.drew λdA dB dC dD dE dF dG dH _ dI=>Ε dI ac4 58 λax X=>Cw X f (Β P)<|Cs X W 2 (.pointer O)<|iw [Β dA,Β dB,Β dC,Β dD,Β dE,Β dF,Β dG,.bool dH] X ax 0 λdJ=>aq ax dJ)/\
 (Ε M.drew ac4 58 λay Y=>Cw Y f (Β P)<|Cs Y W 2 (.pointer O)<|nI O P Y λdK dL dM dN dO dP dQ dR _ dS=>iw [Β dK,Β dL,Β dM,Β dN,Β dO,Β dP,Β dQ,.bool dR] dS ay 0 λdT=>aq ay dT))))
 fM h.drew (b.add 0) λk=>fM h.drew (b.add 1) λl=>fM h.drew (b.add 2) λm=>fM h.drew (b.add 3) λn=>fM h.drew d λG=>fM h.drew (c.add 6) λH=>fM h.drew (d.add 2) λI=>ig h.drew c λo p q r s t u v x y z=>(tJ G H I h.drew λaz aA D=>u_ (gu o p q r s t u v x y z) D c 0 (
 Cj D b k l<|Ci D b 2 m<|Ci D b 3 n<|(jQ i k l m n az aA o p q r s t u v x y z D λdU dV dW dX dY dZ d0 d1 d2=>Ε d2 abQ 265 λaB A=>u_ (gu o p q r s t u v x y z) A c 0 (
 Ci A d 2 I<|Ci A c 6 H<|Cw A d (Β G)<|Cj A b k l<|Ci A b 2 m<|Ci A b 3 n<|iw [Β dU,.bool dV,Β dW,.bool dX,Β dY,Β dZ,Β d0] A aB 0 λd3=>T aB d1 d3))/\
 (Ε D abQ 265 λaC B=>u_ (gu o p q r s t u v x y z) B c 0 (
 Ci B d 2 I<|Ci B c 6 H<|Cw B d (Β G)<|Cj B b k l<|Ci B b 2 m<|Ci B b 3 n<|jQ i k l m n az aA o p q r s t u v x y z B λd4 d5 d6 d7 d8 d9 ea eb ec=>iw [Β d4,.bool d5,Β d6,.bool d7,Β d8,Β d9,Β ea] ec aC 0 λed=>T aC eb ed))))/\
 (Ε h.drew abQ 265 λaD C=>u_ (gu o p q r s t u v x y z) C c 0 (
 Ci C d 2 I<|Ci C c 6 H<|Cw C d (Β G)<|Cj C b k l<|Ci C b 2 m<|Ci C b 3 n<|tJ G H I C λee ef J=>u_ (gu o p q r s t u v x y z) J c 0 (
 Cj J b k l<|Ci J b 2 m<|Ci J b 3 n<|jQ i k l m n ee ef o p q r s t u v x y z J λeg eh ei ej ek el em en eo=>iw [Β eg,.bool eh,Β ei,.bool ej,Β ek,Β el,Β em] eo aD 0 λep=>T aD en ep))))))))))
 jR i w6 λeq aE=>(cond (!eq) (Q true aE) (lX i L aE λer Z=>(cond (!er) (Q true Z) (ig Z c λes et eu ev ew ex ey ez eA eB eC=>yQ es et eu ev ew ex ey ez eA eB eC Z λeD eE=>Q (!eD) eE))))):=χ Tryz.func68
theorem GZ {c d e f g h i j k l m n w K}:gI (lU c d e f g h i j k l m n w K)
 (Ε w (gu d e f g h i j k l m n) 43 λo r=>Ε r ξ 43 λb a=>Pt c λs=>fM a ((s.add 2).add 28) λt=>(cond (decide (t>0)) (ig a.drew o λu v x y z A B C D E F=>Pt c λG=>fM a.drew ((G.add 2).add 28) λH=>QY u v x y z A B C D E F H a.drew λI J L M N O P Q R S T U=>iw (gu I J L M N O P Q R S T) U b 0 λp=>ig p b λV W X Y Z aa ab ac ad ae af=>K V W X Y Z aa ab ac ad ae af p) (ig a o λag ah ai aj ak al am an ao ap aq=>iw (gu ag ah ai aj ak al am an ao ap aq) a b 0 λq=>ig q b λar au av aw ax ay az aA aB aC aD=>K ar au av aw ax ay az aA aB aC aD q))):=χ Tryz.func69
theorem Zm {j k l m n o p q r s t d w K}:gI (J5 j k l m n o p q r s t d w K)
 (Ε w (gu j k l m n o p q r s t) 43 λb f=>let u:Bool->Prop:=λz=>((cond z (K ⟨none,0,0⟩ 1 f) (ig f b λA B C D E F G H I J L=>qO A B C D E F G H I J L f λv g=>(cond (v !=0) (K ⟨none,0,0⟩ v g) (ig g b λM N O P Q R S T U V W=>Dp M N O P Q R S T U V W g λX c=>(cond (decide (X<=d)) (Ld .slice c.drew (b.add 9) λY=>Ld .slice c.drew (b.add 10) λe=>gK Y c.drew λh x=>x.cell? (b.add 10)=some (Δ e)/\
 gK e x λi Z=>St Z (b.add 9) (Δ h) λaa=>St aa (b.add 10) (Δ i) λy=>ig y b λab ac ad ae af ag ah ai aj ak al=>Ε y (gu ab ac ad ae af ag ah ai aj ak al) 43 λam an=>K ⟨(some am),1,1⟩ 0 an) (Ld .bool c (b.add 7) λao=>(cond ao (K ⟨none,0,0⟩ 6 c) (ig c b λap aq ar au av aw ax ay az aA aB=>NZ ap aq ar au av aw ax ay az aA aB d c λaC aD=>Dk aC aD λaE aF=>K aE 0 aF)))))))))
 (cond (decide (d<68)) (u true) (u (decide (d>65535))))):=χ Tryz.func72
theorem AX {b w K}:gI (gK b w K)
 ((cond (Option.isNone b.a) (K ⟨none,0,0⟩ w) (Ε w [] 5 λc d=>lK 5 1 1 [(Value.int .u8 0)] ⟨(some c),0,0⟩ b d λe f=>K e f))):=χ Tryz.func73
theorem ZJ {f g h i j k l m n o p q r s t u v x y z A B C D E F G H I J L M N O P Q R w K}:gI (Ah f g h i j k l m n o p q r s t u v x y z A B C D E F G H I J L M N O P Q R w K)
 (Ε w (jc f g h i j k l m n o p q r s t u v x y z A B C D E F G H I J L M N O P Q R) 79 λb S=>let c:Bool->b_:=λX a=>((cond X (K 1 a) (let T:Bool->Prop:=λY=>((cond Y (K 1 a) (Ld .slice a (b.add 36) λZ=>(cond (decide ((Z.len:Int)>65535)) (K 6 a) (K 0 a)))))
 fM a (b.add 1) λU=>(cond (decide (U<0)) (T (decide (U<0))) (fM a (b.add 1) λaa=>T (decide (aa>=1048576)))))))
 fM S b λab=>jI ab 1 S λV d=>(cond (!V) (c (!V) d) (fM d (b.add 2) λac=>jI ac 1 d λW e=>(cond (!W) (c (!W) e) (fM e (b.add 3) λad=>jI ad 1 e λae af=>c (!ae) af))))):=χ Tryz.func74
theorem acH {c a b w K}:gI (lG c a b w K)
 (gK c w λd f=>jI a b f λg e=>(cond (!g) (K d e) (A_ a b e λh i=>jA d h i λj k=>K j k))):=χ Tryz.func75
theorem qQ {b w K}:gI (jP b w K)
 (iW (S:=Int×Int×Unit) (λa d g=>(cond (decide (a.2.1<(b.len:Int))) (iM b 1 a.2.1 λh=>Ld .slice d h λf=>(cond (decide ((ο.wrap (a.1+(f.len:Int)))<0)) False (g ((ο.wrap (a.1+(f.len:Int))),(ο.wrap (a.2.1+1)),()) d))) (lM ⟨none,0,0⟩ a.1 d λi j=>iW (S:=fU×Int×Unit) (λc e k=>(cond (decide (c.2.1<(b.len:Int))) (iM b 1 c.2.1 λl=>Ld .slice e l λm=>lK 5 1 1 [(Value.int .u8 0)] c.1 m e λn o=>k (n,(ο.wrap (c.2.1+1)),()) o) (K c.1 e))) (i,0,()) j))) (0,0,()) w):=χ Tryz.func76 (fQ (fQ (.seq (fQ (.blk (.loop [(3,ν),(11,ν)] .leaf))) (fQ (.seq (fQ (.blk (.loop [(6,.slice),(27,ν)] .leaf))) .leaf)))))
theorem OV {b c d e f w K}:gI (gV b c d e f w K)
 (Ε w [Δ b,Β c,Β d] 94 λh g=>Ld .slice g h λi=>tC i e f g λj _ k=>K j k):=χ Tryz.func77
theorem aaw {a w K}:gI (Iq a w K)
 (Bl a w λb c=>EC b c λd e=>K d e):=χ Tryz.func78
theorem acK {a w K}:gI (xR a w K)
 (qB a false w λb c=>K (!b) c):=χ Tryz.func79
theorem aau {b a w K}:gI (jI b a w K)
 (let c:Bool->b_:=λe f=>(K e f)
 Eb a w λg d=>(cond g (cond (decide (b>=0)) (0<=(ο.wrap (8 * a))/\
 c ((jH .i64 b (ο.wrap (8 * a)))==0) d) (c false d)) (c false d))):=χ Tryz.func80
theorem JJ {a w K}:gI (lF a w K)
 (let b:Bool->Prop:=λc=>(K c w)
 (cond (decide (a>=0)) (b (decide (a<4294967296))) (b false))):=χ Tryz.func81
theorem aaz {e f g h i j k l m n o w K}:gI (Dp e f g h i j k l m n o w K)
 (Ε w (gu e f g h i j k l m n o) 43 λc d=>ig d.drew c λq r s t u v x y z A B=>Ld .slice d.drew (c.add 10) λb=>Dn q r s t u v x y z A B d.drew λC p=>p.cell? (c.add 10)=some (Δ b)/\
 K (ο.wrap (C+(b.len:Int))) p):=χ Tryz.func82
theorem Hg {a w K}:gI (jR a w K)
 (let b:Bool->Prop:=λc=>(K c w)
 (cond (!(Option.isNone a)) (Pt a λd=>Ld .ptr w d λe=>b (!(Option.isNone e))) (b false))):=χ Tryz.func83
theorem OM {a c w K}:gI (pV a c w K)
 (let d:Bool->b_:=λe f=>(K e f)
 kJ a w λg b=>(cond g (Pt a λh=>Ld .slice b (h.add 2) λi=>iT i c b λj k=>d j k) (d false b))):=χ Tryz.func84
theorem ZL {i j k l m n o p q r s w K}:gI (KA i j k l m n o p q r s w K)
 (Ε w (gu i j k l m n o p q r s) 43 λb y=>Ε y ξ 43 λc d=>fM d (b.add 3) λz=>(cond (decide (z<=1)) (iw ξ d c 0 λt=>ig t c λA B C D E F G H I J L=>K A B C D E F G H I J L false t) (fM d (b.add 3) λM=>St d (b.add 3) (Β (ο.wrap (M - 1))) λf=>Ld .slice f.drew (b.add 9) λN=>Ld .slice f.drew (b.add 10) λe=>gK N f.drew λg u=>u.cell? (b.add 10)=some (Δ e)/\
 gK e u λh O=>St O (b.add 9) (Δ g) λP=>St P (b.add 10) (Δ h) λv=>ig v b λQ R S T U V W X Y Z aa=>iw (gu Q R S T U V W X Y Z aa) v c 0 λx=>ig x c λab ac ad ae af ag ah ai aj ak al=>K ab ac ad ae af ag ah ai aj ak al true x))):=χ Tryz.func85
theorem Nc {e v x y z A B C D E F G w K}:gI (oD e v x y z A B C D E F G w K)
 (Ε w (gu v x y z A B C D E F G) 43 λf Y=>Ε Y ξ 43 λb Z=>let H:Bool->b_:=λj8 o=>((cond j8 (iw ξ o b 0 λI=>ig I b λab ac ad ae af ag ah ai aj ak al=>K 0 ab ac ad ae af ag ah ai aj ak al 1 I) (ig o f λam an ao ap aq ar au av aw ax ay=>yO am an ao ap aq ar au av aw ax ay o λaz aA aB p aC aD=>Ε aD abO 142 λj aE=>iw [Β az,Β aA,Β aB,Δ p] aE j 0 λg=>(cond aC (ig g f λaF aG aH aI aJ aK aL aM aN aO aP=>fM g (j.add 0) λaQ=>fM g (j.add 1) λaR=>fM g (j.add 2) λaS=>Ld .slice g (j.add 3) λaT=>qg e aF aG aH aI aJ aK aL aM aN aO aP aQ aR aS aT g λaU aV aW aX aY aZ a1 a2 a3 a5 a7 a8 a9 ba=>iw (gu aV aW aX aY aZ a1 a2 a3 a5 a7 a8) ba b 0 λJ=>ig J b λbb bc bd be bf bg bh bi bj bk bl=>K aU bb bc bd be bf bg bh bi bj bk bl a9 J) (ig g f λbm bn bo bp bq br bs bt bu bv bw=>En bm bn bo bp bq br bs bt bu bv bw g λbx bz bA L bB=>Ε bB abH 261 λk bC=>iw [Β bx,Β bz,Β bA] bC k 0 λh=>(cond (L !=0) (Ej L h λbD bE=>iw ξ bE b 0 λM=>ig M b λbF bG bH bI bJ bK bL bM bN bO bP=>K 0 bF bG bH bI bJ bK bL bM bN bO bP bD M) (Pt e λbQ=>Ld .ptr h.drew (bQ.add 2) λbR=>fM h.drew k λbS=>fM h.drew (f.add 6) λbT=>fM h.drew (k.add 2) λbU=>oq bR bS bT bU h.drew λq bV r=>(cond (!bV) (iw ξ r b 0 λN=>ig N b λbW bX bY bZ b0 b1 b2 b3 b4 b5 b6=>K 0 bW bX bY bZ b0 b1 b2 b3 b4 b5 b6 9 N) (Pt e λb7=>Ld .ptr r (b7.add 2) λb8=>nI b8 q r λb9 ca cb cc cd ce cf cg _ ch=>Ε ch ac4 58 λl ci=>iw [Β b9,Β ca,Β cb,Β cc,Β cd,Β ce,Β cf,.bool cg] ci l 0 λn=>fM n k λcj=>fM n (f.add 5) λck=>fM n (k.add 1) λcl=>tJ cj ck cl n λcm cn co=>pz e q true 0 false 0 cm cn co λcp cq cr cs ct cu cv cw=>Ε cw abQ 265 λc cx=>iw [Β cp,.bool cq,Β cr,.bool cs,Β ct,Β cu,Β cv] cx c 0 λi=>let O:Bool->b_:=λcy d=>((cond cy (iw ξ d b 0 λP=>ig P b λcz cA cB cC cD cE cF cG cH cI cJ=>K 0 cz cA cB cC cD cE cF cG cH cI cJ 10 P) (fM d (c.add 0) λcK=>Ld .bool d (c.add 1) λcL=>fM d (c.add 2) λcM=>Ld .bool d (c.add 3) λcN=>fM d (c.add 4) λcO=>fM d (c.add 5) λcP=>fM d (c.add 6) λcQ=>ig d f λcR cS cT cU cV cW cX cY cZ c0 c1=>sK e cK cL cM cN cO cP cQ cR cS cT cU cV cW cX cY cZ c0 c1 d λQ m=>(cond (Q !=0) (iw ξ m b 0 λR=>ig R b λc2 c3 c4 c5 c6 c7 c8 c9 da db dc=>K 0 c2 c3 c4 c5 c6 c7 c8 c9 da db dc Q R) (ig m f λdd de df dg dh di dj dk dl dm dn=>fM m (l.add 2) λdp=>fM m (l.add 3) λdq=>Ku dd de df dg dh di dj dk dl dm dn dp dq m λdr ds dt du dv dw dx dy dz dA dB _ dC=>Ε dC ξ 43 λS dD=>iw (gu dr ds dt du dv dw dx dy dz dA dB) dD S 0 λs=>fM s.drew l λdE=>ig s.drew S λdF dG dH dI dJ dK dL dM dN dO dP=>iw (gu dF dG dH dI dJ dK dL dM dN dO dP) s.drew b 0 λT=>ig T b λdQ dR dS dT dU dV dW dX dY dZ d0=>K dE dQ dR dS dT dU dV dW dX dY dZ d0 0 T)))))
 Ld .bool i.drew (l.add 7) λd1=>(cond (!d1) (Pt e λU=>fM i.drew ((U.add 5).add 29) λV=>fM i.drew ((c.add 5).add 0) λW=>fM i.drew ((c.add 5).add 1) λX=>uG e q i.drew λd2 t=>Cj t (c.add 5) W X<|Ci t (U.add 5) 29 V<|zU V W X d2 t λd3 d4=>O (!d3) d4) (O false i.drew)))))))))))
 jR e Z λd5 u=>(cond (!d5) (H true u) (ig u f λd6 d7 d8 d9 ea eb ec ed ee ef eg=>yQ d6 d7 d8 d9 ea eb ec ed ee ef eg u λeh ei=>H (!eh) ei))):=χ Tryz.func87
theorem MO {c a1 C0 C1 C2 C3 C4 C5 C6 C7 C8 C9 aD w K}:gI (wO c a1 C0 C1 C2 C3 C4 C5 C6 C7 C8 C9 aD w K)
 (Ε w (gu C0 C1 C2 C3 C4 C5 C6 C7 C8 C9 aD) 43 λa5 M=>let J6:Addr->Int->b_:=λj7 j8 W=>((cond (j8 !=0) (K ⟨none,0,0⟩ W) (n_ W.drew j7 λaN aO aP aQ aR aS aT aU aV aW aX aY aZ a2 a3 a4 a6 a7 a8 a9 ba bb bc bd be bf bg bh bi bj bk bl bm bn bo bp bq=>Pt c λbr=>fM W.drew (br.add 41) λbs=>Pt c λbt=>fM W.drew ((bt.add 2).add 25) λbu=>J_ aN aO aP aQ aR aS aT aU aV aW aX aY aZ a2 a3 a4 a6 a7 a8 a9 ba bb bc bd be bf bg bh bi bj bk bl bm bn bo bp bq bs bu W.drew λao bv al=>(cond (bv !=0) (K ⟨none,0,0⟩ al) (let aE:b_:=λbw=>(iW (S:=fU×Int×Unit) (λX ap bx=>(cond (decide (X.2.1<(ao.len:Int))) (iM ao 37 X.2.1 λbz=>n_ ap bz λbA bB bC bD bE bF bG bH bI bJ bK bL bM bN bO bP bQ bR bS bT bU bV bW bX bY bZ b0 b1 b2 b3 b4 b5 b6 b7 b8 b9 ca=>Ε ap (jc 0 0 0 0 0 0 0 0 0 0 0 0 0 0 0 0 0 0 0 0 0 0 0 0 0 0 0 0 0 0 0 0 0 0 0 0 ⟨none,0,0⟩) 79 λaF cb=>iw (jc bA bB bC bD bE bF bG bH bI bJ bK bL bM bN bO bP bQ bR bS bT bU bV bW bX bY bZ b0 b1 b2 b3 b4 b5 b6 b7 b8 b9 ca) cb aF 0 λaG=>n_ aG aF λcc cd ce cf cg ch ci cj ck cl cm cn co cp cq cr cs ct cu cv cw cx cy cz cA cB cC cD cE cF cG cH cI cJ cK cL cM=>EF cc cd ce cf cg ch ci cj ck cl cm cn co cp cq cr cs ct cu cv cw cx cy cz cA cB cC cD cE cF cG cH cI cJ cK cL cM aG λaq _ cN=>Ε cN [Β a1,Δ aq] 47 λcO cP=>lK 47 2 32 [(Β 0),(Value.slice none 0 0)] X.1 ⟨(some cO),1,1⟩ cP λcQ cR=>bx (cQ,(ο.wrap (X.2.1+1)),()) cR) (K X.1 ap))) (⟨none,0,0⟩,0,()) bw)
 (cond (decide ((ao.len:Int)>1)) (Pt c λcS=>fM al (cS.add 41) λcT=>Pt c λcU=>St al (cU.add 41) (Β (kF .i64 (ο.wrap (cT+1)) 4294967295)) λcV=>aE cV) (aE al)))))))
 Pt c λN=>nM M.drew (N.add 2) λd e f g h i j k l m n o p q r s=>Pt c λO=>Ld .slice M.drew ((O.add 2).add 16) λb=>iM b 16 a1 λP=>nM M.drew P λt u v x y z A B C D E F G H I J=>Pt c λQ=>fM M.drew ((Q.add 2).add 27) λL=>ig M.drew a5 λY Z aa ab ac ad ae af ag ah ai=>(oV Y Z aa ab ac ad ae af ag ah ai M.drew λaH R=>Ci R (Q.add 2) 27 L<|u_ (iZ t u v x y z A B C D E F G H I J) R P 0 (
 Cs R (O.add 2) 16 (Δ b)<|u_ (iZ d e f g h i j k l m n o p q r s) R (N.add 2) 0 (
 (mZ d e f g h i j k l m n o p q r s t u v x y z A B C D E F G H I J L aH R λcW cX cY cZ c0 c1 c2 c3 c4 c5 c6 c7 c8 c9 da db dc dd de df dg dh di dj dk dl dm dn dp dq dr ds dt du dv dw dx dy dz=>Ε dz (jc 0 0 0 0 0 0 0 0 0 0 0 0 0 0 0 0 0 0 0 0 0 0 0 0 0 0 0 0 0 0 0 0 0 0 0 0 ⟨none,0,0⟩) 79 λaI T=>u_ (gu Y Z aa ab ac ad ae af ag ah ai) T a5 0 (
 Ci T (Q.add 2) 27 L<|u_ (iZ t u v x y z A B C D E F G H I J) T P 0 (
 Cs T (O.add 2) 16 (Δ b)<|u_ (iZ d e f g h i j k l m n o p q r s) T (N.add 2) 0 (
 iw (jc cW cX cY cZ c0 c1 c2 c3 c4 c5 c6 c7 c8 c9 da db dc dd de df dg dh di dj dk dl dm dn dp dq dr ds dt du dv dw dx) T aI 0 λdA=>J6 aI dy dA))))/\
 (Ε R (jc 0 0 0 0 0 0 0 0 0 0 0 0 0 0 0 0 0 0 0 0 0 0 0 0 0 0 0 0 0 0 0 0 0 0 0 0 ⟨none,0,0⟩) 79 λaJ U=>u_ (gu Y Z aa ab ac ad ae af ag ah ai) U a5 0 (
 Ci U (Q.add 2) 27 L<|u_ (iZ t u v x y z A B C D E F G H I J) U P 0 (
 Cs U (O.add 2) 16 (Δ b)<|u_ (iZ d e f g h i j k l m n o p q r s) U (N.add 2) 0 (
 mZ d e f g h i j k l m n o p q r s t u v x y z A B C D E F G H I J L aH U λdB dC dD dE dF dG dH dI dJ dK dL dM dN dO dP dQ dR dS dT dU dV dW dX dY dZ d0 d1 d2 d3 d4 d5 d6 d7 d8 d9 ea eb ec ed=>iw (jc dB dC dD dE dF dG dH dI dJ dK dL dM dN dO dP dQ dR dS dT dU dV dW dX dY dZ d0 d1 d2 d3 d4 d5 d6 d7 d8 d9 ea eb) ed aJ 0 λee=>J6 aJ ec ee)))))))/\
 (Ε M.drew (jc 0 0 0 0 0 0 0 0 0 0 0 0 0 0 0 0 0 0 0 0 0 0 0 0 0 0 0 0 0 0 0 0 0 0 0 0 ⟨none,0,0⟩) 79 λaK V=>u_ (gu Y Z aa ab ac ad ae af ag ah ai) V a5 0 (
 Ci V (Q.add 2) 27 L<|u_ (iZ t u v x y z A B C D E F G H I J) V P 0 (
 Cs V (O.add 2) 16 (Δ b)<|u_ (iZ d e f g h i j k l m n o p q r s) V (N.add 2) 0 (
 oV Y Z aa ab ac ad ae af ag ah ai V λef aj=>Ci aj (Q.add 2) 27 L<|u_ (iZ t u v x y z A B C D E F G H I J) aj P 0 (
 Cs aj (O.add 2) 16 (Δ b)<|u_ (iZ d e f g h i j k l m n o p q r s) aj (N.add 2) 0 (
 mZ d e f g h i j k l m n o p q r s t u v x y z A B C D E F G H I J L ef aj λeg eh ei ej ek el em en eo ep eq er es et eu ev ew ex ey ez eA eB eC eD eE eF eG eH eI eJ eK eL eM eN eO eP eQ eR eS=>iw (jc eg eh ei ej ek el em en eo ep eq er es et eu ev ew ex ey ez eA eB eC eD eE eF eG eH eI eJ eK eL eM eN eO eP eQ) eS aK 0 λeT=>J6 aK eR eT))))))):=χ Tryz.func88 (fQ (fQ (fQ (fQ (fQ (fQ (fQ (.seq (fQ (.blk (.loop [(10,.slice),(71,ν)] .leaf))) .leaf))))))))
theorem Lh {b w K}:gI (mY b w K)
 (nY b w λc a=>(cond (!c) (K 0 a) (Pt b λd=>Ld .map a (d.add 448) λe=>NP a e λf=>K f a))):=χ Tryz.func89
theorem SH {a w K}:gI (BN a w K)
 (iL (Value.pointer a)=true/\
 Ε w [.pointer a] 107 λb c=>K (Value.func (.func 161) #[] #[(Value.pointer (some b))]) c):=χ Tryz.func90
theorem Hw {a w K}:gI (sO a w K)
 (iL (Value.pointer a)=true/\
 Ε w [.pointer a] 108 λb c=>K (Value.func (.func 163) #[] #[(Value.pointer (some b))]) c):=χ Tryz.func91
theorem Jm {a w K}:gI (o_ a w K)
 (let b:Bool->Prop:=λc=>(K c w)
 (cond (!(Option.isNone a)) (Pt a λd=>Ld .map w d λe=>b (!(Option.isNone e))) (b false))):=χ Tryz.func92
theorem Nb {c w K}:gI (Dj c w K)
 (Pt c λe=>Ld .map w e λf=>adx f w λa g=>iW (S:=Int×Unit) (λd h i=>a=⟨a.block,0,none⟩/\
 ag8 a.block h (λj=>K d.1 j) (λ _ _ b=>a=⟨a.block,0,none⟩/\
 adn a.block b λ _ k=>Kind.dec .ptr k λl=>Pt l λm=>Ld .ptr b m λn=>I8 n b λo p=>i ((ο.wrap (d.1+o)),()) p)) (0,()) g):=χ Tryz.func93 (fQ (fQ (.seq (fQ (.blk (.loop [(3,ν)] .leaf))) .leaf)))
theorem DR {b w K}:gI (kL b w K)
 ((cond (Option.isNone b.a) (K ⟨none,0,0⟩ w) (Ε w [] 3 λc d=>lK 3 1 8 [(Β 0)] ⟨(some c),0,0⟩ b d λe f=>K e f))):=χ Tryz.func94
theorem OI {c d e f g h i j k l m n o p q r s t u v x y z A B C D E F G H I J L M N w K}:gI (yx c d e f g h i j k l m n o p q r s t u v x y z A B C D E F G H I J L M N w K)
 (Ε w (jO c d e f g h i j k l m n o p q r s t u v x y z A B C D E F G H I J L M N) 31 λb a=>Ld .slice a (b.add 16) λP=>Ld .slice a (b.add 17) λQ=>Ld .slice a (b.add 35) λR=>fM a (b.add 21) λO=>fM a (b.add 18) λS=>fM a (b.add 19) λT=>fM a (b.add 18) λU=>fM a (b.add 20) λV=>fM a (b.add 21) λW=>fM a (b.add 22) λX=>fM a (b.add 23) λY=>fM a (b.add 24) λZ=>fM a (b.add 25) λaa=>fM a (b.add 26) λab=>fM a (b.add 27) λac=>fM a (b.add 29) λad=>fM a (b.add 30) λae=>fM a (b.add 31) λaf=>fM a (b.add 32) λag=>fM a (b.add 33) λah=>fM a (b.add 34) λai=>Ε a (ait (P.len:Int) 1 64 (Q.len:Int) 1 16 (R.len:Int) 0 (if O<64 then O else 64) S 1 65535 T U 65535 V 1 4096 W 1 4096 X 1 4096 Y 0 4096 Z 0 67108864 aa 1280 65535 ab 1280 65535 ac 1 255 ad 0 2 ae 120 1048576 af 7440 1048576 ag 240 1048576 ah 60 1048576 ai 1 1048576) 200 λaj ak=>K ⟨(some aj),19,19⟩ ak):=χ Tryz.func95
theorem KT {c d e w K}:gI (kG c d e w K)
 (Ε w [Β c,Β d,Β e] 200 λb a=>let f:Bool->Prop:=λg=>(K g a)
 fM a (b.add 1) λh=>fM a b λi=>(cond (decide (h<=i)) (fM a b λj=>fM a (b.add 2) λk=>f (decide (j<=k))) (f false))):=χ Tryz.func96
theorem Qe {a w K}:gI (zT a w K)
 (let b:Bool->b_:=λc d=>(K c d)
 (cond (a==0) (b true w) (kG a 536 65535 w λe f=>b e f))):=χ Tryz.func97
theorem Qc {e f g h i j k l m n o p q r s t u v x y z A B C D E F G H I J L M N O P w K}:gI (zQ e f g h i j k l m n o p q r s t u v x y z A B C D E F G H I J L M N O P w K)
 (Ε w (jO e f g h i j k l m n o p q r s t u v x y z A B C D E F G H I J L M N O P) 31 λa Q=>let R:Bool->b_:=λW b=>((cond W (K false b) (let S:Bool->b_:=λX T=>((cond X (K false T) (K true T)))
 Ld .slice b (a.add 17) λY=>jT Y (Value.func (.func 168) #[] #[]) b λU c=>(cond U (S U c) (Ld .slice c (a.add 35) λZ=>jl Z (Value.func (.func 169) #[] #[(Value.pointer (some a))]) c λaa ab=>S aa ab)))))
 nM Q a λac ad ae af ag ah ai aj ak al am an ao ap aq ar=>Ew ac ad ae af ag ah ai aj ak al am an ao ap aq ar Q λV d=>(cond (!V) (R (!V) d) (Ld .slice d (a.add 16) λau=>jM au (Value.func (.func 166) #[] #[]) d λav aw=>R av aw))):=χ Tryz.func98
theorem MQ {F G H I J L M N O P Q R T U V W X Y Z aa ab ac ad ae af ag ah ai aj ak al am an ao ap aq w K}:gI (wP F G H I J L M N O P Q R T U V W X Y Z aa ab ac ad ae af ag ah ai aj ak al am an ao ap aq w K)
 (Ε w (jO F G H I J L M N O P Q R T U V W X Y Z aa ab ac ad ae af ag ah ai aj ak al am an ao ap aq) 31 λb f=>let J4:fU->b_:=λj5 w6=>(let g:Bool->b_:=λj8 y=>((cond j8 (K true y) (Ld .slice y (b.add 16) λau=>Wp 3 1 8 [(Β 0)] (au.len:Int) (au.len:Int) y λz av=>Ld .slice av (b.add 35) λaw=>iW (S:=Int×Unit) (λA c aG=>(cond (decide (A.1<(aw.len:Int))) (iM aw 7 A.1 λe=>fM c (e.add 0) λaH=>fM c (e.add 1) λaI=>fM c (e.add 2) λaJ=>fM c (e.add 3) λaK=>fM c (e.add 4) λaL=>fM c (e.add 5) λaM=>fM c (e.add 6) λaN=>Ε c aej 125 λax aO=>iw [Β aH,Β aI,Β aJ,Β aK,Β aL,Β aM,Β aN] aO ax 0 λB=>fM B ax λay=>iM z 1 ay λaP=>fM B aP λaQ=>iM z 1 ay λaR=>St B aR (Β (ο.wrap (aQ+1))) λaS=>aG ((ο.wrap (A.1+1)),()) aS) (jT z (Value.func (.func 187) #[] #[(Value.pointer (some b))]) c λaT aU=>K aT aU))) (0,()) av)))
 lH j5 (Value.func (.func 179) #[] #[]) w6 λaV aW=>oW aV aW λaX C=>(cond aX (g true C) (Ld .slice C (b.add 17) λaY=>qc aY (Value.func (.func 182) #[] #[]) C λaZ a0=>uz aZ a0 λa1 D=>(cond a1 (g true D) (Ld .slice D (b.add 35) λa2=>jZ a2 (Value.func (.func 175) #[] #[]) D λa4 a5=>nJ a4 a5 λa6 E=>(cond a6 (g true E) (Ld .slice E (b.add 35) λa7=>j_ a7 (Value.func (.func 176) #[] #[]) E λa8 a9=>nK a8 a9 λba bb=>g ba bb)))))))
 Ld .slice f.drew (b.add 16) λd=>nM f.drew b λh i j k l m n o p q r s t u v x=>(jL d f.drew λbc az=>u_ (iZ h i j k l m n o p q r s t u v x) az b 0 (
 Ε az (iZ h i j k l m n o p q r s t u v x) 26 λbd aA=>aA.cell? (b.add 16)=some (Δ d)/\
 lK 26 16 16 (iZ 0 0 0 0 0 0 0 0 0 0 0 0 0 0 0 0) bc ⟨(some bd),1,1⟩ aA λbe bf=>J4 be bf))/\
 (Ε f.drew (iZ h i j k l m n o p q r s t u v x) 26 λbg aB=>aB.cell? (b.add 16)=some (Δ d)/\
 jL d aB λbh aC=>u_ (iZ h i j k l m n o p q r s t u v x) aC b 0 (
 lK 26 16 16 (iZ 0 0 0 0 0 0 0 0 0 0 0 0 0 0 0 0) bh ⟨(some bg),1,1⟩ aC λbi bj=>J4 bi bj))):=χ Tryz.func99 (fQ (fQ (fQ (fQ (fQ (fQ (.seq (fQ (.blk (.loop [(46,ν)] .leaf))) .leaf)))))))
theorem MX {a w K}:gI (qJ a w K)
 (lF a w λc b=>(cond (!c) (K false b) (Ε b [Β 0,Β 8,Β 2130706432,Β 8,Β 3758096384,Β 3] 332 λd e=>QZ a ⟨(some d),3,3⟩ e λf g=>K (!f) g))):=χ Tryz.func100
theorem qU {a b w K}:gI (iT a b w K)
 (lZ a b w λc d=>K (decide (c>=0)) d):=χ Tryz.func101
theorem Zo {a w K}:gI (zZ a w K)
 (let b:Bool->Prop:=λc=>((cond c (K none 1 w) (Ε w [.slice none 0 0,Β 0,Β a,.bool true] 336 λd e=>K (some d) 0 e)))
 (cond (decide (a<0)) (b true) (b (decide (a>65536))))):=χ Tryz.func102
theorem La {g l m n o p q r w K}:gI (vN g l m n o p q r w K)
 (Ε w [Β l,Β m,Β n,Β o,Β p,Β q,Β r] 125 λa d=>fM d (a.add 1) λc=>let h:Bool->Prop:=λs=>((cond s (let e:Bool->b_:=λt b=>(let i:Bool->b_:=λu v=>(K u v)
 (cond t (fM b (a.add 1) λx=>fM b (a.add 4) λy=>(cond (x==y) (fM b a λz=>lX g z b λA B=>i A B) (i false b))) (i false b)))
 fM d.drew (a.add 2) λC=>qJ C d.drew λD f=>(cond D (Pt g λE=>Ld .ptr f E λF=>fM f ((a.add 4).add 1) λG=>pV F G f λH j=>(cond H (fM j (a.add 3) λI=>Bc I j λJ k=>(cond J (fM k ((a.add 4).add 2) λL=>Bc L k λM N=>e M N) (e false k))) (e false j))) (e false f))) (K false d)))
 (cond (c==1) (h (c==1)) (cond (c==6) (h (c==6)) (h (c==17))))):=χ Tryz.func103
theorem P9 {c d e f g w K}:gI (ou c d e f g w K)
 (Ε w [Β d,Β e,Β f,Β g] 54 λb k=>kP c k λl a=>(cond (!l) (K 0 false a) (Pt c λh=>Ld .ptr a.drew (h.add 1) λi=>fM a.drew (b.add 0) λm=>fM a.drew (b.add 1) λn=>fM a.drew (b.add 2) λo=>fM a.drew (b.add 3) λp=>ug m n o p a.drew λq j=>j.cell? (h.add 1)=some (.pointer i)/\
 oz i q j λr s t=>K r s t))):=χ Tryz.func104
theorem P8 {b d e f w K}:gI (oq b d e f w K)
 (Ε w [Β d,Β e,Β f] 56 λc j=>kP b j λk a=>(cond (!k) (K 0 false a) (Pt b λg=>Ld .ptr a.drew (g.add 2) λh=>fM a.drew (c.add 0) λl=>fM a.drew (c.add 1) λm=>fM a.drew (c.add 2) λn=>uh l m n a.drew λo i=>i.cell? (g.add 2)=some (.pointer h)/\
 oz h o i λp q r=>K p q r))):=χ Tryz.func105
theorem Hr {b c w K}:gI (nS b c w K)
 (rD b c w λd e a=>(cond (e !=0) (K 0 a) (Pt d λf=>fM a f λg=>K g a))):=χ Tryz.func106
theorem Jr {a w K}:gI (pF a w K)
 (Pt a λe=>Ld .ptr w.drew (e.add 2) λf=>Pt a λb=>fM w.drew ((b.add 5).add 21) λc=>BO f w.drew λg d=>d.cell? ((b.add 5).add 21)=some (Β c)/\
 K (decide (g>=c)) d):=χ Tryz.func107
theorem Jv {d e w K}:gI (pI d e w K)
 (rD d e w λb f a=>(cond (f !=0) (K f a) (Pt b λg=>fM a (g.add 0) λh=>fM a (g.add 1) λi=>uH h i a λj c=>(cond j (K 10 c) (Pt b λk=>fM c k λl=>Pt b λm=>St c m (Β (ο.wrap (l+1))) λn=>K 0 n))))):=χ Tryz.func108
theorem Nj {c h i j w K}:gI (wR c h i j w K)
 (Ε w [Β h,Β i,Β j] 56 λb n=>kJ c n λo f=>(cond (!o) (K 2 f) (let e:Bool->b_:=λp a=>((cond p (K 1 a) (Pt c λq=>Ld .map a.drew (q.add 3) λr=>fM a.drew (b.add 0) λs=>fM a.drew (b.add 1) λt=>fM a.drew (b.add 2) λu=>qG υ 56 .bool r (Value.agg ⟨[Β s,Β t,Β u]⟩) (Value.bool false) a.drew λv=>(cond v (K 9 a.drew) (Pt c λx=>Ld .map a.drew.drew (x.add 3) λy=>fM a.drew.drew (b.add 0) λz=>fM a.drew.drew (b.add 1) λA=>fM a.drew.drew (b.add 2) λB=>og υ 56 y (Value.agg ⟨[Β z,Β A,Β B]⟩) (Value.bool true) a.drew.drew λC=>K 0 C)))))
 fM f b λD=>rC D f λk g=>(cond (!k) (e (!k) g) (fM g (b.add 1) λE=>pV c E g λl d=>(cond (!l) (e (!l) d) (fM d (b.add 2) λm=>(cond (decide (m<0)) (e (decide (m<0)) d) (fM d (b.add 2) λF=>e (decide (F>=65536)) d))))))))):=χ Tryz.func109
theorem SG {c i j k l m n o p w K}:gI (xu c i j k l m n o p w K)
 (Ε w [Β i,Β j,Β k,Β l,Β m,Β n,Β o,.bool p] 58 λa A=>kP c A λB d=>(cond (!B) (K 0 2 d) (fM d (a.add 0) λC=>fM d (a.add 1) λD=>fM d (a.add 2) λE=>fM d (a.add 3) λF=>ou c C D E F d λ _ G g=>fM g ((a.add 4).add 0) λH=>fM g ((a.add 4).add 1) λI=>fM g ((a.add 4).add 2) λJ=>oq c H I J g λ _ L q=>let r:Bool->Prop:=λM=>((cond M (K 0 9 q) (zK c q λh N b=>(cond (!N) (K 0 7 b) (Pt c λO=>Ld .slice b.drew O λP=>fM b.drew (a.add 0) λQ=>fM b.drew (a.add 1) λR=>fM b.drew (a.add 2) λS=>fM b.drew (a.add 3) λT=>fM b.drew (a.add 4) λU=>fM b.drew (a.add 5) λV=>fM b.drew (a.add 6) λW=>Ld .bool b.drew (a.add 7) λX=>iM P 9 h λY=>iw (afx Q R S T U V W X true) b.drew Y 0 λe=>Pt c λs=>Ld .ptr e.drew (s.add 1) λt=>fM e.drew (a.add 0) λZ=>fM e.drew (a.add 1) λaa=>fM e.drew (a.add 2) λab=>fM e.drew (a.add 3) λac=>ug Z aa ab ac e.drew λad u=>u.cell? (s.add 1)=some (.pointer t)/\
 oC t ad h u λ _ f=>Pt c λv=>Ld .ptr f.drew (v.add 2) λx=>fM f.drew ((a.add 4).add 0) λae=>fM f.drew ((a.add 4).add 1) λaf=>fM f.drew ((a.add 4).add 2) λag=>uh ae af ag f.drew λah y=>y.cell? (v.add 2)=some (.pointer x)/\
 oC x ah h y λ _ z=>Pt c λai=>fM z (ai.add 3) λaj=>Pt c λak=>St z (ak.add 3) (Β (ο.wrap (aj+1))) λal=>K h 0 al)))))
 (cond G (r true) (r L))))):=χ Tryz.func110
theorem U6 {c a w K}:gI (lY c a w K)
 (let b:Bool->b_:=λd e=>(K d e)
 (cond (decide (a>=1)) (cond (decide (a<=4)) (cond (decide (c>=0)) (Bj a w λf g=>b (decide (c<f)) g) (b false w)) (b false w)) (b false w))):=χ Tryz.func111
theorem XL {d b c w K}:gI (jh d b c w K)
 (lK 5 1 1 [(Value.int .u8 0)] ⟨none,0,0⟩ d w λe i=>lY b c i λj f=>(cond (!j) (K e f) (iW (S:=fU×Int×Unit) (λa g k=>(cond (decide (a.2.1>=0)) (Bj a.2.1 g λh l=>h≠0/\
 (256:Int)≠0/\
 Ε l [.int .u8 (IntKind.u8.wrap (Int.tmod (ο.wrap (Int.tdiv b h)) 256))] 5 λm n=>lK 5 1 1 [(Value.int .u8 0)] a.1 ⟨(some m),1,1⟩ n λo p=>k (o,(ο.wrap (a.2.1 - 1)),()) p) (K a.1 g))) (e,(ο.wrap (c - 1)),()) f))):=χ Tryz.func112 (fQ (fQ (fQ (.seq (fQ (.blk (.loop [(7,.slice),(8,ν)] .leaf))) .leaf))))
theorem XO {c w K}:gI (F9 c w K)
 (iW (S:=Int×Int×Unit) (λa e f=>(cond (decide (a.2.1<(c.len:Int))) (iW (S:=Int×Int×Unit) (λb d g=>iM c 1 a.2.1 λh=>Ld .slice d h λi=>(cond (decide (b.2.1<(i.len:Int))) (iM c 1 a.2.1 λj=>Ld .slice d j λk=>Es k b.2.1 d λl m=>g ((ο.wrap (b.1+l)),(ο.wrap (b.2.1+2)),()) m) (f (b.1,(ο.wrap (a.2.1+1)),()) d))) (a.1,0,()) e) (Et a.1 e λn o=>K n o))) (0,0,()) w):=χ Tryz.func113 (fQ (fQ (.seq (fQ (.blk (.loop [(3,ν),(4,ν)] (fQ (.seq (.blk (fQ (.blk (.loop [(3,ν),(5,ν)] .leaf)))) .leaf))))) .leaf)))
theorem XP {b a w K}:gI (uU b a w K)
 (a≠0/\
 a≠0/\
 K (Int.tmod (ο.wrap ((Int.tmod b a)+a)) a) w):=χ Tryz.func114
theorem Ti {a w K}:gI (xA a w K)
 (let b:Bool->Prop:=λc=>(K c w)
 (cond (decide (a>=0)) (b (decide (a<4294967296))) (b false))):=χ Tryz.func115
theorem U9 {a b c d e f g h i j k w K}:gI (yR a b c d e f g h i j k w K)
 (Ε w (gu a b c d e f g h i j k) 43 λm l=>Ld .slice l (m.add 9) λn=>K (ο.wrap (20+(n.len:Int))) l):=χ Tryz.func116
theorem acG {c d e w K}:gI (tC c d e w K)
 (Ba c d e w λf g h=>iW (S:=Int×Int×Unit) (λa b i=>(cond (decide (a.2.1<(f.len:Int))) (iM f 1 a.2.1 λj=>Ld (.int .u8) b j λk=>0<=(8:Int)/\
 i ((Ql .i64 (FU .i64 a.1 8) (ο.wrap k)),(ο.wrap (a.2.1+1)),()) b) (K a.1 g b))) (0,0,()) h):=χ Tryz.func117 (fQ (fQ (fQ (.seq (fQ (.blk (.loop [(10,ν),(22,ν)] .leaf))) .leaf))))
theorem G9 {a b w K}:gI (sJ a b w K)
 (let c:Bool->Prop:=λd=>(K d w)
 (cond (!(Option.isNone a)) (cond (decide (b>=0)) (Pt a λe=>Ld .slice w e λf=>c (decide (b<(f.len:Int)))) (c false)) (c false))):=χ Tryz.func118
theorem ZC {i j k l m n o p q r s w K}:gI (Kw i j k l m n o p q r s w K)
 (Ε w (gu i j k l m n o p q r s) 43 λd t=>ig t d λz A B C D E F G H I J=>qO z A B C D E F G H I J t λu f=>(cond (u !=0) (K ⟨none,0,0⟩ u f) (ig f d λL M N O P Q R T U V W=>Gq L M N O P Q R T U V W f λv X=>iW (S:=fU×Int×Unit) (λb c Y=>(cond (decide (b.2.1<(v.len:Int))) (iM v 2 b.2.1 λx=>fM c (x.add 0) λZ=>fM c (x.add 1) λaa=>Ε c aaG 369 λg ab=>iw [Β Z,Β aa] ab g 0 λh=>fM h g λac=>fM h (g.add 1) λad=>lG b.1 ac ad h λae af=>Y (ae,(ο.wrap (b.2.1+1)),()) af) (Ld .slice c (d.add 9) λag=>lK 5 1 1 [(Value.int .u8 0)] b.1 ag c λe ah=>Ε ah [Δ e] 23 λai aj=>Dl ⟨(some ai),1,1⟩ aj λak al=>vH e 10 ak 2 al λam _ y=>Ld .slice y (d.add 10) λan=>lK 5 1 1 [(Value.int .u8 0)] am an y λao ap=>K ao 0 ap))) (⟨none,0,0⟩,0,()) X))):=χ Tryz.func128 (fQ (fQ (fQ (.seq (fQ (.blk (.loop [(5,.slice),(16,ν)] .leaf))) .leaf))))
theorem DK {b a w K}:gI (lX b a w K)
 (let c:Bool->Prop:=λd=>(K d w)
 (cond (decide (a>=0)) (Pt b λe=>Ld .slice w ((e.add 5).add 16) λf=>c (decide (a<(f.len:Int)))) (c false))):=χ Tryz.func129
theorem UW {b c d e f g h i j k l w K}:gI (yQ b c d e f g h i j k l w K)
 (Ε w (gu b c d e f g h i j k l) 43 λm n=>let o:Bool->b_:=λp q=>(K p q)
 ig n m λr s t u v x y z A B C=>qO r s t u v x y z A B C n λD a=>(cond (D==0) (ig a m λE F G H I J L M N O P=>Ag E F G H I J L M N O P a λQ R=>o Q R) (o false a))):=χ Tryz.func130
theorem UU {n o p q r s t u v x y w K}:gI (yO n o p q r s t u v x y w K)
 (Ε w (gu n o p q r s t u v x y) 43 λz B=>Ε B abO 142 λd h=>fM h (z.add 4) λC=>(cond (C !=1) (iw abO h d 0 λf=>fM f (d.add 0) λD=>fM f (d.add 1) λE=>fM f (d.add 2) λF=>Ld .slice f (d.add 3) λG=>K D E F G false f) (Ld .slice h (z.add 10) λH=>yL H h λI J L m M N=>Ε N abO 142 λb O=>iw [Β I,Β J,Β L,Δ m] O b 0 λe=>let A:Bool->b_:=λP g=>(fM g (d.add 0) λQ=>fM g (d.add 1) λR=>fM g (d.add 2) λS=>Ld .slice g (d.add 3) λT=>K Q R S T P g)
 fM e.drew (b.add 0) λi=>fM e.drew (b.add 1) λj=>fM e.drew (b.add 2) λk=>Ld .slice e.drew (b.add 3) λc=>(cond (M==0) (fM e.drew b λU=>Ef U e.drew λV l=>Cj l b i j<|Ci l b 2 k<|Cs l b 3 (Δ c)<|iw [Β i,Β j,Β k,Δ c] l d 0 λW=>A V W) (e.drew.cell? (b.add 0)=some (Β i)/\
 e.drew.cell? (b.add 1)=some (Β j)/\
 e.drew.cell? (b.add 2)=some (Β k)/\
 e.drew.cell? (b.add 3)=some (Δ c)/\
 iw [Β i,Β j,Β k,Δ c] e.drew d 0 λX=>A false X))))):=χ Tryz.func131
theorem DJ {i l m n o p q r s t u v x y z A f w K}:gI (pq i l m n o p q r s t u v x y z A f w K)
 (Ε w (gu m n o p q r s t u v x) 43 λg I=>Ε I [Β y,Β z,Β A,Δ f] 142 λe J=>Ε J ξ 43 λc B=>Ld .slice B (e.add 3) λL=>tK L B λM N O P Q R S T U V W X Y Z aa ab=>Ε ab ξ 43 λC ac=>Ε ac abH 261 λj ad=>iw (gu M N O P Q R S T U V W) ad C 0 λae=>iw [Β X,Β Y,Β Z] ae j 0 λd=>(cond (aa !=0) (iw ξ d c 0 λD=>ig D c λaf ag ah ai aj ak al am an ao ap=>K af ag ah ai aj ak al am an ao ap 1 D) (Pt i λaq=>Ld .ptr d.drew (aq.add 2) λar=>fM d.drew j λau=>fM d.drew (C.add 6) λav=>fM d.drew (j.add 2) λaw=>ou ar l au av aw d.drew λax ay k=>(cond (!ay) (iw ξ k c 0 λE=>ig E c λaz aA aB aC aD aE aF aG aH aI aJ=>K az aA aB aC aD aE aF aG aH aI aJ 9 E) (Pt i λaK=>Ld .ptr k (aK.add 2) λaL=>nI aL ax k λaM aN aO aP aQ aR aS aT _ aU=>Ε aU ac4 58 λh aV=>iw [Β aM,Β aN,Β aO,Β aP,Β aQ,Β aR,Β aS,.bool aT] aV h 0 λb=>ig b g λaW aX aY aZ a2 a3 a4 a5 a7 a9 ba=>fM b (e.add 0) λbb=>fM b (e.add 1) λbc=>fM b (e.add 2) λbd=>Ld .slice b (e.add 3) λbe=>fM b ((h.add 4).add 1) λbf=>fM b ((h.add 4).add 2) λbg=>Bg aW aX aY aZ a2 a3 a4 a5 a7 a9 ba bb bc bd be false bf bg b λbh bi bj bk bl bm bn bo bp bq br bs=>iw (gu bh bi bj bk bl bm bn bo bp bq br) bs g 0 λF=>fM F ((h.add 4).add 1) λbt=>St F (g.add 5) (Β bt) λG=>ig G g λbu bv bw bx bz bA bB bC bD bE bF=>iw (gu bu bv bw bx bz bA bB bC bD bE bF) G c 0 λH=>ig H c λbG bH bI bJ bK bL bM bN bO bP bQ=>K bG bH bI bJ bK bL bM bN bO bP bQ 0 H))))):=χ Tryz.func132
theorem Zv {d e f g h i j k l m n w K}:gI (En d e f g h i j k l m n w K)
 (Ε w (gu d e f g h i j k l m n) 43 λr s=>Ε s abH 261 λa o=>ig o r λt u v x y z A B C D E=>qL t u v x y z A B C D E o λF p q=>(cond (p !=0) (iw abH q a 0 λb=>fM b (a.add 0) λG=>fM b (a.add 1) λH=>fM b (a.add 2) λI=>K G H I p b) (JR υ F "goosepond/ports.ports" [] [.agg [ν,ν,ν]] q λJ L M N=>iw [Β J,Β L,Β M] N a 0 λc=>fM c (a.add 0) λO=>fM c (a.add 1) λP=>fM c (a.add 2) λQ=>K O P Q 0 c))):=χ Tryz.func133
theorem Zt {a w K}:gI (Ej a w K)
 ((cond (a==8) (K 4 w) (K 1 w))):=χ Tryz.func134
theorem He {n r s t u v x y z A B C D E F G H I w K}:gI (jQ n r s t u v x y z A B C D E F G H I w K)
 (Ε w [Β r,Β s,Β t,Β u] 54 λd R=>Ε R [Β v,Β x] 193 λJ S=>Ε S (gu y z A B C D E F G H I) 43 λL T=>Ε T abQ 265 λa q=>fM q (J.add 0) λU=>fM q (J.add 1) λV=>Ε q abQ 265 λb W=>iw [Β 0,.bool false,Β 0,.bool false,Β 0,Β U,Β V] W b 0 λm=>Pt n λX=>Ld .ptr m.drew (X.add 2) λY=>fM m.drew (d.add 0) λZ=>fM m.drew (d.add 1) λaa=>fM m.drew (d.add 2) λab=>fM m.drew (d.add 3) λac=>ou Y Z aa ab ac m.drew λad ae af=>St af b (Β ad) λag=>St ag (b.add 1) (.bool ae) λe=>fM e (b.add 0) λah=>Ld .bool e (b.add 1) λai=>fM e (b.add 2) λaj=>Ld .bool e (b.add 3) λak=>fM e (b.add 4) λal=>fM e (b.add 5) λam=>fM e (b.add 6) λan=>pz n ah ai aj ak al am an e λao ap aq ar au av aw ax=>iw [Β ao,.bool ap,Β aq,.bool ar,Β au,Β av,Β aw] ax b 0 λc=>fM c (b.add 0) λay=>Ld .bool c (b.add 1) λaz=>fM c (b.add 2) λaA=>Ld .bool c (b.add 3) λaB=>fM c (b.add 4) λaC=>fM c (b.add 5) λaD=>fM c (b.add 6) λaE=>ig c L λaF aG aH aI aJ aK aL aM aN aO aP=>Bf ay az aA aB aC aD aE aF aG aH aI aJ aK aL aM aN aO aP true c λaQ aR o=>(cond (!aR) (iw abQ o a 0 λf=>fM f (a.add 0) λaS=>Ld .bool f (a.add 1) λaT=>fM f (a.add 2) λaU=>Ld .bool f (a.add 3) λaV=>fM f (a.add 4) λaW=>fM f (a.add 5) λaX=>fM f (a.add 6) λaY=>K aS aT aU aV aW aX aY (Value.iface 271 (Β 8)) f) (let M:Bool->b_:=λaZ p=>((cond aZ (iw abQ p a 0 λg=>fM g (a.add 0) λa1=>Ld .bool g (a.add 1) λa2=>fM g (a.add 2) λa3=>Ld .bool g (a.add 3) λa4=>fM g (a.add 4) λa5=>fM g (a.add 5) λa7=>fM g (a.add 6) λa9=>K a1 a2 a3 a4 a5 a7 a9 (Value.iface 271 (Β 9)) g) (let N:Bool->b_:=λba h=>((cond ba (iw abQ h a 0 λi=>fM i (a.add 0) λbb=>Ld .bool i (a.add 1) λbc=>fM i (a.add 2) λbd=>Ld .bool i (a.add 3) λbe=>fM i (a.add 4) λbf=>fM i (a.add 5) λbg=>fM i (a.add 6) λbh=>K bb bc bd be bf bg bh (Value.iface 271 (Β 6)) i) (let O:b_:=λbi=>(St bi (b.add 4) (Β aQ) λj=>fM j (b.add 0) λbj=>Ld .bool j (b.add 1) λbk=>fM j (b.add 2) λbl=>Ld .bool j (b.add 3) λbm=>fM j (b.add 4) λbn=>fM j (b.add 5) λbo=>fM j (b.add 6) λbp=>iw [Β bj,.bool bk,Β bl,.bool bm,Β bn,Β bo,Β bp] j a 0 λk=>fM k (a.add 0) λbq=>Ld .bool k (a.add 1) λbr=>fM k (a.add 2) λbs=>Ld .bool k (a.add 3) λbt=>fM k (a.add 4) λbu=>fM k (a.add 5) λbv=>fM k (a.add 6) λbw=>K bq br bs bt bu bv bw Value.nilIface k)
 Ld .bool h (b.add 1) λbx=>(cond (!bx) (fM h (d.add 0) λbz=>fM h (d.add 1) λbA=>fM h (d.add 2) λbB=>fM h (d.add 3) λbC=>uF n bz bA bB bC h λbD P Q=>E8 υ .neq 267 P .nilIface λbE=>IfB bE λbF=>(cond bF (iw abQ Q a 0 λl=>fM l (a.add 0) λbG=>Ld .bool l (a.add 1) λbH=>fM l (a.add 2) λbI=>Ld .bool l (a.add 3) λbJ=>fM l (a.add 4) λbK=>fM l (a.add 5) λbL=>fM l (a.add 6) λbM=>K bG bH bI bJ bK bL bM P l) (St Q b (Β bD) λbN=>St bN (b.add 1) (.bool true) λbO=>O bO))) (O h)))))
 Ld .bool p (b.add 3) λbP=>(cond (!bP) (mM n p λbQ bR=>N bQ bR) (N false p)))))
 Ld .bool o (b.add 1) λbS=>(cond (!bS) (ig o L λbT bU bV bW bX bY bZ b0 b1 b2 b3=>z_ bT bU bV bW bX bY bZ b0 b1 b2 b3 o λb4 b5=>M b4 b5) (M false o))))):=χ Tryz.func135
theorem S9 {c d e w K}:gI (tJ c d e w K)
 (Ε w aaG 193 λa g=>let f:Int->Prop:=λh=>(iw [Β d,Β h] g a 0 λb=>fM b (a.add 0) λi=>fM b (a.add 1) λj=>K i j b)
 (cond (c==1) (f 0) (f e))):=χ Tryz.func136
end Go.Proofs
