import Derived.Test.YtnemccmcpllhcaaGreatDoorW3
import Derived.Test.YtnemccmcpllhcaaGreatDoorProg
import Derived.KernelRfl
set_option maxRecDepth 100000
set_option maxHeartbeats 4000000
namespace Go.Proofs
open Gp
abbrev fM:=Ld ν
abbrev fP (T:Type):=Int->Int->Int->Int->Int->Int->Int->Int->T
abbrev fQ (x:Ϩ):Ϩ:= .seq .leaf x
theorem iD:VO Tryz.prog:=VO.aie (by kernel_rfl) (by kernel_rfl)
noncomputable abbrev υ:=Tryz.prog
abbrev ο:=IntKind.i64
theorem Α{n:Int}(h: -9223372036854775808<=n:=by omega)(k:n<=9223372036854775807:=by omega):IntKind.i64.wrap n=n:=wrap_i64 h k
abbrev alL:List Value:=[.int .i64 0,.int .i64 0]
abbrev alM:List Value:=[.int .i64 0,.int .i64 0,.int .i64 0]
abbrev alN:List Value:=[.int .i64 0,.int .i64 0,.int .i64 0,.slice none 0 0]
abbrev alO:List Value:=[.int .i64 0,.bool false,.int .i64 0,.bool false,.int .i64 0,.int .i64 0,.int .i64 0]
abbrev alP:List Value:=[.int .i64 0,.int .i64 0,.int .i64 0,.int .i64 0,.int .i64 0,.int .i64 0,.int .i64 0,.bool false]
abbrev alQ:List Value:=[.int .i64 0,.int .i64 0,.int .i64 0,.int .i64 0,.int .i64 0]
abbrev alR:List Value:=[.int .i64 0,.int .i64 0,.bool false,.slice none 0 0]
abbrev alS:List Value:=[.slice none 0 0,.int .i64 0,.int .i64 0]
abbrev alT:List Value:=[.int .i64 0,.int .i64 0,.int .i64 0,.int .i64 0,.int .i64 0,.int .i64 0,.int .i64 0]
abbrev alU:List Value:=[.int .i64 0,.int .i64 0,.int .i64 0,.int .i64 0]
abbrev alV:List Value:=[.int .i64 0,.slice none 0 0,.slice none 0 0]
abbrev alW:List Value:=[.int .i64 0,.int .i64 0,.int .i64 0,.int .i64 0,.int .i64 0,.bool false]
theorem χ{f:FuncId}{k:Func}(h:υ.funcs[f]? =some k){a:List Value}{s:List Shape}{w:World}{K:Q8 (flat s)}{S:Prop}(n:Ϩ:= .leaf)(e:aiU υ k s n a w K=S:=by kernel_rfl):gB (f_ υ f a s w K) S:=okF iD h n e
abbrev adA:List Kind:=(.int .u8)::(.int .u8)::(.int .u8)::(.int .u8)::(.int .u8)::(.int .u8)::(.int .u8)::(.int .u8)::(.int .u8)::(.int .u8)::(.int .u8)::(.int .u8)::(.int .u8)::(.int .u8)::(.int .u8)::(.int .u8):: .slice:: .slice::ν::ν::ν::ν::ν::ν::ν::ν::ν::ν::ν::ν::ν::ν::ν::ν::ν:: .slice::[]
@[reducible] def jo (e f g h i j k l m n o p q r s t:Int) (b c:fU) (u v w x y z A B C D E F G H I J K:Int) (d:fU):List Value:= .int .u8 e:: .int .u8 f:: .int .u8 g:: .int .u8 h:: .int .u8 i:: .int .u8 j:: .int .u8 k:: .int .u8 l:: .int .u8 m:: .int .u8 n:: .int .u8 o:: .int .u8 p:: .int .u8 q:: .int .u8 r:: .int .u8 s:: .int .u8 t:: .slice b.a b.len b.cap:: .slice c.a c.len c.cap:: .int .i64 u:: .int .i64 v:: .int .i64 w:: .int .i64 x:: .int .i64 y:: .int .i64 z:: .int .i64 A:: .int .i64 B:: .int .i64 C:: .int .i64 D:: .int .i64 E:: .int .i64 F:: .int .i64 G:: .int .i64 H:: .int .i64 I:: .int .i64 J:: .int .i64 K:: .slice d.a d.len d.cap::[]
@[reducible] def rO (w:θ) (a:Addr) (K:fP (fP (fU->fU->Int->Int->Int->Int->Int->Int->Int->Int->Int->Int->Int->Int->Int->Int->Int->Int->Int->fU->Prop))):Prop:=Ld (.int .u8) w (a.add 0) λb=>Ld (.int .u8) w (a.add 1) λc=>Ld (.int .u8) w (a.add 2) λd=>Ld (.int .u8) w (a.add 3) λe=>Ld (.int .u8) w (a.add 4) λf=>Ld (.int .u8) w (a.add 5) λg=>Ld (.int .u8) w (a.add 6) λh=>Ld (.int .u8) w (a.add 7) λi=>Ld (.int .u8) w (a.add 8) λj=>Ld (.int .u8) w (a.add 9) λk=>Ld (.int .u8) w (a.add 10) λl=>Ld (.int .u8) w (a.add 11) λm=>Ld (.int .u8) w (a.add 12) λn=>Ld (.int .u8) w (a.add 13) λo=>Ld (.int .u8) w (a.add 14) λp=>Ld (.int .u8) w (a.add 15) λq=>Ld .slice w (a.add 16) λr=>Ld .slice w (a.add 17) λs=>Ld ν w (a.add 18) λt=>Ld ν w (a.add 19) λu=>Ld ν w (a.add 20) λv=>Ld ν w (a.add 21) λx=>Ld ν w (a.add 22) λy=>Ld ν w (a.add 23) λz=>Ld ν w (a.add 24) λA=>Ld ν w (a.add 25) λB=>Ld ν w (a.add 26) λC=>Ld ν w (a.add 27) λD=>Ld ν w (a.add 28) λE=>Ld ν w (a.add 29) λF=>Ld ν w (a.add 30) λG=>Ld ν w (a.add 31) λH=>Ld ν w (a.add 32) λI=>Ld ν w (a.add 33) λJ=>Ld ν w (a.add 34) λL=>Ld .slice w (a.add 35) λM=>K b c d e f g h i j k l m n o p q r s t u v x y z A B C D E F G H I J L M
abbrev vG:List Kind:=ν::ν::ν::ν::ν::ν::ν:: .bool:: .bool:: .slice:: .slice::[]
@[reducible] def gQ (d e f g h i j:Int) (k l:Bool) (b c:fU):List Value:= .int .i64 d:: .int .i64 e:: .int .i64 f:: .int .i64 g:: .int .i64 h:: .int .i64 i:: .int .i64 j:: .bool k:: .bool l:: .slice b.a b.len b.cap:: .slice c.a c.len c.cap::[]
abbrev ξ:List Value:=gQ 0 0 0 0 0 0 0 false false ⟨none,0,0⟩ ⟨none,0,0⟩
@[reducible] def iC (w:θ) (a:Addr) (K:Int->Int->Int->Int->Int->Int->Int->Bool->Bool->fU->fU->Prop):Prop:=Ld ν w (a.add 0) λb=>Ld ν w (a.add 1) λc=>Ld ν w (a.add 2) λd=>Ld ν w (a.add 3) λe=>Ld ν w (a.add 4) λf=>Ld ν w (a.add 5) λg=>Ld ν w (a.add 6) λh=>Ld .bool w (a.add 7) λi=>Ld .bool w (a.add 8) λj=>Ld .slice w (a.add 9) λk=>Ld .slice w (a.add 10) λl=>K b c d e f g h i j k l
@[reducible] def GI (e f g:Int) (b:fU) (h i j k l m n:Int) (o p:Bool) (c d:fU) (q r s t u v w:Int):List Value:= .int .i64 e:: .int .i64 f:: .int .i64 g:: .slice b.a b.len b.cap:: .int .i64 h:: .int .i64 i:: .int .i64 j:: .int .i64 k:: .int .i64 l:: .int .i64 m:: .int .i64 n:: .bool o:: .bool p:: .slice c.a c.len c.cap:: .slice d.a d.len d.cap:: .int .i64 q:: .int .i64 r:: .int .i64 s:: .int .i64 t:: .int .i64 u:: .int .i64 v:: .int .i64 w::[]
@[reducible] def MC (w:θ) (a:Addr) (K:Int->Int->Int->fU->Int->Int->Int->Int->Int->Int->Int->Bool->Bool->fU->fU->Int->Int->Int->Int->Int->Int->Int->Prop):Prop:=Ld ν w (a.add 0) λb=>Ld ν w (a.add 1) λc=>Ld ν w (a.add 2) λd=>Ld .slice w (a.add 3) λe=>Ld ν w (a.add 4) λf=>Ld ν w (a.add 5) λg=>Ld ν w (a.add 6) λh=>Ld ν w (a.add 7) λi=>Ld ν w (a.add 8) λj=>Ld ν w (a.add 9) λk=>Ld ν w (a.add 10) λl=>Ld .bool w (a.add 11) λm=>Ld .bool w (a.add 12) λn=>Ld .slice w (a.add 13) λo=>Ld .slice w (a.add 14) λp=>Ld ν w (a.add 15) λq=>Ld ν w (a.add 16) λr=>Ld ν w (a.add 17) λs=>Ld ν w (a.add 18) λt=>Ld ν w (a.add 19) λu=>Ld ν w (a.add 20) λv=>Ld ν w (a.add 21) λx=>K b c d e f g h i j k l m n o p q r s t u v x
@[reducible] def aiN (e f g h i:fO) (j k l m n o p q r s t u v w x y:Int) (b c:fU) (z A B C D E F G H I J K L M N O P:Int) (d:fU) (Q:Int):List Value:= .pointer e:: .pointer f:: .pointer g:: .pointer h:: .pointer i:: .int .u8 j:: .int .u8 k:: .int .u8 l:: .int .u8 m:: .int .u8 n:: .int .u8 o:: .int .u8 p:: .int .u8 q:: .int .u8 r:: .int .u8 s:: .int .u8 t:: .int .u8 u:: .int .u8 v:: .int .u8 w:: .int .u8 x:: .int .u8 y:: .slice b.a b.len b.cap:: .slice c.a c.len c.cap:: .int .i64 z:: .int .i64 A:: .int .i64 B:: .int .i64 C:: .int .i64 D:: .int .i64 E:: .int .i64 F:: .int .i64 G:: .int .i64 H:: .int .i64 I:: .int .i64 J:: .int .i64 K:: .int .i64 L:: .int .i64 M:: .int .i64 N:: .int .i64 O:: .int .i64 P:: .slice d.a d.len d.cap:: .int .i64 Q::[]
@[reducible] def adL (a b c d e f g:Int) (h i:Bool):List Value:= .int .i64 a:: .int .i64 b:: .int .i64 c:: .int .i64 d:: .int .i64 e:: .int .i64 f:: .int .i64 g:: .bool h:: .bool i::[]
@[reducible] def aju (w:θ) (a:Addr) (K:Int->Int->Int->Int->Int->Int->Int->Bool->Bool->Prop):Prop:=Ld ν w (a.add 0) λb=>Ld ν w (a.add 1) λc=>Ld ν w (a.add 2) λd=>Ld ν w (a.add 3) λe=>Ld ν w (a.add 4) λf=>Ld ν w (a.add 5) λg=>Ld ν w (a.add 6) λh=>Ld .bool w (a.add 7) λi=>Ld .bool w (a.add 8) λj=>K b c d e f g h i j
abbrev Rf:List Kind:=(.int .u8)::(.int .u8)::(.int .u8)::(.int .u8)::(.int .u8)::(.int .u8)::(.int .u8)::(.int .u8)::(.int .u8)::(.int .u8)::(.int .u8)::(.int .u8)::(.int .u8)::(.int .u8)::(.int .u8)::(.int .u8)::[]
@[reducible] def mY (a b c d e f g h i j k l m n o p:Int):List Value:= .int .u8 a:: .int .u8 b:: .int .u8 c:: .int .u8 d:: .int .u8 e:: .int .u8 f:: .int .u8 g:: .int .u8 h:: .int .u8 i:: .int .u8 j:: .int .u8 k:: .int .u8 l:: .int .u8 m:: .int .u8 n:: .int .u8 o:: .int .u8 p::[]
@[reducible] def uH (w:θ) (a:Addr) (K:fP (fP (Prop))):Prop:=Ld (.int .u8) w (a.add 0) λb=>Ld (.int .u8) w (a.add 1) λc=>Ld (.int .u8) w (a.add 2) λd=>Ld (.int .u8) w (a.add 3) λe=>Ld (.int .u8) w (a.add 4) λf=>Ld (.int .u8) w (a.add 5) λg=>Ld (.int .u8) w (a.add 6) λh=>Ld (.int .u8) w (a.add 7) λi=>Ld (.int .u8) w (a.add 8) λj=>Ld (.int .u8) w (a.add 9) λk=>Ld (.int .u8) w (a.add 10) λl=>Ld (.int .u8) w (a.add 11) λm=>Ld (.int .u8) w (a.add 12) λn=>Ld (.int .u8) w (a.add 13) λo=>Ld (.int .u8) w (a.add 14) λp=>Ld (.int .u8) w (a.add 15) λq=>K b c d e f g h i j k l m n o p q
@[reducible] def aiO (a b c d e f g h i j k l m n o p q r s t u v w x y z A B C D E F G H I J K L M N O P Q R S T U V W X Y Z aa ab ac ad ae:Int):List Value:= .int .i64 a:: .int .i64 b:: .int .i64 c:: .int .i64 d:: .int .i64 e:: .int .i64 f:: .int .i64 g:: .int .i64 h:: .int .i64 i:: .int .i64 j:: .int .i64 k:: .int .i64 l:: .int .i64 m:: .int .i64 n:: .int .i64 o:: .int .i64 p:: .int .i64 q:: .int .i64 r:: .int .i64 s:: .int .i64 t:: .int .i64 u:: .int .i64 v:: .int .i64 w:: .int .i64 x:: .int .i64 y:: .int .i64 z:: .int .i64 A:: .int .i64 B:: .int .i64 C:: .int .i64 D:: .int .i64 E:: .int .i64 F:: .int .i64 G:: .int .i64 H:: .int .i64 I:: .int .i64 J:: .int .i64 K:: .int .i64 L:: .int .i64 M:: .int .i64 N:: .int .i64 O:: .int .i64 P:: .int .i64 Q:: .int .i64 R:: .int .i64 S:: .int .i64 T:: .int .i64 U:: .int .i64 V:: .int .i64 W:: .int .i64 X:: .int .i64 Y:: .int .i64 Z:: .int .i64 aa:: .int .i64 ab:: .int .i64 ac:: .int .i64 ad:: .int .i64 ae::[]
abbrev ahe:List Kind:= .slice::ν::ν::ν::ν::ν::ν::ν:: .bool:: .bool:: .slice:: .slice::ν::[]
@[reducible] def nM (b:fU) (e f g h i j k:Int) (l m:Bool) (c d:fU) (n:Int):List Value:= .slice b.a b.len b.cap:: .int .i64 e:: .int .i64 f:: .int .i64 g:: .int .i64 h:: .int .i64 i:: .int .i64 j:: .int .i64 k:: .bool l:: .bool m:: .slice c.a c.len c.cap:: .slice d.a d.len d.cap:: .int .i64 n::[]
@[reducible] def tX (w:θ) (a:Addr) (K:fU->Int->Int->Int->Int->Int->Int->Int->Bool->Bool->fU->fU->Int->Prop):Prop:=Ld .slice w (a.add 0) λb=>Ld ν w (a.add 1) λc=>Ld ν w (a.add 2) λd=>Ld ν w (a.add 3) λe=>Ld ν w (a.add 4) λf=>Ld ν w (a.add 5) λg=>Ld ν w (a.add 6) λh=>Ld ν w (a.add 7) λi=>Ld .bool w (a.add 8) λj=>Ld .bool w (a.add 9) λk=>Ld .slice w (a.add 10) λl=>Ld .slice w (a.add 11) λm=>Ld ν w (a.add 12) λn=>K b c d e f g h i j k l m n
abbrev aiI:List Kind:=ν::ν::ν::ν::ν::ν::ν::ν:: .slice:: .slice::[]
@[reducible] def kX (d e f g h i j k:Int) (b c:fU):List Value:= .int .i64 d:: .int .i64 e:: .int .i64 f:: .int .i64 g:: .int .i64 h:: .int .i64 i:: .int .i64 j:: .int .i64 k:: .slice b.a b.len b.cap:: .slice c.a c.len c.cap::[]
@[reducible] def Af (w:θ) (a:Addr) (K:Int->Int->Int->Int->Int->Int->Int->Int->fU->fU->Prop):Prop:=Ld ν w (a.add 0) λb=>Ld ν w (a.add 1) λc=>Ld ν w (a.add 2) λd=>Ld ν w (a.add 3) λe=>Ld ν w (a.add 4) λf=>Ld ν w (a.add 5) λg=>Ld ν w (a.add 6) λh=>Ld ν w (a.add 7) λi=>Ld .slice w (a.add 8) λj=>Ld .slice w (a.add 9) λk=>K b c d e f g h i j k
@[reducible] def Ci (w:θ) (a:Addr) (n:Nat) (x:Int):Prop:=w.cell? (a.add n)=some (.int .i64 x)
@[reducible] def Cs (w:θ) (a:Addr) (n:Nat) (x:fU):Prop:=w.cell? (a.add n)=some (.slice x.a x.len x.cap)
theorem cmS0 {f:FuncId} {vs:List Value} {w:θ} {K K':Bool->b_}:f_ υ f vs [.one .bool] w K->(∀x0 w,K x0 w->K' x0 w)->f_ υ f vs [.one .bool] w K':=f_.mono
theorem cmS1 {f:FuncId} {vs:List Value} {w:θ} {K K':Int->b_}:f_ υ f vs [.one ν] w K->(∀x0 w,K x0 w->K' x0 w)->f_ υ f vs [.one ν] w K':=f_.mono
theorem cmS2 {f:FuncId} {vs:List Value} {w:θ} {K K':fU->b_}:f_ υ f vs [.one .slice] w K->(∀x0 w,K x0 w->K' x0 w)->f_ υ f vs [.one .slice] w K':=f_.mono
theorem cmS3 {f:FuncId} {vs:List Value} {w:θ} {K K':Int->Bool->b_}:f_ υ f vs [.one ν,.one .bool] w K->(∀x0 x1 w,K x0 x1 w->K' x0 x1 w)->f_ υ f vs [.one ν,.one .bool] w K':=f_.mono
theorem cmS4 {f:FuncId} {vs:List Value} {w:θ} {K K':b_}:f_ υ f vs [] w K->(∀w,K w->K' w)->f_ υ f vs [] w K':=f_.mono
theorem cmS5 {f:FuncId} {vs:List Value} {w:θ} {K K':Value->b_}:f_ υ f vs [.one .any] w K->(∀x0 w,K x0 w->K' x0 w)->f_ υ f vs [.one .any] w K':=f_.mono
theorem cmS6 {f:FuncId} {vs:List Value} {w:θ} {K K':(fO)->Int->b_}:f_ υ f vs [.one .ptr,.one ν] w K->(∀x0 x1 w,K x0 x1 w->K' x0 x1 w)->f_ υ f vs [.one .ptr,.one ν] w K':=f_.mono
theorem cmS7 {f:FuncId} {vs:List Value} {w:θ} {K K':fU->Int->b_}:f_ υ f vs [.one .slice,.one ν] w K->(∀x0 x1 w,K x0 x1 w->K' x0 x1 w)->f_ υ f vs [.one .slice,.one ν] w K':=f_.mono
theorem cmS8 {f:FuncId} {vs:List Value} {w:θ} {K K':Int->Int->b_}:f_ υ f vs [.one ν,.one ν] w K->(∀x0 x1 w,K x0 x1 w->K' x0 x1 w)->f_ υ f vs [.one ν,.one ν] w K':=f_.mono
theorem cmS9 {f:FuncId} {vs:List Value} {w:θ} {K K':ByteArray->b_}:f_ υ f vs [.one .str] w K->(∀x0 w,K x0 w->K' x0 w)->f_ υ f vs [.one .str] w K':=f_.mono
theorem cmS10 {f:FuncId} {vs:List Value} {w:θ} {K K':Int->Int->Int->Int->b_}:f_ υ f vs [.agg [ν,ν,ν],.one ν] w K->(∀x0 x1 x2 x3 w,K x0 x1 x2 x3 w->K' x0 x1 x2 x3 w)->f_ υ f vs [.agg [ν,ν,ν],.one ν] w K':=f_.mono
theorem cmS11 {f:FuncId} {vs:List Value} {w:θ} {K K':Int->Int->Int->Int->Int->Int->Int->Bool->Bool->fU->fU->Int->b_}:f_ υ f vs [.agg vG,.one ν] w K->(∀x0 x1 x2 x3 x4 x5 x6 x7 x8 x9 h u w,K x0 x1 x2 x3 x4 x5 x6 x7 x8 x9 h u w->K' x0 x1 x2 x3 x4 x5 x6 x7 x8 x9 h u w)->f_ υ f vs [.agg vG,.one ν] w K':=f_.mono
theorem cmS12 {f:FuncId} {vs:List Value} {w:θ} {K K':Int->Int->Int->Int->Int->Int->Int->Bool->Bool->fU->fU->b_}:f_ υ f vs [.agg vG] w K->(∀x0 x1 x2 x3 x4 x5 x6 x7 x8 x9 h w,K x0 x1 x2 x3 x4 x5 x6 x7 x8 x9 h w->K' x0 x1 x2 x3 x4 x5 x6 x7 x8 x9 h w)->f_ υ f vs [.agg vG] w K':=f_.mono
theorem cmS13 {f:FuncId} {vs:List Value} {w:θ} {K K':Int->Int->b_}:f_ υ f vs [.agg [ν,ν]] w K->(∀x0 x1 w,K x0 x1 w->K' x0 x1 w)->f_ υ f vs [.agg [ν,ν]] w K':=f_.mono
theorem cmS14 {f:FuncId} {vs:List Value} {w:θ} {K K':Int->Int->Int->Int->Int->Int->Int->Bool->Bool->b_}:f_ υ f vs [.agg [ν,ν,ν,ν,ν,ν,ν,.bool],.one .bool] w K->(∀x0 x1 x2 x3 x4 x5 x6 x7 x8 w,K x0 x1 x2 x3 x4 x5 x6 x7 x8 w->K' x0 x1 x2 x3 x4 x5 x6 x7 x8 w)->f_ υ f vs [.agg [ν,ν,ν,ν,ν,ν,ν,.bool],.one .bool] w K':=f_.mono
theorem cmS15 {f:FuncId} {vs:List Value} {w:θ} {K K':Int->Int->Int->Int->Int->Bool->b_}:f_ υ f vs [.agg [ν,ν,ν,ν,ν],.one .bool] w K->(∀x0 x1 x2 x3 x4 x5 w,K x0 x1 x2 x3 x4 x5 w->K' x0 x1 x2 x3 x4 x5 w)->f_ υ f vs [.agg [ν,ν,ν,ν,ν],.one .bool] w K':=f_.mono
theorem cmS16 {f:FuncId} {vs:List Value} {w:θ} {K K':Int->Int->Int->b_}:f_ υ f vs [.agg [ν,ν,ν]] w K->(∀x0 x1 x2 w,K x0 x1 x2 w->K' x0 x1 x2 w)->f_ υ f vs [.agg [ν,ν,ν]] w K':=f_.mono
theorem cmS17 {f:FuncId} {vs:List Value} {w:θ} {K K':(fO)->b_}:f_ υ f vs [.one .ptr] w K->(∀x0 w,K x0 w->K' x0 w)->f_ υ f vs [.one .ptr] w K':=f_.mono
theorem cmS18 {f:FuncId} {vs:List Value} {w:θ} {K K':fU->Int->Int->Int->b_}:f_ υ f vs [.agg [.slice,ν,ν],.one ν] w K->(∀x0 x1 x2 x3 w,K x0 x1 x2 x3 w->K' x0 x1 x2 x3 w)->f_ υ f vs [.agg [.slice,ν,ν],.one ν] w K':=f_.mono
theorem cmS19 {f:FuncId} {vs:List Value} {w:θ} {K K':Int->fU->fU->b_}:f_ υ f vs [.agg [ν,.slice,.slice]] w K->(∀x0 x1 x2 w,K x0 x1 x2 w->K' x0 x1 x2 w)->f_ υ f vs [.agg [ν,.slice,.slice]] w K':=f_.mono
theorem cmS20 {f:FuncId} {vs:List Value} {w:θ} {K K':fP (fP (fU->fU->Int->Int->Int->Int->Int->Int->Int->Int->Int->Int->Int->Int->Int->Int->Int->Int->Int->fU->b_))}:f_ υ f vs [.agg adA] w K->(∀x0 x1 x2 x3 x4 x5 x6 x7 x8 x9 h u I J N O R U Y Z aa ab ac ae af ag ah ai aj ak am an ao aq ar au w,K x0 x1 x2 x3 x4 x5 x6 x7 x8 x9 h u I J N O R U Y Z aa ab ac ae af ag ah ai aj ak am an ao aq ar au w->K' x0 x1 x2 x3 x4 x5 x6 x7 x8 x9 h u I J N O R U Y Z aa ab ac ae af ag ah ai aj ak am an ao aq ar au w)->f_ υ f vs [.agg adA] w K':=f_.mono
theorem cmS21 {f:FuncId} {vs:List Value} {w:θ} {K K':fP (fP (b_))}:f_ υ f vs [.agg Rf] w K->(∀x0 x1 x2 x3 x4 x5 x6 x7 x8 x9 h u I J N O w,K x0 x1 x2 x3 x4 x5 x6 x7 x8 x9 h u I J N O w->K' x0 x1 x2 x3 x4 x5 x6 x7 x8 x9 h u I J N O w)->f_ υ f vs [.agg Rf] w K':=f_.mono
def BM (c d e f g h i j k l m n o p q r:Int) (s t:fU) (u v x y z A B C D E F G H I J L M:Int) (N b:fU) (O:Int) (w:θ) (K:Bool->b_):Prop:=
 f_ υ 3 [.agg ⟨jo c d e f g h i j k l m n o p q r s t u v x y z A B C D E F G H I J L M N⟩,.slice b.a b.len b.cap,.int .u16 O] [.one .bool] w K
def CX (a b c d e f g h i j k l m n o p:Int) (q r:fU) (s t u v x y z A B C D E F G H I J:Int) (L:fU) (w:θ) (K:Bool->b_):Prop:=
 f_ υ 4 [.agg ⟨jo a b c d e f g h i j k l m n o p q r s t u v x y z A B C D E F G H I J L⟩] [.one .bool] w K
def GR (b:fU) (w:θ) (K:Bool->b_):Prop:=
 f_ υ 5 [.slice b.a b.len b.cap] [.one .bool] w K
def jY (w:θ) (K:Bool->b_):Prop:=
 f_ υ 6 [] [.one .bool] w K
def EC (a b c d e f g h i j k l m n o p:Int) (q r:fU) (s t u v x y z A B C D E F G H I J:Int) (L:fU) (w:θ) (K:(fO)->Int->b_):Prop:=
 f_ υ 7 [.agg ⟨jo a b c d e f g h i j k l m n o p q r s t u v x y z A B C D E F G H I J L⟩] [.one .ptr,.one ν] w K
def jJ (a:fO) (b c d e f g h i:Int) (j k:Bool) (l m:fU) (w:θ) (K:Int->Int->Int->Int->Int->Int->Int->Bool->Bool->fU->fU->Int->b_):Prop:=
 f_ υ 8 [.pointer a,.int .i64 b,.agg ⟨gQ c d e f g h i j k l m⟩] [.agg vG,.one ν] w K
def kL (b:fU) (w:θ) (K:Int->Int->Int->Int->Int->Int->Int->Bool->Bool->fU->fU->b_):Prop:=
 f_ υ 9 [.slice b.a b.len b.cap] [.agg vG] w K
def jP (c d e f g:Int) (b:fU) (w:θ) (K:fU->b_):Prop:=
 f_ υ 10 [.int .i64 c,.int .i64 d,.int .i64 e,.int .i64 f,.int .i64 g,.slice b.a b.len b.cap] [.one .slice] w K
def sN (a b c:Int) (d:fU) (e f g h i j k:Int) (l m:Bool) (n o:fU) (p q r s t u v:Int) (w:θ) (K:Int->Int->Int->Int->Int->Int->Int->Bool->Bool->fU->fU->b_):Prop:=
 f_ υ 11 [.agg ⟨GI a b c d e f g h i j k l m n o p q r s t u v⟩] [.agg vG] w K
def nI (a:fO) (b:Int) (w:θ) (K:Int->b_):Prop:=
 f_ υ 12 [.pointer a,.int .i64 b] [.one ν] w K
def lC (b c:fU) (w:θ) (K:Bool->b_):Prop:=
 f_ υ 13 [.slice b.a b.len b.cap,.slice c.a c.len c.cap] [.one .bool] w K
def CY (a b c d e f g h i j k l m n o p:Int) (q r:fU) (s t u v x y z A B C D E F G H I J:Int) (L:fU) (w:θ) (K:Bool->b_):Prop:=
 f_ υ 14 [.agg ⟨jo a b c d e f g h i j k l m n o p q r s t u v x y z A B C D E F G H I J L⟩] [.one .bool] w K
def Di (a b c d e f g h i j k l m n o p:Int) (q r:fU) (s t u v x y z A B C D E F G H I J:Int) (L:fU) (w:θ) (K:Int->b_):Prop:=
 f_ υ 15 [.agg ⟨jo a b c d e f g h i j k l m n o p q r s t u v x y z A B C D E F G H I J L⟩] [.one ν] w K
def Aj (a b c d e f g h i j k l m n o p:Int) (q r:fU) (s t u v x y z A B C D E F G H I J:Int) (L:fU) (w:θ) (K:Int->b_):Prop:=
 f_ υ 18 [.agg ⟨jo a b c d e f g h i j k l m n o p q r s t u v x y z A B C D E F G H I J L⟩] [.one ν] w K
def KW (b:fU) (c d:Int) (w:θ) (K:(fO)->Int->b_):Prop:=
 f_ υ 19 [.slice b.a b.len b.cap,.int .i64 c,.int .i64 d] [.one .ptr,.one ν] w K
def GY (a b:Int) (w:θ) (K:(fO)->Int->b_):Prop:=
 f_ υ 20 [.int .i64 a,.int .i64 b] [.one .ptr,.one ν] w K
def KT (a:Int) (w:θ) (K:(fO)->Int->b_):Prop:=
 f_ υ 21 [.int .i64 a] [.one .ptr,.one ν] w K
def Dl (a:Int) (w:θ) (K:(fO)->Int->b_):Prop:=
 f_ υ 22 [.int .i64 a] [.one .ptr,.one ν] w K
def Hl (a:Int) (w:θ) (K:(fO)->Int->b_):Prop:=
 f_ υ 23 [.int .i64 a] [.one .ptr,.one ν] w K
def vW (a:fO) (b c d e f g h:Int) (w:θ) (K:Int->b_):Prop:=
 f_ υ 24 [.pointer a,(.agg ⟨[.int .i64 b,.int .i64 c,.int .i64 d,.int .i64 e,.int .i64 f,.int .i64 g,.int .i64 h]⟩)] [.one ν] w K
def kR (a:fO) (w:θ) (K:Bool->b_):Prop:=
 f_ υ 25 [.pointer a] [.one .bool] w K
def mG (a:fO) (b:Int) (w:θ) (K:Bool->b_):Prop:=
 f_ υ 26 [.pointer a,.int .i64 b] [.one .bool] w K
def zD (a b c d e f g:Int) (h i:Bool) (j k:fU) (w:θ) (K:Bool->b_):Prop:=
 f_ υ 27 [.agg ⟨gQ a b c d e f g h i j k⟩] [.one .bool] w K
def zC (a b c d e f g:Int) (h i:Bool) (j k:fU) (w:θ) (K:Int->Int->Int->fU->Bool->b_):Prop:=
 f_ υ 28 [.agg ⟨gQ a b c d e f g h i j k⟩] [.agg [ν,ν,ν,.slice],.one .bool] w K
def pX (c:fO) (d e f g h i j k:Int) (l m:Bool) (n o:fU) (p q r:Int) (b:fU) (w:θ) (K:Int->Int->Int->Int->Int->Int->Int->Bool->Bool->fU->fU->Int->b_):Prop:=
 f_ υ 29 [.pointer c,.int .i64 d,.agg ⟨gQ e f g h i j k l m n o⟩,(.agg ⟨[.int .i64 p,.int .i64 q,.int .i64 r,.slice b.a b.len b.cap]⟩)] [.agg vG,.one ν] w K
def EG (a b c d e f g:Int) (h i:Bool) (j k:fU) (w:θ) (K:Int->Int->Int->Int->b_):Prop:=
 f_ υ 30 [.agg ⟨gQ a b c d e f g h i j k⟩] [.agg [ν,ν,ν],.one ν] w K
def ED (a:Int) (w:θ) (K:Int->b_):Prop:=
 f_ υ 31 [.int .i64 a] [.one ν] w K
def jS (a:fO) (b c d e f g h i j k l m n:Int) (o p:Bool) (q r:fU) (w:θ) (K:Int->Bool->Int->Bool->Int->Int->Int->Value->b_):Prop:=
 f_ υ 32 [.pointer a,(.agg ⟨[.int .i64 b,.int .i64 c,.int .i64 d,.int .i64 e]⟩),(.agg ⟨[.int .i64 f,.int .i64 g]⟩),.agg ⟨gQ h i j k l m n o p q r⟩] [.agg [ν,.bool,ν,.bool,ν,ν,ν],.one .any] w K
def uI (a b c:Int) (w:θ) (K:Int->Int->b_):Prop:=
 f_ υ 33 [.int .i64 a,.int .i64 b,.int .i64 c] [.agg [ν,ν]] w K
def GL (a b:Value) (w:θ) (K:Bool->b_):Prop:=
 f_ υ 34 [a,b] [.one .bool] w K
def ni (a:fO) (b:Int) (c:Bool) (d:Int) (e:Bool) (f g h i j:Int) (w:θ) (K:b_):Prop:=
 f_ υ 35 [.pointer a,(.agg ⟨[.int .i64 b,.bool c,.int .i64 d,.bool e,.int .i64 f,.int .i64 g,.int .i64 h]⟩),.int .i64 i,.int .i64 j] [] w K
def mV (a:fO) (b:Int) (w:θ) (K:Int->Int->Int->Int->Int->Int->Int->Bool->Bool->b_):Prop:=
 f_ υ 36 [.pointer a,.int .i64 b] [.agg [ν,ν,ν,ν,ν,ν,ν,.bool],.one .bool] w K
def EF (a b c d e f g:Int) (h i:Bool) (j k:fU) (l m:Int) (w:θ) (K:Int->Int->Int->Int->Int->Int->Int->Bool->Bool->fU->fU->Int->b_):Prop:=
 f_ υ 37 [.agg ⟨gQ a b c d e f g h i j k⟩,.int .i64 l,.int .i64 m] [.agg vG,.one ν] w K
def xO (b:fU) (w:θ) (K:Int->Int->Int->Int->Int->Int->Int->Bool->Bool->fU->fU->Int->b_):Prop:=
 f_ υ 38 [.slice b.a b.len b.cap] [.agg vG,.one ν] w K
def Df (c d e f:Int) (g:Bool) (b:fU) (w:θ) (K:fU->Int->b_):Prop:=
 f_ υ 39 [.int .i64 c,.int .i64 d,(.agg ⟨[.int .i64 e,.int .i64 f,.bool g,.slice b.a b.len b.cap]⟩)] [.one .slice,.one ν] w K
def Dc (a b c d e f g:Int) (h i:Bool) (j k:fU) (w:θ) (K:fU->Int->b_):Prop:=
 f_ υ 40 [.agg ⟨gQ a b c d e f g h i j k⟩] [.one .slice,.one ν] w K
def qV (a:fO) (b:Int) (w:θ) (K:fU->b_):Prop:=
 f_ υ 41 [.pointer a,.int .i64 b] [.one .slice] w K
def lY (a:fO) (b:Int) (w:θ) (K:Int->Int->Int->Int->Int->Bool->b_):Prop:=
 f_ υ 42 [.pointer a,.int .i64 b] [.agg [ν,ν,ν,ν,ν],.one .bool] w K
def qj (a:fO) (b:Int) (w:θ) (K:Bool->b_):Prop:=
 f_ υ 43 [.pointer a,.int .i64 b] [.one .bool] w K
def rV (a:fO) (b:Int) (w:θ) (K:Bool->b_):Prop:=
 f_ υ 44 [.pointer a,.int .i64 b] [.one .bool] w K
def qQ (a:fO) (b:Int) (w:θ) (K:b_):Prop:=
 f_ υ 45 [.pointer a,.int .i64 b] [] w K
def yO (a b c d e f g h i j k l m n o p:Int) (q r:fU) (s t u v x y z A B C D E F G H I J:Int) (L:fU) (w:θ) (K:Bool->b_):Prop:=
 f_ υ 46 [.agg ⟨jo a b c d e f g h i j k l m n o p q r s t u v x y z A B C D E F G H I J L⟩] [.one .bool] w K
def Dj (a b c d e f g h i j k l m n o p:Int) (q r:fU) (s t u v x y z A B C D E F G H I J:Int) (L:fU) (w:θ) (K:Bool->b_):Prop:=
 f_ υ 47 [.agg ⟨jo a b c d e f g h i j k l m n o p q r s t u v x y z A B C D E F G H I J L⟩] [.one .bool] w K
def Dk (a b c d e f g h i j k l m n o p:Int) (q r:fU) (s t u v x y z A B C D E F G H I J:Int) (L:fU) (w:θ) (K:Bool->b_):Prop:=
 f_ υ 48 [.agg ⟨jo a b c d e f g h i j k l m n o p q r s t u v x y z A B C D E F G H I J L⟩] [.one .bool] w K
def rQ (a:fO) (b c d:Int) (w:θ) (K:Int->Bool->b_):Prop:=
 f_ υ 51 [.pointer a,(.agg ⟨[.int .i64 b,.int .i64 c,.int .i64 d]⟩)] [.one ν,.one .bool] w K
def pY (a:fO) (b:Int) (c:Bool) (d:Int) (e:Bool) (f g h:Int) (w:θ) (K:Int->Bool->Int->Bool->Int->Int->Int->b_):Prop:=
 f_ υ 52 [.pointer a,(.agg ⟨[.int .i64 b,.bool c,.int .i64 d,.bool e,.int .i64 f,.int .i64 g,.int .i64 h]⟩)] [.agg [ν,.bool,ν,.bool,ν,ν,ν]] w K
def yJ (a b c d e f g h i j k l m n o p:Int) (q r:fU) (s t u v x y z A B C D E F G H I J:Int) (L:fU) (w:θ) (K:fU->b_):Prop:=
 f_ υ 57 [.agg ⟨jo a b c d e f g h i j k l m n o p q r s t u v x y z A B C D E F G H I J L⟩] [.one .slice] w K
def kK (a b c:Int) (w:θ) (K:Bool->b_):Prop:=
 f_ υ 58 [(.agg ⟨[.int .i64 a,.int .i64 b,.int .i64 c]⟩)] [.one .bool] w K
def Ar (a:Int) (w:θ) (K:Bool->b_):Prop:=
 f_ υ 59 [.int .i64 a] [.one .bool] w K
def Ap (a b c d e f g h i j k l m n o p:Int) (q r:fU) (s t u v x y z A B C D E F G H I J:Int) (L:fU) (w:θ) (K:Bool->b_):Prop:=
 f_ υ 60 [.agg ⟨jo a b c d e f g h i j k l m n o p q r s t u v x y z A B C D E F G H I J L⟩] [.one .bool] w K
def wV (a b c d e f g h i j k l m n o p:Int) (q r:fU) (s t u v x y z A B C D E F G H I J:Int) (L:fU) (w:θ) (K:Bool->b_):Prop:=
 f_ υ 61 [.agg ⟨jo a b c d e f g h i j k l m n o p q r s t u v x y z A B C D E F G H I J L⟩] [.one .bool] w K
def rU (a:Int) (w:θ) (K:Bool->b_):Prop:=
 f_ υ 62 [.int .i64 a] [.one .bool] w K
def iR (b:fU) (c:Int) (w:θ) (K:Bool->b_):Prop:=
 f_ υ 63 [.slice b.a b.len b.cap,.int .i64 c] [.one .bool] w K
def mM (b:fU) (w:θ) (K:fU->b_):Prop:=
 f_ υ 64 [.slice b.a b.len b.cap] [.one .slice] w K
def Aw (a:Int) (w:θ) (K:(fO)->Int->b_):Prop:=
 f_ υ 65 [.int .i64 a] [.one .ptr,.one ν] w K
def vX (a:fO) (b c d e f g h:Int) (w:θ) (K:Bool->b_):Prop:=
 f_ υ 66 [.pointer a,(.agg ⟨[.int .i64 b,.int .i64 c,.int .i64 d,.int .i64 e,.int .i64 f,.int .i64 g,.int .i64 h]⟩)] [.one .bool] w K
def oQ (a:fO) (b c d e:Int) (w:θ) (K:Int->Bool->b_):Prop:=
 f_ υ 67 [.pointer a,(.agg ⟨[.int .i64 b,.int .i64 c,.int .i64 d,.int .i64 e]⟩)] [.one ν,.one .bool] w K
def oJ (a:fO) (b:Int) (w:θ) (K:Int->b_):Prop:=
 f_ υ 68 [.pointer a,.int .i64 b] [.one ν] w K
def qc (a:fO) (w:θ) (K:Bool->b_):Prop:=
 f_ υ 69 [.pointer a] [.one .bool] w K
def qh (a:fO) (b:Int) (w:θ) (K:Int->b_):Prop:=
 f_ υ 70 [.pointer a,.int .i64 b] [.one ν] w K
def wY (a:fO) (b c d:Int) (w:θ) (K:Int->b_):Prop:=
 f_ υ 71 [.pointer a,(.agg ⟨[.int .i64 b,.int .i64 c,.int .i64 d]⟩)] [.one ν] w K
def xG (a:fO) (b c d e f g h:Int) (i:Bool) (w:θ) (K:Int->Int->b_):Prop:=
 f_ υ 72 [.pointer a,(.agg ⟨[.int .i64 b,.int .i64 c,.int .i64 d,.int .i64 e,.int .i64 f,.int .i64 g,.int .i64 h,.bool i]⟩)] [.one ν,.one ν] w K
def EY (a b c d e f g:Int) (h i:Bool) (j k:fU) (w:θ) (K:Int->b_):Prop:=
 f_ υ 73 [.agg ⟨gQ a b c d e f g h i j k⟩] [.one ν] w K
def EZ (a b c d e f g:Int) (h i:Bool) (j k:fU) (w:θ) (K:Bool->b_):Prop:=
 f_ υ 74 [.agg ⟨gQ a b c d e f g h i j k⟩] [.one .bool] w K
def zA (b:fU) (w:θ) (K:Int->Int->Int->fU->Int->b_):Prop:=
 f_ υ 75 [.slice b.a b.len b.cap] [.agg [ν,ν,ν,.slice],.one ν] w K
def Ey (a:Int) (w:θ) (K:Bool->b_):Prop:=
 f_ υ 76 [.int .i64 a] [.one .bool] w K
def xJ (b:fU) (w:θ) (K:Int->Int->Int->Int->Int->Int->Int->Bool->Bool->fU->fU->Int->Int->Int->Int->b_):Prop:=
 f_ υ 77 [.slice b.a b.len b.cap] [.agg vG,.agg [ν,ν,ν],.one ν] w K
def GV (c d e f g h i:Int) (j k:Bool) (l m:fU) (n o p:Int) (b:fU) (q:Bool) (r s:Int) (w:θ) (K:Int->Int->Int->Int->Int->Int->Int->Bool->Bool->fU->fU->b_):Prop:=
 f_ υ 78 [.agg ⟨gQ c d e f g h i j k l m⟩,(.agg ⟨[.int .i64 n,.int .i64 o,.int .i64 p,.slice b.a b.len b.cap]⟩),.bool q,.int .i64 r,.int .i64 s] [.agg vG] w K
def rY (a b c d e f g:Int) (h i:Bool) (j k:fU) (w:θ) (K:Value->Int->b_):Prop:=
 f_ υ 79 [.agg ⟨gQ a b c d e f g h i j k⟩] [.one .any,.one ν] w K
def BO (a:Int) (b:Bool) (c:Int) (d:Bool) (e f g h i j k l m n:Int) (o p:Bool) (q r:fU) (s:Bool) (w:θ) (K:Int->Bool->b_):Prop:=
 f_ υ 80 [(.agg ⟨[.int .i64 a,.bool b,.int .i64 c,.bool d,.int .i64 e,.int .i64 f,.int .i64 g]⟩),.agg ⟨gQ h i j k l m n o p q r⟩,.bool s] [.one ν,.one .bool] w K
def Az (a b c d e f g:Int) (h i:Bool) (j k:fU) (w:θ) (K:Bool->b_):Prop:=
 f_ υ 81 [.agg ⟨gQ a b c d e f g h i j k⟩] [.one .bool] w K
def nJ (a:fO) (w:θ) (K:Bool->b_):Prop:=
 f_ υ 82 [.pointer a] [.one .bool] w K
def uV (a:fO) (b c d e:Int) (w:θ) (K:Int->Value->b_):Prop:=
 f_ υ 83 [.pointer a,(.agg ⟨[.int .i64 b,.int .i64 c,.int .i64 d,.int .i64 e]⟩)] [.one ν,.one .any] w K
def CU (a b c d e f g h i j k l m n o p:Int) (q r:fU) (s t u v x y z A B C D E F G H I J:Int) (L:fU) (M N:Int) (w:θ) (K:Int->b_):Prop:=
 f_ υ 88 [.agg ⟨jo a b c d e f g h i j k l m n o p q r s t u v x y z A B C D E F G H I J L⟩,.int .i64 M,.int .i64 N] [.one ν] w K
def uo (a:fO) (b c d:Int) (w:θ) (K:Bool->b_):Prop:=
 f_ υ 89 [.pointer a,.int .i64 b,.int .i64 c,.int .i64 d] [.one .bool] w K
def uj (a:fO) (b c d e f:Int) (w:θ) (K:Int->Int->b_):Prop:=
 f_ υ 90 [.pointer a,(.agg ⟨[.int .i64 b,.int .i64 c,.int .i64 d,.int .i64 e,.int .i64 f]⟩)] [.one ν,.one ν] w K
def rC (a:fO) (b c:Int) (w:θ) (K:Int->b_):Prop:=
 f_ υ 91 [.pointer a,.int .i64 b,.int .i64 c] [.one ν] w K
def xH (a:fO) (b:Int) (w:θ) (K:Bool->b_):Prop:=
 f_ υ 92 [.pointer a,.int .i64 b] [.one .bool] w K
def xI (a b c d e f g:Int) (h i:Bool) (j k:fU) (l m n o:Int) (w:θ) (K:Int->Int->Int->Int->Int->Int->Int->Bool->Bool->fU->fU->Int->b_):Prop:=
 f_ υ 93 [.agg ⟨gQ a b c d e f g h i j k⟩,(.agg ⟨[.int .i64 l,.int .i64 m]⟩),(.agg ⟨[.int .i64 n,.int .i64 o]⟩)] [.agg vG,.one ν] w K
def EM (b:fU) (c:Bool) (w:θ) (K:Int->Int->Int->Int->Int->Int->Int->Bool->Bool->fU->fU->Int->b_):Prop:=
 f_ υ 94 [.slice b.a b.len b.cap,.bool c] [.agg vG,.one ν] w K
def Dh (c d:Int) (e:Bool) (b:fU) (w:θ) (K:Int->b_):Prop:=
 f_ υ 95 [(.agg ⟨[.int .i64 c,.int .i64 d,.bool e,.slice b.a b.len b.cap]⟩)] [.one ν] w K
def xP (c d:Int) (e:Bool) (b:fU) (f:Int) (w:θ) (K:fU->b_):Prop:=
 f_ υ 96 [(.agg ⟨[.int .i64 c,.int .i64 d,.bool e,.slice b.a b.len b.cap]⟩),.int .i64 f] [.one .slice] w K
def EL (b:fU) (w:θ) (K:Int->b_):Prop:=
 f_ υ 97 [.slice b.a b.len b.cap] [.one ν] w K
def AL (a b c d:Int) (w:θ) (K:fU->b_):Prop:=
 f_ υ 98 [.int .i64 a,.int .i64 b,.int .i64 c,.int .i64 d] [.one .slice] w K
def xM (a b c d e f g:Int) (h i:Bool) (j k:fU) (w:θ) (K:Int->b_):Prop:=
 f_ υ 99 [.agg ⟨gQ a b c d e f g h i j k⟩] [.one ν] w K
def zI (a b c d e f g:Int) (h i:Bool) (j k:fU) (l m:Int) (w:θ) (K:fU->b_):Prop:=
 f_ υ 100 [.agg ⟨gQ a b c d e f g h i j k⟩,.int .i64 l,.int .i64 m] [.one .slice] w K
def wu (a b c d e f g:Int) (h i:Bool) (j k:fU) (w:θ) (K:Int->b_):Prop:=
 f_ υ 101 [.agg ⟨gQ a b c d e f g h i j k⟩] [.one ν] w K
def oL (a:fO) (w:θ) (K:Bool->b_):Prop:=
 f_ υ 102 [.pointer a] [.one .bool] w K
def vg (a:fO) (w:θ) (K:Int->Bool->b_):Prop:=
 f_ υ 103 [.pointer a] [.one ν,.one .bool] w K
def n_ (a:fO) (b:Int) (w:θ) (K:b_):Prop:=
 f_ υ 104 [.pointer a,.int .i64 b] [] w K
def wz (a:fO) (w:θ) (K:fU->b_):Prop:=
 f_ υ 105 [.pointer a] [.one .slice] w K
def lZ (a:fO) (b:Int) (w:θ) (K:Bool->b_):Prop:=
 f_ υ 106 [.pointer a,.int .i64 b] [.one .bool] w K
def lX (a:fO) (b:ByteArray) (w:θ) (K:Bool->b_):Prop:=
 f_ υ 107 [.pointer a,.string b] [.one .bool] w K
def uK (a b c:Int) (w:θ) (K:ByteArray->b_):Prop:=
 f_ υ 108 [.int .i64 a,(.agg ⟨[.int .i64 b,.int .i64 c]⟩)] [.one .str] w K
def mO (b:fU) (c:Value) (w:θ) (K:fU->b_):Prop:=
 f_ υ 109 [.slice b.a b.len b.cap,c] [.one .slice] w K
abbrev Dw:FuncId:=110
def uJ (a:Int) (b:Addr) (w:θ) (K:Bool->b_):Prop:=
 f_ υ 110 [.int .i64 a,(.pointer (some b))] [.one .bool] w K
def ny (a:fO) (b:Int) (w:θ) (K:Value->b_):Prop:=
 f_ υ 111 [.pointer a,.int .i64 b] [.one .any] w K
def uh (a:fO) (b:Int) (w:θ) (K:b_):Prop:=
 f_ υ 112 [.pointer a,.int .i64 b] [] w K
def wU (a:fO) (b:Int) (w:θ) (K:Bool->b_):Prop:=
 f_ υ 113 [.pointer a,.int .i64 b] [.one .bool] w K
def wX (a:fO) (b c d:Int) (w:θ) (K:Bool->b_):Prop:=
 f_ υ 114 [.pointer a,(.agg ⟨[.int .i64 b,.int .i64 c,.int .i64 d]⟩)] [.one .bool] w K
def uY (a:fO) (b:Int) (w:θ) (K:Int->b_):Prop:=
 f_ υ 115 [.pointer a,.int .i64 b] [.one ν] w K
def iP (a b c:Int) (w:θ) (K:Bool->b_):Prop:=
 f_ υ 116 [.int .i64 a,.int .i64 b,.int .i64 c] [.one .bool] w K
def zG (a b c d e f g h i j k l m n o p:Int) (w:θ) (K:Bool->b_):Prop:=
 f_ υ 117 [.agg ⟨mY a b c d e f g h i j k l m n o p⟩] [.one .bool] w K
def zF (a:Int) (w:θ) (K:Bool->b_):Prop:=
 f_ υ 118 [.int .i64 a] [.one .bool] w K
def AO (a b c d e f g h i j k l m n o p:Int) (q r:fU) (s t u v x y z A B C D E F G H I J:Int) (L:fU) (M N O P Q R S:Int) (w:θ) (K:Bool->b_):Prop:=
 f_ υ 119 [.agg ⟨jo a b c d e f g h i j k l m n o p q r s t u v x y z A B C D E F G H I J L⟩,(.agg ⟨[.int .i64 M,.int .i64 N,.int .i64 O,.int .i64 P,.int .i64 Q,.int .i64 R,.int .i64 S]⟩)] [.one .bool] w K
def lM (a:fO) (w:θ) (K:Bool->b_):Prop:=
 f_ υ 120 [.pointer a] [.one .bool] w K
def oU (a:fO) (b:ByteArray) (w:θ) (K:Int->Bool->b_):Prop:=
 f_ υ 121 [.pointer a,.string b] [.one ν,.one .bool] w K
def qG (a b c:Int) (w:θ) (K:ByteArray->b_):Prop:=
 f_ υ 122 [(.agg ⟨[.int .i64 a,.int .i64 b,.int .i64 c]⟩)] [.one .str] w K
def nZ (a:fO) (b c d:Int) (w:θ) (K:Int->Bool->b_):Prop:=
 f_ υ 123 [.pointer a,.int .i64 b,(.agg ⟨[.int .i64 c,.int .i64 d]⟩)] [.one ν,.one .bool] w K
abbrev OM:FuncId:=127
def Oj (a b c d e f g h i j k l m n o p:Int) (w:θ) (K:Bool->b_):Prop:=
 f_ υ 127 [.agg ⟨mY a b c d e f g h i j k l m n o p⟩] [.one .bool] w K
def ER (a b c d e f g h i j k l m n o p:Int) (w:θ) (K:Bool->b_):Prop:=
 f_ υ 128 [.agg ⟨mY a b c d e f g h i j k l m n o p⟩] [.one .bool] w K
abbrev OO:FuncId:=129
def Ol (a:Int) (w:θ) (K:Bool->b_):Prop:=
 f_ υ 129 [.int .i64 a] [.one .bool] w K
abbrev OQ:FuncId:=130
def Om (a b c d e f g:Int) (h:Addr) (w:θ) (K:Bool->b_):Prop:=
 f_ υ 130 [(.agg ⟨[.int .i64 a,.int .i64 b,.int .i64 c,.int .i64 d,.int .i64 e,.int .i64 f,.int .i64 g]⟩),(.pointer (some h))] [.one .bool] w K
def CV (a b c d e f g h i j k l m n o p:Int) (q r:fU) (s t u v x y z A B C D E F G H I J:Int) (L:fU) (M N O P Q R S:Int) (w:θ) (K:Bool->b_):Prop:=
 f_ υ 131 [.agg ⟨jo a b c d e f g h i j k l m n o p q r s t u v x y z A B C D E F G H I J L⟩,(.agg ⟨[.int .i64 M,.int .i64 N,.int .i64 O,.int .i64 P,.int .i64 Q,.int .i64 R,.int .i64 S]⟩)] [.one .bool] w K
def jR (b:fU) (c:Value) (w:θ) (K:Bool->b_):Prop:=
 f_ υ 132 [.slice b.a b.len b.cap,c] [.one .bool] w K
def jU (b:fU) (c:Value) (w:θ) (K:Bool->b_):Prop:=
 f_ υ 133 [.slice b.a b.len b.cap,c] [.one .bool] w K
def jh (b:fU) (c:Value) (w:θ) (K:Bool->b_):Prop:=
 f_ υ 134 [.slice b.a b.len b.cap,c] [.one .bool] w K
def jQ (b:fU) (w:θ) (K:fU->b_):Prop:=
 f_ υ 135 [.slice b.a b.len b.cap] [.one .slice] w K
abbrev Lr:FuncId:=136
def Ak (a b c d e f g:Int) (w:θ) (K:Int->Int->Int->Int->b_):Prop:=
 f_ υ 136 [(.agg ⟨[.int .i64 a,.int .i64 b,.int .i64 c,.int .i64 d,.int .i64 e,.int .i64 f,.int .i64 g]⟩)] [.agg [ν,ν,ν,ν]] w K
abbrev Ls:FuncId:=137
def Am (a b c d e f g:Int) (w:θ) (K:Int->Int->Int->b_):Prop:=
 f_ υ 137 [(.agg ⟨[.int .i64 a,.int .i64 b,.int .i64 c,.int .i64 d,.int .i64 e,.int .i64 f,.int .i64 g]⟩)] [.agg [ν,ν,ν]] w K
def pW (a:Value) (w:θ) (K:Bool->b_):Prop:=
 f_ υ 138 [a] [.one .bool] w K
def lG (b:fU) (c:Value) (w:θ) (K:Value->b_):Prop:=
 f_ υ 139 [.slice b.a b.len b.cap,c] [.one .any] w K
abbrev D6:FuncId:=140
def vH (a b c d e f g h i j k l m n o p:Int) (w:θ) (K:fP (fP (b_))):Prop:=
 f_ υ 140 [.agg ⟨mY a b c d e f g h i j k l m n o p⟩] [.agg Rf] w K
def uU (a:Value) (w:θ) (K:Bool->b_):Prop:=
 f_ υ 141 [a] [.one .bool] w K
def qP (b:fU) (c:Value) (w:θ) (K:Value->b_):Prop:=
 f_ υ 142 [.slice b.a b.len b.cap,c] [.one .any] w K
abbrev JF:FuncId:=143
def JA (a:Int) (w:θ) (K:Int->b_):Prop:=
 f_ υ 143 [.int .i64 a] [.one ν] w K
def oD (a:Value) (w:θ) (K:Bool->b_):Prop:=
 f_ υ 144 [a] [.one .bool] w K
def kC (b:fU) (c:Value) (w:θ) (K:Value->b_):Prop:=
 f_ υ 145 [.slice b.a b.len b.cap,c] [.one .any] w K
def oG (a:Value) (w:θ) (K:Bool->b_):Prop:=
 f_ υ 146 [a] [.one .bool] w K
def kD (b:fU) (c:Value) (w:θ) (K:Value->b_):Prop:=
 f_ υ 147 [.slice b.a b.len b.cap,c] [.one .any] w K
abbrev Lu:FuncId:=148
def KU (a:Int) (b:Addr) (w:θ) (K:Bool->b_):Prop:=
 f_ υ 148 [.int .i64 a,(.pointer (some b))] [.one .bool] w K
def lu (a:Int) (w:θ) (K:Bool->b_):Prop:=
 f_ υ 149 [.int .i64 a] [.one .bool] w K
def Rx (c:Int) (b:fU) (w:θ) (K:Bool->b_):Prop:=
 f_ υ 150 [.int .i64 c,.slice b.a b.len b.cap] [.one .bool] w K
def mP (b:fU) (c:Int) (w:θ) (K:Int->b_):Prop:=
 f_ υ 151 [.slice b.a b.len b.cap,.int .i64 c] [.one ν] w K
def uS (a:fO) (b:Int) (w:θ) (K:Bool->b_):Prop:=
 f_ υ 152 [.pointer a,.int .i64 b] [.one .bool] w K
def BN (a:Int) (w:θ) (K:Bool->b_):Prop:=
 f_ υ 153 [.int .i64 a] [.one .bool] w K
def qF (a b c d:Int) (w:θ) (K:ByteArray->b_):Prop:=
 f_ υ 154 [(.agg ⟨[.int .i64 a,.int .i64 b,.int .i64 c,.int .i64 d]⟩)] [.one .str] w K
def oZ (a:fO) (b:Int) (w:θ) (K:(fO)->Int->b_):Prop:=
 f_ υ 155 [.pointer a,.int .i64 b] [.one .ptr,.one ν] w K
def CS (a:fO) (w:θ) (K:Int->b_):Prop:=
 f_ υ 156 [.pointer a] [.one ν] w K
def uZ (a b:Int) (w:θ) (K:Bool->b_):Prop:=
 f_ υ 157 [(.agg ⟨[.int .i64 a,.int .i64 b]⟩)] [.one .bool] w K
def jT (a:fO) (w:θ) (K:Bool->b_):Prop:=
 f_ υ 158 [.pointer a] [.one .bool] w K
def sU (a:Int) (w:θ) (K:Bool->b_):Prop:=
 f_ υ 159 [.int .i64 a] [.one .bool] w K
def Ah (a:fO) (w:θ) (K:Int->Bool->b_):Prop:=
 f_ υ 160 [.pointer a] [.one ν,.one .bool] w K
def oV (a:fO) (b:ByteArray) (c:Int) (w:θ) (K:Int->b_):Prop:=
 f_ υ 161 [.pointer a,.string b,.int .i64 c] [.one ν] w K
def yC (b:fU) (w:θ) (K:Bool->b_):Prop:=
 f_ υ 162 [.slice b.a b.len b.cap] [.one .bool] w K
def kQ (a b:Int) (w:θ) (K:Bool->b_):Prop:=
 f_ υ 163 [.int .i64 a,.int .i64 b] [.one .bool] w K
def Oq (a b c d e f g:Int) (h i:Bool) (j k:fU) (w:θ) (K:Int->b_):Prop:=
 f_ υ 164 [.agg ⟨gQ a b c d e f g h i j k⟩] [.one ν] w K
def yA (b:fU) (w:θ) (K:Bool->b_):Prop:=
 f_ υ 165 [.slice b.a b.len b.cap] [.one .bool] w K
def yw (b:fU) (c d:Int) (w:θ) (K:Int->Int->b_):Prop:=
 f_ υ 166 [.slice b.a b.len b.cap,.int .i64 c,.int .i64 d] [.one ν,.one ν] w K
def gY (b:fU) (w:θ) (K:fU->b_):Prop:=
 f_ υ 167 [.slice b.a b.len b.cap] [.one .slice] w K
def Ez (c:Int) (b:fU) (w:θ) (K:Bool->b_):Prop:=
 f_ υ 168 [.int .i64 c,.slice b.a b.len b.cap] [.one .bool] w K
def vZ (b:fU) (w:θ) (K:fU->Int->Int->Int->Int->Int->Int->Int->Bool->Bool->fU->fU->Int->Int->b_):Prop:=
 f_ υ 169 [.slice b.a b.len b.cap] [.agg ahe,.one ν] w K
def rZ (a:fU) (b c d e f g h:Int) (i j:Bool) (k l:fU) (m:Int) (w:θ) (K:Int->Int->Int->Int->b_):Prop:=
 f_ υ 170 [.agg ⟨nM a b c d e f g h i j k l m⟩] [.agg [ν,ν,ν],.one ν] w K
def yN (c d e:Int) (b:fU) (f:Bool) (g h:Int) (w:θ) (K:Int->Int->Int->fU->Int->b_):Prop:=
 f_ υ 171 [(.agg ⟨[.int .i64 c,.int .i64 d,.int .i64 e,.slice b.a b.len b.cap]⟩),.bool f,.int .i64 g,.int .i64 h] [.agg [ν,ν,ν,.slice],.one ν] w K
def zu (c d e:Int) (b:fU) (w:θ) (K:fU->Int->b_):Prop:=
 f_ υ 172 [(.agg ⟨[.int .i64 c,.int .i64 d,.int .i64 e,.slice b.a b.len b.cap]⟩)] [.one .slice,.one ν] w K
def Hf (c d:Int) (b:fU) (w:θ) (K:Int->Int->Bool->fU->Int->b_):Prop:=
 f_ υ 173 [.int .i64 c,.int .i64 d,.slice b.a b.len b.cap] [.agg [ν,ν,.bool,.slice],.one ν] w K
def G9 (c d:Int) (b:fU) (w:θ) (K:Int->Int->Int->Int->Int->Int->Int->Int->fU->fU->Int->b_):Prop:=
 f_ υ 174 [.int .i64 c,.int .i64 d,.slice b.a b.len b.cap] [.agg aiI,.one ν] w K
def zB (a:Int) (w:θ) (K:Bool->b_):Prop:=
 f_ υ 175 [.int .i64 a] [.one .bool] w K
def ET (a:Int) (b:Bool) (c:Int) (w:θ) (K:Int->Bool->b_):Prop:=
 f_ υ 176 [.int .i64 a,.bool b,.int .i64 c] [.one ν,.one .bool] w K
def CZ (a b c d e f g:Int) (h i:Bool) (j k:fU) (w:θ) (K:Int->b_):Prop:=
 f_ υ 177 [.agg ⟨gQ a b c d e f g h i j k⟩] [.one ν] w K
def um (a:fO) (w:θ) (K:Int->b_):Prop:=
 f_ υ 178 [.pointer a] [.one ν] w K
def sO (a:fO) (b c d:Int) (w:θ) (K:Int->Int->Int->Int->b_):Prop:=
 f_ υ 179 [.pointer a,.int .i64 b,.int .i64 c,.int .i64 d] [.agg [ν,ν,ν],.one ν] w K
def jG (a:fO) (w:θ) (K:Bool->b_):Prop:=
 f_ υ 183 [.pointer a] [.one .bool] w K
def jf (b:fU) (c:Value) (w:θ) (K:Int->b_):Prop:=
 f_ υ 184 [.slice b.a b.len b.cap,c] [.one ν] w K
abbrev Gf:FuncId:=185
def wR (a b c d e:Int) (f:Bool) (w:θ) (K:Bool->b_):Prop:=
 f_ υ 185 [(.agg ⟨[.int .i64 a,.int .i64 b,.int .i64 c,.int .i64 d,.int .i64 e,.bool f]⟩)] [.one .bool] w K
def lH (b:fU) (c:Int) (w:θ) (K:Int->Bool->b_):Prop:=
 f_ υ 186 [.slice b.a b.len b.cap,.int .i64 c] [.one ν,.one .bool] w K
def o_ (b:fU) (d:Int) (c:fU) (w:θ) (K:fU->b_):Prop:=
 f_ υ 187 [.slice b.a b.len b.cap,.int .i64 d,.slice c.a c.len c.cap] [.one .slice] w K
def vk (a:fO) (b c d:Int) (w:θ) (K:b_):Prop:=
 f_ υ 188 [.pointer a,(.agg ⟨[.int .i64 b,.int .i64 c,.int .i64 d]⟩)] [] w K
def rD (a:fO) (b c d:Int) (w:θ) (K:b_):Prop:=
 f_ υ 189 [.pointer a,(.agg ⟨[.int .i64 b,.int .i64 c,.int .i64 d]⟩)] [] w K
def jC (b:fU) (c d:Int) (w:θ) (K:Int->b_):Prop:=
 f_ υ 190 [.slice b.a b.len b.cap,.int .i64 c,.int .i64 d] [.one ν] w K
theorem zL {a b c w K d}:jC a b c w K->(∀e w,K e w->d e w)->jC a b c w d:=f_.mono
def C_ (b:fU) (w:θ) (K:Bool->b_):Prop:=
 f_ υ 191 [.slice b.a b.len b.cap] [.one .bool] w K
def AB (b c:fU) (w:θ) (K:Int->Int->Int->Int->Int->Int->Int->Bool->Bool->fU->fU->b_):Prop:=
 f_ υ 192 [.slice b.a b.len b.cap,.slice c.a c.len c.cap] [.agg vG] w K
def mJ (a b:Int) (w:θ) (K:Bool->b_):Prop:=
 f_ υ 193 [.int .i64 a,.int .i64 b] [.one .bool] w K
def jd (b:fU) (c d:Int) (w:θ) (K:fU->b_):Prop:=
 f_ υ 194 [.slice b.a b.len b.cap,.int .i64 c,.int .i64 d] [.one .slice] w K
def BR (b:fU) (w:θ) (K:Int->b_):Prop:=
 f_ υ 195 [.slice b.a b.len b.cap] [.one ν] w K
def vI (a b:Int) (w:θ) (K:Int->b_):Prop:=
 f_ υ 196 [.int .i64 a,.int .i64 b] [.one ν] w K
def xK (a:Int) (w:θ) (K:Bool->b_):Prop:=
 f_ υ 197 [.int .i64 a] [.one .bool] w K
def zH (a b c d e f g:Int) (h i:Bool) (j k:fU) (w:θ) (K:Int->b_):Prop:=
 f_ υ 198 [.agg ⟨gQ a b c d e f g h i j k⟩] [.one ν] w K
def jI (b:fU) (c:Value) (w:θ) (K:Int->Int->Int->b_):Prop:=
 f_ υ 199 [.slice b.a b.len b.cap,c] [.agg [ν,ν,ν]] w K
abbrev Ib:FuncId:=200
def yD (a b c d e f:Int) (w:θ) (K:Int->b_):Prop:=
 f_ υ 200 [(.agg ⟨[.int .i64 a,.int .i64 b,.int .i64 c]⟩),(.agg ⟨[.int .i64 d,.int .i64 e,.int .i64 f]⟩)] [.one ν] w K
def qY (a b:Int) (w:θ) (K:Int->b_):Prop:=
 f_ υ 201 [.int .i64 a,.int .i64 b] [.one ν] w K
def xQ (a b:Int) (w:θ) (K:Int->b_):Prop:=
 f_ υ 202 [.int .i64 a,.int .i64 b] [.one ν] w K
def nC (a:fO) (b:Int) (w:θ) (K:(fO)->b_):Prop:=
 f_ υ 203 [.pointer a,.int .i64 b] [.one .ptr] w K
def iI (b:fU) (c:Value) (w:θ) (K:fU->b_):Prop:=
 f_ υ 204 [.slice b.a b.len b.cap,c] [.one .slice] w K
def jM (b:fU) (w:θ) (K:fU->b_):Prop:=
 f_ υ 205 [.slice b.a b.len b.cap] [.one .slice] w K
abbrev JH:FuncId:=206
def yX (a b c:Int) (d:Addr) (w:θ) (K:Bool->b_):Prop:=
 f_ υ 206 [(.agg ⟨[.int .i64 a,.int .i64 b,.int .i64 c]⟩),(.pointer (some d))] [.one .bool] w K
abbrev JI:FuncId:=207
def yY (a b c:Int) (d:Addr) (w:θ) (K:Bool->b_):Prop:=
 f_ υ 207 [(.agg ⟨[.int .i64 a,.int .i64 b,.int .i64 c]⟩),(.pointer (some d))] [.one .bool] w K
def iW (b:fU) (c:Value) (w:θ) (K:b_):Prop:=
 f_ υ 208 [.slice b.a b.len b.cap,c] [] w K
abbrev oN:FuncId:=209
def uy (a b c d e f:Int) (w:θ) (K:Int->b_):Prop:=
 f_ υ 209 [(.agg ⟨[.int .i64 a,.int .i64 b,.int .i64 c]⟩),(.agg ⟨[.int .i64 d,.int .i64 e,.int .i64 f]⟩)] [.one ν] w K
def mZ (a:fO) (w:θ) (K:Bool->b_):Prop:=
 f_ υ 210 [.pointer a] [.one .bool] w K
def jg (a:fO) (b:ByteArray) (w:θ) (K:Int->Bool->b_):Prop:=
 f_ υ 211 [.pointer a,.string b] [.one ν,.one .bool] w K
def qZ (a:fO) (b:Int) (w:θ) (K:Value->b_):Prop:=
 f_ υ 212 [.pointer a,.int .i64 b] [.one .any] w K
def nY (b:fU) (c d:Int) (w:θ) (K:fU->b_):Prop:=
 f_ υ 213 [.slice b.a b.len b.cap,.int .i64 c,.int .i64 d] [.one .slice] w K
def jO (b:fU) (c:Value) (w:θ) (K:Int->b_):Prop:=
 f_ υ 214 [.slice b.a b.len b.cap,c] [.one ν] w K
abbrev sG:FuncId:=215
def G5 (a:Value) (b c:Addr) (w:θ) (K:b_):Prop:=
 f_ υ 215 [a,(.pointer (some b)),(.pointer (some c))] [] w K
def GU (a:fO) (b:Int) (w:θ) (K:b_):Prop:=
 f_ υ 216 [.pointer a,.int .i64 b] [] w K
def EP (a b c d e f g h i j k l m n o p:Int) (q r:fU) (s t u v x y z A B C D E F G H I J:Int) (L:fU) (M:Int) (w:θ) (K:Bool->b_):Prop:=
 f_ υ 217 [.agg ⟨jo a b c d e f g h i j k l m n o p q r s t u v x y z A B C D E F G H I J L⟩,.int .i64 M] [.one .bool] w K
def Eu (b:fU) (w:θ) (K:ByteArray->b_):Prop:=
 f_ υ 218 [.slice b.a b.len b.cap] [.one .str] w K
def Aq (a:Int) (w:θ) (K:Bool->b_):Prop:=
 f_ υ 221 [.int .i64 a] [.one .bool] w K
def kE (b:fU) (c:Value) (w:θ) (K:Int->b_):Prop:=
 f_ υ 222 [.slice b.a b.len b.cap,c] [.one ν] w K
def jH (b:fU) (c:Value) (w:θ) (K:Int->b_):Prop:=
 f_ υ 223 [.slice b.a b.len b.cap,c] [.one ν] w K
abbrev wP:FuncId:=224
def wO (a:Value) (b c:Addr) (w:θ) (K:b_):Prop:=
 f_ υ 224 [a,(.pointer (some b)),(.pointer (some c))] [] w K
abbrev D5:FuncId:=225
def DT (a:Value) (b c:Addr) (w:θ) (K:b_):Prop:=
 f_ υ 225 [a,(.pointer (some b)),(.pointer (some c))] [] w K
abbrev uD:FuncId:=226
def uf (a:Value) (b c:Addr) (w:θ) (K:b_):Prop:=
 f_ υ 226 [a,(.pointer (some b)),(.pointer (some c))] [] w K
abbrev uF:FuncId:=227
def ug (a:Value) (b c:Addr) (w:θ) (K:b_):Prop:=
 f_ υ 227 [a,(.pointer (some b)),(.pointer (some c))] [] w K
def wW (a b c:Int) (w:θ) (K:Bool->b_):Prop:=
 f_ υ 228 [(.agg ⟨[.int .i64 a,.int .i64 b]⟩),.int .i64 c] [.one .bool] w K
def vU (a:fO) (w:θ) (K:b_):Prop:=
 f_ υ 229 [.pointer a] [] w K
def ru (b:fU) (c:Bool) (w:θ) (K:Bool->b_):Prop:=
 f_ υ 230 [.slice b.a b.len b.cap,.bool c] [.one .bool] w K
def Et (a:Int) (w:θ) (K:Bool->b_):Prop:=
 f_ υ 231 [.int .i64 a] [.one .bool] w K
def Jb (a b c d e f g:Int) (h i:Bool) (j k:fU) (w:θ) (K:Int->b_):Prop:=
 f_ υ 232 [.agg ⟨gQ a b c d e f g h i j k⟩] [.one ν] w K
def Ja (b:fU) (w:θ) (K:Int->b_):Prop:=
 f_ υ 233 [.slice b.a b.len b.cap] [.one ν] w K
def BL (b:fU) (c d:Int) (w:θ) (K:fU->Int->b_):Prop:=
 f_ υ 234 [.slice b.a b.len b.cap,.int .i64 c,.int .i64 d] [.one .slice,.one ν] w K
def Hg (b:fU) (w:θ) (K:Int->Int->Int->Int->Int->Int->Int->Bool->Bool->fU->fU->Int->b_):Prop:=
 f_ υ 235 [.slice b.a b.len b.cap] [.agg vG,.one ν] w K
def jL (a:fU) (b c d e f g h:Int) (i j:Bool) (k l:fU) (m n:Int) (w:θ) (K:Int->b_):Prop:=
 f_ υ 236 [.agg ⟨nM a b c d e f g h i j k l m⟩,.int .i64 n] [.one ν] w K
def Ry (b:fU) (c d:Int) (w:θ) (K:fU->Int->b_):Prop:=
 f_ υ 237 [.slice b.a b.len b.cap,.int .i64 c,.int .i64 d] [.one .slice,.one ν] w K
def ML (b:fU) (c d:Int) (w:θ) (K:fU->Int->b_):Prop:=
 f_ υ 238 [.slice b.a b.len b.cap,.int .i64 c,.int .i64 d] [.one .slice,.one ν] w K
def Ew (c d e:Int) (b:fU) (w:θ) (K:Int->b_):Prop:=
 f_ υ 239 [(.agg ⟨[.int .i64 c,.int .i64 d,.int .i64 e,.slice b.a b.len b.cap]⟩)] [.one ν] w K
def yx (b:fU) (c d e:Int) (w:θ) (K:fU->Int->b_):Prop:=
 f_ υ 240 [.slice b.a b.len b.cap,.int .i64 c,.int .i64 d,.int .i64 e] [.one .slice,.one ν] w K
def G6 (b:fU) (w:θ) (K:Int->b_):Prop:=
 f_ υ 241 [.slice b.a b.len b.cap] [.one ν] w K
def Es (b:fU) (w:θ) (K:Value->b_):Prop:=
 f_ υ 242 [.slice b.a b.len b.cap] [.one .any] w K
def sZ (a b c d:Int) (w:θ) (K:fU->b_):Prop:=
 f_ υ 243 [.int .i64 a,.int .i64 b,.int .i64 c,.int .i64 d] [.one .slice] w K
abbrev U6:FuncId:=244
def UU (a b:Int) (c:Addr) (w:θ) (K:Int->b_):Prop:=
 f_ υ 244 [.int .i64 a,.int .i64 b,(.pointer (some c))] [.one ν] w K
def AP (a:Int) (w:θ) (K:Bool->b_):Prop:=
 f_ υ 245 [.int .i64 a] [.one .bool] w K
def Dq (a:Int) (b:Bool) (w:θ) (K:Int->b_):Prop:=
 f_ υ 246 [.int .i64 a,.bool b] [.one ν] w K
def AQ (a:Int) (b:Bool) (w:θ) (K:Int->b_):Prop:=
 f_ υ 247 [.int .i64 a,.bool b] [.one ν] w K
def vY (a:fO) (b c:Int) (w:θ) (K:Value->b_):Prop:=
 f_ υ 248 [.pointer a,.int .i64 b,.int .i64 c] [.one .any] w K
def Ai (a b:Int) (w:θ) (K:Bool->b_):Prop:=
 f_ υ 249 [.int .i64 a,.int .i64 b] [.one .bool] w K
def qm (a:Int) (w:θ) (K:Bool->b_):Prop:=
 f_ υ 250 [.int .i64 a] [.one .bool] w K
def Dp (b:fU) (c:Int) (w:θ) (K:b_):Prop:=
 f_ υ 252 [.slice b.a b.len b.cap,.int .i64 c] [] w K
abbrev Ic:FuncId:=253
def yE (a b c:Int) (d:Addr) (w:θ) (K:Bool->b_):Prop:=
 f_ υ 253 [(.agg ⟨[.int .i64 a,.int .i64 b,.int .i64 c]⟩),(.pointer (some d))] [.one .bool] w K
def GZ (b:fU) (c d:Int) (w:θ) (K:Int->Int->b_):Prop:=
 f_ υ 254 [.slice b.a b.len b.cap,.int .i64 c,.int .i64 d] [.one ν,.one ν] w K
def BQ (a:Int) (w:θ) (K:Int->b_):Prop:=
 f_ υ 255 [.int .i64 a] [.one ν] w K
def EJ (b:fU) (c:Int) (w:θ) (K:Int->b_):Prop:=
 f_ υ 256 [.slice b.a b.len b.cap,.int .i64 c] [.one ν] w K
def EK (a:Int) (w:θ) (K:Int->b_):Prop:=
 f_ υ 257 [.int .i64 a] [.one ν] w K
def lN (a:Int) (w:θ) (K:Bool->b_):Prop:=
 f_ υ 258 [.int .i64 a] [.one .bool] w K
def jl (b:fU) (c:Value) (w:θ) (K:Int->b_):Prop:=
 f_ υ 259 [.slice b.a b.len b.cap,c] [.one ν] w K
def iV (b:fU) (c d e:Int) (f:Value) (w:θ) (K:b_):Prop:=
 f_ υ 260 [.slice b.a b.len b.cap,.int .i64 c,.int .i64 d,.int .i64 e,f] [] w K
def yL (a:Int) (w:θ) (K:Int->b_):Prop:=
 f_ υ 261 [.int .u64 a] [.one ν] w K
def GN (a:ByteArray) (b:Int) (w:θ) (K:Int->b_):Prop:=
 f_ υ 262 [.string a,.int .i64 b] [.one ν] w K
abbrev zi:FuncId:=263
def JB (a:Value) (b c:Addr) (w:θ) (K:b_):Prop:=
 f_ υ 263 [a,(.pointer (some b)),(.pointer (some c))] [] w K
def jr (b:fU) (c:Value) (w:θ) (K:fU->b_):Prop:=
 f_ υ 264 [.slice b.a b.len b.cap,c] [.one .slice] w K
def BK (a b:Int) (w:θ) (K:Value->b_):Prop:=
 f_ υ 265 [.int .i64 a,.int .i64 b] [.one .any] w K
def uM (b:fU) (c:Bool) (w:θ) (K:Int->b_):Prop:=
 f_ υ 267 [.slice b.a b.len b.cap,.bool c] [.one ν] w K
def EW (a:Int) (w:θ) (K:Int->b_):Prop:=
 f_ υ 268 [.int .i64 a] [.one ν] w K
def BU (b:fU) (w:θ) (K:Int->b_):Prop:=
 f_ υ 269 [.slice b.a b.len b.cap] [.one ν] w K
def Ot (b:fU) (c:Bool) (w:θ) (K:fU->Int->Int->Int->b_):Prop:=
 f_ υ 270 [.slice b.a b.len b.cap,.bool c] [.agg [.slice,ν,ν],.one ν] w K
def u_ (b:fU) (c d:Int) (w:θ) (K:Int->Int->Int->Int->Int->Int->Int->Bool->Bool->fU->fU->b_):Prop:=
 f_ υ 271 [(.agg ⟨[.slice b.a b.len b.cap,.int .i64 c,.int .i64 d]⟩)] [.agg vG] w K
def BP (b:fU) (c d:Int) (w:θ) (K:fU->Int->Int->Int->Int->Int->Int->Int->Bool->Bool->fU->fU->Int->Int->b_):Prop:=
 f_ υ 272 [.slice b.a b.len b.cap,.int .i64 c,.int .i64 d] [.agg ahe,.one ν] w K
def oK (a:fU) (b c d e f g h:Int) (i j:Bool) (k l:fU) (m n o p q:Int) (w:θ) (K:fU->b_):Prop:=
 f_ υ 273 [.agg ⟨nM a b c d e f g h i j k l m⟩,.int .i64 n,.int .i64 o,.int .i64 p,.int .i64 q] [.one .slice] w K
def qR (a:Value) (w:θ) (K:fU->b_):Prop:=
 f_ υ 274 [a] [.one .slice] w K
abbrev X3:FuncId:=275
def Xn (a:Value) (b:Addr) (w:θ) (K:b_):Prop:=
 f_ υ 275 [a,(.pointer (some b))] [] w K
def zX (a b:Int) (w:θ) (K:Int->b_):Prop:=
 f_ υ 276 [.int .i64 a,.int .i64 b] [.one ν] w K
def kU (a b:Int) (c:Bool) (w:θ) (K:Int->b_):Prop:=
 f_ υ 277 [(.agg ⟨[.int .i64 a,.int .i64 b]⟩),.bool c] [.one ν] w K
abbrev JG:FuncId:=278
def JC (a:Value) (b c d:Addr) (w:θ) (K:b_):Prop:=
 f_ υ 278 [a,(.pointer (some b)),(.pointer (some c)),(.pointer (some d))] [] w K
def yM (a b c:Int) (w:θ) (K:Bool->b_):Prop:=
 f_ υ 279 [(.agg ⟨[.int .i64 a,.int .i64 b]⟩),.int .i64 c] [.one .bool] w K
def sQ (a:fO) (b c:Int) (w:θ) (K:fU->b_):Prop:=
 f_ υ 280 [.pointer a,.int .i64 b,.int .i64 c] [.one .slice] w K
def jv (b:fU) (c d:Int) (e:Value) (w:θ) (K:b_):Prop:=
 f_ υ 282 [.slice b.a b.len b.cap,.int .i64 c,.int .i64 d,e] [] w K
def uq (b:fU) (c d:Int) (e:Value) (w:θ) (K:b_):Prop:=
 f_ υ 283 [.slice b.a b.len b.cap,.int .i64 c,.int .i64 d,e] [] w K
def qH (b:fU) (c d:Int) (e:Value) (w:θ) (K:b_):Prop:=
 f_ υ 284 [.slice b.a b.len b.cap,.int .i64 c,.int .i64 d,e] [] w K
def rH (b:fU) (c d:Int) (e:Value) (w:θ) (K:Int->Int->b_):Prop:=
 f_ υ 285 [.slice b.a b.len b.cap,.int .i64 c,.int .i64 d,e] [.one ν,.one ν] w K
def qU (b:fU) (c d:Int) (e:Value) (w:θ) (K:b_):Prop:=
 f_ υ 286 [.slice b.a b.len b.cap,.int .i64 c,.int .i64 d,e] [] w K
def nS (b:fU) (c d:Int) (e:Value) (w:θ) (K:Bool->b_):Prop:=
 f_ υ 287 [.slice b.a b.len b.cap,.int .i64 c,.int .i64 d,e] [.one .bool] w K
def qw (b:fU) (c d e:Int) (f:Value) (w:θ) (K:Int->b_):Prop:=
 f_ υ 288 [.slice b.a b.len b.cap,.int .i64 c,.int .i64 d,.int .i64 e,f] [.one ν] w K
def sV (b:fU) (c d e:Int) (f:Value) (w:θ) (K:Int->Bool->b_):Prop:=
 f_ υ 289 [.slice b.a b.len b.cap,.int .i64 c,.int .i64 d,.int .i64 e,f] [.one ν,.one .bool] w K
def vV (a:Int) (w:θ) (K:Int->b_):Prop:=
 f_ υ 291 [.int .u64 a] [.one ν] w K
abbrev U4:FuncId:=292
def UQ (a:Value) (b c:Addr) (w:θ) (K:b_):Prop:=
 f_ υ 292 [a,(.pointer (some b)),(.pointer (some c))] [] w K
def gV (b:fU) (c d e f:Int) (w:θ) (K:Int->b_):Prop:=
 f_ υ 293 [(.agg ⟨[.slice b.a b.len b.cap,.int .i64 c,.int .i64 d]⟩),.int .i64 e,.int .i64 f] [.one ν] w K
theorem tC {a b c d e w K f}:gV a b c d e w K->(∀g w,K g w->f g w)->gV a b c d e w f:=f_.mono
def uT (b:fU) (c d e:Int) (w:θ) (K:Int->fU->fU->b_):Prop:=
 f_ υ 294 [.slice b.a b.len b.cap,.int .i64 c,.int .i64 d,.int .i64 e] [.agg [ν,.slice,.slice]] w K
def wo (b:fU) (d:Int) (c:fU) (w:θ) (K:fU->b_):Prop:=
 f_ υ 295 [.slice b.a b.len b.cap,.int .i64 d,.slice c.a c.len c.cap] [.one .slice] w K
def r_ (a:fU) (b c d e f g h:Int) (i j:Bool) (k l:fU) (m:Int) (w:θ) (K:Int->b_):Prop:=
 f_ υ 296 [.agg ⟨nM a b c d e f g h i j k l m⟩] [.one ν] w K
def rX (a b c d:Int) (w:θ) (K:Value->b_):Prop:=
 f_ υ 297 [(.agg ⟨[.int .i64 a,.int .i64 b]⟩),.int .i64 c,.int .i64 d] [.one .any] w K
def gy (a b c d:Int) (w:θ) (K:Int->Int->b_):Prop:=
 f_ υ 298 [(.agg ⟨[.int .i64 a,.int .i64 b]⟩),(.agg ⟨[.int .i64 c,.int .i64 d]⟩)] [.agg [ν,ν]] w K
theorem MP {a b c d w K e}:gy a b c d w K->(∀f g w,K f g w->e f g w)->gy a b c d w e:=f_.mono
def kM (a:Int) (w:θ) (K:Int->Int->b_):Prop:=
 f_ υ 299 [.int .i64 a] [.agg [ν,ν]] w K
theorem Dt {a w K b}:kM a w K->(∀c d w,K c d w->b c d w)->kM a w b:=f_.mono
def iK (a:Int) (w:θ) (K:Int->Int->b_):Prop:=
 f_ υ 300 [.int .i64 a] [.agg [ν,ν]] w K
theorem UW {a w K b}:iK a w K->(∀c d w,K c d w->b c d w)->iK a w b:=f_.mono
def sS (a b c:Int) (w:θ) (K:Int->b_):Prop:=
 f_ υ 301 [(.agg ⟨[.int .i64 a,.int .i64 b]⟩),.int .i64 c] [.one ν] w K
def EU (d:Int) (b c:fU) (w:θ) (K:Int->b_):Prop:=
 f_ υ 308 [.int .i64 d,.slice b.a b.len b.cap,.slice c.a c.len c.cap] [.one ν] w K
abbrev U5:FuncId:=309
def UR (a:Value) (b c d:Addr) (w:θ) (K:b_):Prop:=
 f_ υ 309 [a,(.pointer (some b)),(.pointer (some c)),(.pointer (some d))] [] w K
theorem LJ {s t u v x y z A B C D E F G H I J L M N O P Q R T U V W X Y Z aa ab ac ad ae f l w K}:gB (BM s t u v x y z A B C D E F G H I J L M N O P Q R T U V W X Y Z aa ab ac ad ae f l w K)
 (Al w (.cells ⟨(jo s t u v x y z A B C D E F G H I J L M N O P Q R T U V W X Y Z aa ab ac ad ae)⟩ 28) λg w4=>let m:Bool->b_:=λj7 n=>((cond j7 (jY n λr9 aq=>K r9 aq) (rO n g λar au av aw ax ay az aA aB aC aD aE aF aG aH aI aJ aK aL aM aN aO aP aQ aR aS aT aU aV aW aX aY aZ a0 a3 a4=>EC ar au av aw ax ay az aA aB aC aD aE aF aG aH aI aJ aK aL aM aN aO aP aQ aR aS aT aU aV aW aX aY aZ a0 a3 a4 n λd a6 ag=>let ah:Bool->Prop:=λa7=>((cond a7 (K false ag) (jP 167772161 134744072 (ο.wrap l) 53 9 ⟨none,0,0⟩ ag λa8 a9=>kL a8 a9 λba bb bc bd be bf bg bh bi bj bk bl=>jJ d 0 ba bb bc bd be bf bg bh bi bj bk bl λbm bn bo bp bq br bs bt bu bv bw h bx=>Al bx (.cells ⟨ξ⟩ 40) λo bz=>ig (gQ bm bn bo bp bq br bs bt bu bv bw) bz o 0 λe=>(cond (h !=0) (let i:Bool->b_:=λbA bB=>(K bA bB)
 (cond (h==5) (jY e λbC bD=>i bC bD) (cond (h==6) (jY e λbE bF=>i bE bF) (cond (h==7) (jY e λbG bH=>i bG bH) (i false e))))) (iH (S:=Int×Unit) (λp j bI=>(cond (decide (p.1<(f.len:Int))) (let ai:b_:=λbJ=>(bI ((ο.wrap (p.1+1)),()) bJ)
 iF f 22 p.1 λbK=>MC j bK λbL bM bN bO bP bQ bR bS bT bU bV bW bX bY bZ b0 b1 b2 b3 b4 b5 b6=>Al j (.cells ⟨(GI 0 0 0 ⟨none,0,0⟩ 0 0 0 0 0 0 0 false false ⟨none,0,0⟩ ⟨none,0,0⟩ 0 0 0 0 0 0 0)⟩ 52) λb b7=>ig (GI bL bM bN bO bP bQ bR bS bT bU bV bW bX bY bZ b0 b1 b2 b3 b4 b5 b6) b7 b 0 λc=>let aj:Bool->Prop:=λb8=>((cond b8 (fM c.drew (b.add 1) λak=>MC c.drew b λb9 ca cb cc cd ce cf cg ch ci cj ck cl cm cn co cp cq cr cs ct cu=>sN b9 ca cb cc cd ce cf cg ch ci cj ck cl cm cn co cp cq cr cs ct cu c.drew λcv cw cx cy cz cA cB cC cD cE cF al=>al.cell? (b.add 1)=some (.int .i64 ak)/\
 jJ d ak cv cw cx cy cz cA cB cC cD cE cF al λd0 d1 d2 d3 d4 d5 d6 d7 d8 d9 ea eb cG=>ai cG) (ai c)))
 fM c b λcH=>(cond (decide (cH<=3)) (fM c (b.add 1) λcI=>aj (cI !=0)) (aj false))) (fM j (g.add 30) λcJ=>nI d (ο.wrap (cJ - 1)) j λec cK=>jP 167772161 134744072 (ο.wrap l) 53 9 ⟨none,0,0⟩ cK λcL cM=>kL cL cM λcN cO cP cQ cR cS cT cU cV cW cX cY=>jJ d 0 cN cO cP cQ cR cS cT cU cV cW cX cY λcZ c0 c1 c2 c3 c4 c5 c6 c7 c8 c9 da db=>Al db (.cells ⟨ξ⟩ 40) λq dc=>ig (gQ cZ c0 c1 c2 c3 c4 c5 c6 c7 c8 c9) dc q 0 λa=>let k:Bool->b_:=λdd de=>(K dd de)
 (cond (da==0) (fM a (q.add 5) λdf=>fM a (o.add 5) λdg=>(cond (df==dg) (Ld .slice a (q.add 10) λdh=>Ld .slice a (o.add 10) λdi=>lC dh di a λdj am=>(cond dj (jY am λdk dl=>k dk dl) (k false am))) (k false a))) (k false a))))) (0,()) e)))))
 (cond (Option.isNone d) (ah true) (ah (a6 !=0))))))
 rO w4 g λdm dn dp dq dr ds dt du dv dw dx dy dz dA dB dC dD dE dF dG dH dI dJ dK dL dM dN dO dP dQ dR dS dT dU dV dW=>CX dm dn dp dq dr ds dt du dv dw dx dy dz dA dB dC dD dE dF dG dH dI dJ dK dL dM dN dO dP dQ dR dS dT dU dV dW w4 λdX an=>(cond (!dX) (m true an) (GR f an λdY r=>(cond (!dY) (m true r) (Ld .slice r (g.add 16) λdZ=>m (decide ((dZ.len:Int)<2)) r))))):=χ Tryz.func3 (fQ (fQ (fQ (fQ (fQ (fQ (.seq (fQ (.blk (.loop [(67,ν)] .leaf))) .leaf)))))))
theorem TJ {b c d e f g h i j k l m n o p q r s t u v x y z A B C D E F G H I J L M w K}:gB (CX b c d e f g h i j k l m n o p q r s t u v x y z A B C D E F G H I J L M w K)
 (Al w (.cells ⟨(jo b c d e f g h i j k l m n o p q r s t u v x y z A B C D E F G H I J L M)⟩ 28) λN O=>let P:Bool->b_:=λQ R=>(K Q R)
 rO O N λS T U V W X Y Z aa ab ac ad ae af ag ah ai aj ak al am an ao ap aq ar au av aw ax ay az aA aB aC aD=>CY S T U V W X Y Z aa ab ac ad ae af ag ah ai aj ak al am an ao ap aq ar au av aw ax ay az aA aB aC aD O λaE a=>(cond aE (rO a N λaF aG aH aI aJ aK aL aM aN aO aP aQ aR aS aT aU aV aW aX aY aZ a0 a1 a2 a4 a5 a6 a7 a8 a9 ba bb bc bd be bf=>Di aF aG aH aI aJ aK aL aM aN aO aP aQ aR aS aT aU aV aW aX aY aZ a0 a1 a2 a4 a5 a6 a7 a8 a9 ba bb bc bd be bf a λbg bh=>P (bg==0) bh) (P false a))):=χ Tryz.func4
theorem Yb {e w K}:gB (GR e w K)
 (iH (S:=Int×Int×Unit) (λa f g=>(cond (decide (a.2.1<(e.len:Int))) (iF e 22 a.2.1 λh=>MC f h λi j k l m n o p q r s t u v x y z A B C D E=>Al f (.cells ⟨(GI 0 0 0 ⟨none,0,0⟩ 0 0 0 0 0 0 0 false false ⟨none,0,0⟩ ⟨none,0,0⟩ 0 0 0 0 0 0 0)⟩ 52) λc F=>ig (GI i j k l m n o p q r s t u v x y z A B C D E) F c 0 λb=>let d:Bool->Prop:=λG=>((cond G (K false b) (Ld .slice b (c.add 3) λH=>g ((ο.wrap (a.1+(H.len:Int))),(ο.wrap (a.2.1+1)),()) b)))
 (cond (decide (a.2.1>=40)) (d true) (Ld .slice b (c.add 3) λI=>(cond (decide ((I.len:Int)>1500)) (d true) (Ld .slice b ((c.add 4).add 10) λJ=>(cond (decide ((J.len:Int)>1500)) (d true) (Ld .slice b ((c.add 4).add 9) λL=>d (decide ((L.len:Int)>100))))))))) (K (decide (a.1<=20000)) f))) (0,0,()) w):=χ Tryz.func5 (fQ (fQ (.seq (fQ (.blk (.loop [(3,ν),(8,ν)] .leaf))) .leaf)))
theorem ZU {k l m n o p q r s t u v x y z A B C D E F G H I J L M N O P Q R T U V W w K}:gB (EC k l m n o p q r s t u v x y z A B C D E F G H I J L M N O P Q R T U V W w K)
 (Al w (.cells ⟨(jo k l m n o p q r s t u v x y z A B C D E F G H I J L M N O P Q R T U V W)⟩ 28) λa X=>rO X a λx4 x5 x6 x7 x8 x9 ak al am an ao ap aq ar au av aw ax ay az aA aB aC aD aE aF aG aH aI aJ aK aL aM aN aO aP=>Aj x4 x5 x6 x7 x8 x9 ak al am an ao ap aq ar au av aw ax ay az aA aB aC aD aE aF aG aH aI aJ aK aL aM aN aO aP X λY h=>(cond (Y !=0) (K none Y h) (rO h a λaQ aR aS aT aU aV aW aX aY aZ a0 a1 a2 a4 a5 a6 a7 a8 a9 ba bb bc bd be bf bg bh bi bj bk bl bm bn bo bp bq=>Al h (.cells ⟨(aiN none none none none none aQ aR aS aT aU aV aW aX aY aZ a0 a1 a2 a4 a5 a6 a7 a8 a9 ba bb bc bd be bf bg bh bi bj bk bl bm bn bo bp bq 0)⟩ 69) λe g=>Ld .slice g (a.add 17) λbr=>fM g (a.add 18) λbs=>fM g (a.add 19) λbt=>KW br bs bt g λbu b6 bv=>Pt (some e) λbw=>St bv bw (.pointer bu) λi=>Ld .slice i (a.add 16) λbx=>fM i (a.add 20) λbz=>GY (bx.len:Int) bz i λbA b7 bB=>Pt (some e) λbC=>St bB (bC.add 1) (.pointer bA) λZ=>fM Z (a.add 21) λbD=>KT bD Z λbE b8 bF=>Pt (some e) λbG=>St bF (bG.add 2) (.pointer bE) λaa=>fM aa (a.add 22) λbH=>Dl bH aa λbI b9 bJ=>Pt (some e) λbK=>St bJ (bK.add 3) (.pointer bI) λab=>fM ab (a.add 22) λbL=>Hl bL ab λbM ca bN=>Pt (some e) λbO=>St bN (bO.add 4) (.pointer bM) λac=>Ld .slice ac (a.add 35) λad=>iH (S:=Int×Unit) (λj b bP=>(cond (decide (j.1<(ad.len:Int))) (iF ad 7 j.1 λf=>fM b (f.add 0) λbQ=>fM b (f.add 1) λbR=>fM b (f.add 2) λbS=>fM b (f.add 3) λbT=>fM b (f.add 4) λbU=>fM b (f.add 5) λbV=>fM b (f.add 6) λbW=>Al b (.cells ⟨alT⟩ 50) λc bX=>ig [.int .i64 bQ,.int .i64 bR,.int .i64 bS,.int .i64 bT,.int .i64 bU,.int .i64 bV,.int .i64 bW] bX c 0 λd=>fM d (c.add 0) λbY=>fM d (c.add 1) λbZ=>fM d (c.add 2) λb0=>fM d (c.add 3) λb1=>fM d (c.add 4) λb2=>fM d (c.add 5) λb3=>fM d (c.add 6) λb4=>vW (some e) bY bZ b0 b1 b2 b3 b4 d λcb b5=>bP ((ο.wrap (j.1+1)),()) b5) (K (some e) 0 b))) (0,()) ac))):=χ Tryz.func7 (fQ (fQ (fQ (fQ (fQ (fQ (fQ (fQ (.seq (fQ (.blk (.loop [(76,ν)] .leaf))) .leaf)))))))))
theorem LP {i L C0 C1 C2 C3 C4 C5 C6 C7 C8 C9 ak w K}:gB (jJ i L C0 C1 C2 C3 C4 C5 C6 C7 C8 C9 ak w K)
 (Al w (.cells ⟨(gQ C0 C1 C2 C3 C4 C5 C6 C7 C8 C9 ak)⟩ 40) λc w4=>Al w4 (.cells ⟨ξ⟩ 40) λg w6=>let Q:Bool->b_:=λj9 R=>((cond j9 (ig ξ R g 0 λal=>iC al g λaI aJ aK aL aM aN aO aP aQ aR aS=>K aI aJ aK aL aM aN aO aP aQ aR aS 1 al) (iC R c λaT aU aV aW aX aY aZ a2 a3 a4 a6=>zC aT aU aV aW aX aY aZ a2 a3 a4 a6 R λa8 a9 ba S bb bc=>Al bc (.cells ⟨alN⟩ 84) λF bd=>ig [.int .i64 a8,.int .i64 a9,.int .i64 ba,.slice S.a S.len S.cap] bd F 0 λm=>(cond bb (iC m c λbe bf bg bh bi bj bk bl bm bn bo=>fM m (F.add 0) λbp=>fM m (F.add 1) λbq=>fM m (F.add 2) λbr=>Ld .slice m (F.add 3) λbs=>pX i L be bf bg bh bi bj bk bl bm bn bo bp bq br bs m λbt bu bv bw bx bz bA bB bC bD bE bF bG=>ig (gQ bt bu bv bw bx bz bA bB bC bD bE) bG g 0 λam=>iC am g λbH bI bJ bK bL bM bN bO bP bQ bR=>K bH bI bJ bK bL bM bN bO bP bQ bR bF am) (iC m c λbS bT bU bV bW bX bY bZ b0 b1 b2=>EG bS bT bU bV bW bX bY bZ b0 b1 b2 m λb3 b4 b5 an b6=>Al b6 (.cells ⟨alM⟩ 89) λd b7=>ig [.int .i64 b3,.int .i64 b4,.int .i64 b5] b7 d 0 λG=>(cond (an !=0) (ED an G λb8 b9=>ig ξ b9 g 0 λao=>iC ao g λca cb cc cd ce cf cg ch ci cj ck=>K ca cb cc cd ce cf cg ch ci cj ck b8 ao) (fM G d λcl=>fM G (c.add 5) λcm=>fM G (d.add 1) λcn=>Al G (.cells ⟨alU⟩ 46) λb co=>ig [.int .i64 L,.int .i64 cl,.int .i64 cm,.int .i64 cn] co b 0 λh=>let T:Addr->Value->b_:=λf cp cq=>(Al cq (.cells ⟨[.int .i64 0]⟩ 102) λU cr=>GL cp (Value.iface 104 (Value.pointer (some U))) cr λcs e=>(cond cs (fM e.drew U λap=>ig ξ e.drew g 0 λV=>V.cell? U=some (.int .i64 ap)/\
 iC V g λct cu cv cw cx cy cz cA cB cC cD=>K ct cu cv cw cx cy cz cA cB cC cD ap V) (fM e (f.add 0) λcE=>Ld .bool e (f.add 1) λcF=>fM e (f.add 2) λcG=>Ld .bool e (f.add 3) λcH=>fM e (f.add 4) λcI=>fM e (f.add 5) λcJ=>fM e (f.add 6) λcK=>fM e d λcL=>fM e (f.add 4) λcM=>ni i cE cF cG cH cI cJ cK cL cM e λM=>let aq:Addr->b_:=λar N=>(iC N c λcN cO cP cQ cR cS cT cU cV cW cX=>fM N ((ar.add 4).add 1) λcY=>fM N ((ar.add 4).add 2) λcZ=>EF cN cO cP cQ cR cS cT cU cV cW cX cY cZ N λc0 c1 c2 c3 c4 c5 c6 c7 c8 c9 da eF db=>Al db (.cells ⟨ξ⟩ 40) λau dc=>ig (gQ c0 c1 c2 c3 c4 c5 c6 c7 c8 c9 da) dc au 0 λav=>iC av au λdd de df dg dh di dj dk dl dm dn=>ig (gQ dd de df dg dh di dj dk dl dm dn) av g 0 λaw=>iC aw g λdp dq dr ds dt du dv dw dx dy dz=>K dp dq dr ds dt du dv dw dx dy dz 0 aw)
 Pt i λW=>Ld .ptr M.drew (W.add 2) λO=>fM M.drew f λP=>(mV O P M.drew λdA dB dC dD dE dF dG dH eG dI=>Al dI (.cells ⟨alP⟩ 107) λax X=>X.cell? f=some (.int .i64 P)/\
 X.cell? (W.add 2)=some (.pointer O)/\
 ig [.int .i64 dA,.int .i64 dB,.int .i64 dC,.int .i64 dD,.int .i64 dE,.int .i64 dF,.int .i64 dG,.bool dH] X ax 0 λdJ=>aq ax dJ)/\
 (Al M.drew (.cells ⟨alP⟩ 107) λay Y=>Y.cell? f=some (.int .i64 P)/\
 Y.cell? (W.add 2)=some (.pointer O)/\
 mV O P Y λdK dL dM dN dO dP dQ dR eH dS=>ig [.int .i64 dK,.int .i64 dL,.int .i64 dM,.int .i64 dN,.int .i64 dO,.int .i64 dP,.int .i64 dQ,.bool dR] dS ay 0 λdT=>aq ay dT))))
 fM h.drew (b.add 0) λn=>fM h.drew (b.add 1) λo=>fM h.drew (b.add 2) λp=>fM h.drew (b.add 3) λq=>fM h.drew d λH=>fM h.drew (c.add 6) λI=>fM h.drew (d.add 2) λJ=>iC h.drew c λr s t u v x y z A B C=>(uI H I J h.drew λaz aA D=>UK (gQ r s t u v x y z A B C) D c 0 (
 D.cell? (b.add 0)=some (.int .i64 n)/\
 D.cell? (b.add 1)=some (.int .i64 o)/\
 D.cell? (b.add 2)=some (.int .i64 p)/\
 D.cell? (b.add 3)=some (.int .i64 q)/\
 (jS i n o p q az aA r s t u v x y z A B C D λdU dV dW dX dY dZ d0 d1 d2=>Al d2 (.cells ⟨alO⟩ 96) λaB j=>UK (gQ r s t u v x y z A B C) j c 0 (
 j.cell? (d.add 2)=some (.int .i64 J)/\
 j.cell? (c.add 6)=some (.int .i64 I)/\
 j.cell? d=some (.int .i64 H)/\
 j.cell? (b.add 0)=some (.int .i64 n)/\
 j.cell? (b.add 1)=some (.int .i64 o)/\
 j.cell? (b.add 2)=some (.int .i64 p)/\
 j.cell? (b.add 3)=some (.int .i64 q)/\
 ig [.int .i64 dU,.bool dV,.int .i64 dW,.bool dX,.int .i64 dY,.int .i64 dZ,.int .i64 d0] j aB 0 λd3=>T aB d1 d3))/\
 (Al D (.cells ⟨alO⟩ 96) λaC k=>UK (gQ r s t u v x y z A B C) k c 0 (
 k.cell? (d.add 2)=some (.int .i64 J)/\
 k.cell? (c.add 6)=some (.int .i64 I)/\
 k.cell? d=some (.int .i64 H)/\
 k.cell? (b.add 0)=some (.int .i64 n)/\
 k.cell? (b.add 1)=some (.int .i64 o)/\
 k.cell? (b.add 2)=some (.int .i64 p)/\
 k.cell? (b.add 3)=some (.int .i64 q)/\
 jS i n o p q az aA r s t u v x y z A B C k λd4 d5 d6 d7 d8 d9 ea eb ec=>ig [.int .i64 d4,.bool d5,.int .i64 d6,.bool d7,.int .i64 d8,.int .i64 d9,.int .i64 ea] ec aC 0 λed=>T aC eb ed))))/\
 (Al h.drew (.cells ⟨alO⟩ 96) λaD l=>UK (gQ r s t u v x y z A B C) l c 0 (
 l.cell? (d.add 2)=some (.int .i64 J)/\
 l.cell? (c.add 6)=some (.int .i64 I)/\
 l.cell? d=some (.int .i64 H)/\
 l.cell? (b.add 0)=some (.int .i64 n)/\
 l.cell? (b.add 1)=some (.int .i64 o)/\
 l.cell? (b.add 2)=some (.int .i64 p)/\
 l.cell? (b.add 3)=some (.int .i64 q)/\
 uI H I J l λee ef E=>UK (gQ r s t u v x y z A B C) E c 0 (
 E.cell? (b.add 0)=some (.int .i64 n)/\
 E.cell? (b.add 1)=some (.int .i64 o)/\
 E.cell? (b.add 2)=some (.int .i64 p)/\
 E.cell? (b.add 3)=some (.int .i64 q)/\
 jS i n o p q ee ef r s t u v x y z A B C E λeg eh ei ej ek el em en eo=>ig [.int .i64 eg,.bool eh,.int .i64 ei,.bool ej,.int .i64 ek,.int .i64 el,.int .i64 em] eo aD 0 λep=>T aD en ep))))))))))
 kR i w6 λeq aE=>(cond (!eq) (Q true aE) (mG i L aE λer Z=>(cond (!er) (Q true Z) (iC Z c λes et eu ev ew ex ey ez eA eB eC=>zD es et eu ev ew ex ey ez eA eB eC Z λeD eE=>Q (!eD) eE))))):=χ Tryz.func8
theorem Qu {a w K}:gB (kL a w K)
 (Al w (.cells ⟨ξ⟩ 40) λb f=>xO a f λg h i j k l m n o p q R r=>Al r (.cells ⟨ξ⟩ 40) λc s=>ig (gQ g h i j k l m n o p q) s c 0 λd=>iC d c λt u v x y z A B C D E=>ig (gQ t u v x y z A B C D E) d b 0 λe=>iC e b λF G H I J L M N O P Q=>K F G H I J L M N O P Q e):=χ Tryz.func9
theorem NM {a b c d e f w K}:gB (jP a b c d e f w K)
 (Df a b c d false f w λg k h=>Dc 0 0 0 e 17 a b false false ⟨none,0,0⟩ g h λi l j=>K i j):=χ Tryz.func10
theorem NJ {c d e f g h i j k l m n o p q r s t u v x y w K}:gB (sN c d e f g h i j k l m n o p q r s t u v x y w K)
 (Al w (.cells ⟨(GI c d e f g h i j k l m n o p q r s t u v x y)⟩ 52) λz E=>Al E (.cells ⟨ξ⟩ 40) λa A=>Ld .slice A (z.add 3) λF=>xO F A λG H I J L M N O P Q R S T=>Al T (.cells ⟨ξ⟩ 40) λB U=>ig (gQ G H I J L M N O P Q R) U B 0 λb=>(cond (S==0) (iC b B λV W X Y Z aa ab ac ad ae af=>ig (gQ V W X Y Z aa ab ac ad ae af) b a 0 λC=>iC C a λag ah ai aj ak al am an ao ap aq=>K ag ah ai aj ak al am an ao ap aq C) (iC b (z.add 4) λar au av aw ax ay az aA aB aC aD=>ig (gQ ar au av aw ax ay az aA aB aC aD) b a 0 λD=>iC D a λaE aF aG aH aI aJ aK aL aM aN aO=>K aE aF aG aH aI aJ aK aL aM aN aO D))):=χ Tryz.func11
theorem Fj {a c w K}:gB (nI a c w K)
 (kR a w λo e=>(cond (!o) (K 0 e) (Pt a λp=>fM e (p.add 41) λi=>Pt a λq=>St e (q.add 41) (.int .i64 (if (if (1099511627776:Int)<c then 1099511627776 else c)>i then (if (1099511627776:Int)<c then 1099511627776 else c) else i)) λf=>Pt a λr=>Ld .ptr f.drew (r.add 4) λs=>Pt a λt=>fM f.drew (t.add 41) λu=>qV s u f.drew λj v=>iH (S:=Int×Int×Unit) (λb d x=>(cond (decide (b.2.1<(j.len:Int))) (let k:Int->b_:=λy z=>(x (y,(ο.wrap (b.2.1+1)),()) z)
 iF j 1 b.2.1 λA=>fM d A λl=>Pt a λB=>Ld .ptr d (B.add 3) λC=>lY C l d λD E F G H R I=>Al I (.cells ⟨alQ⟩ 120) λg J=>ig [.int .i64 D,.int .i64 E,.int .i64 F,.int .i64 G,.int .i64 H] J g 0 λm=>Pt a λL=>Ld .ptr m (L.add 3) λM=>qj M l m λT n=>fM n g λN=>rV a N n λO h=>(cond O (fM h g λP=>qQ a P h λQ=>k (ο.wrap (b.1+1)) Q) (k b.1 h))) (K b.1 d))) (0,0,()) v))):=χ Tryz.func12 (fQ (fQ (fQ (fQ (.seq (fQ (.blk (.loop [(5,ν),(34,ν)] .leaf))) .leaf)))))
theorem BH {b d w K}:gB (lC b d w K)
 ((cond ((b.len:Int) !=(d.len:Int)) (K false w) (iH (S:=Int×Unit) (λc a e=>(cond (decide (c.1<(b.len:Int))) (iF b 1 c.1 λf=>Ld (.int .u8) a.drew f λg=>iF d 1 c.1 λh=>Ld (.int .u8) a.drew h λi=>(cond (g !=i) (K false a.drew) (e ((ο.wrap (c.1+1)),()) a.drew))) (K true a))) (0,()) w))):=χ Tryz.func13 (fQ (fQ (.seq (fQ (.blk (.loop [(13,ν)] .leaf))) .leaf)))
theorem TK {d e f g h i j k l m n o p q r s t u v x y z A B C D E F G H I J L M N O w K}:gB (CY d e f g h i j k l m n o p q r s t u v x y z A B C D E F G H I J L M N O w K)
 (Al w (.cells ⟨(jo d e f g h i j k l m n o p q r s t u v x y z A B C D E F G H I J L M N O)⟩ 28) λb a=>let c:Bool->Prop:=λP=>(K P a)
 Ld .slice a (b.add 16) λQ=>(cond (decide ((Q.len:Int)<=8)) (Ld .slice a (b.add 17) λR=>(cond (decide ((R.len:Int)<=4)) (Ld .slice a (b.add 35) λS=>c (decide ((S.len:Int)<=12))) (c false))) (c false))):=χ Tryz.func14
theorem T_ {d e f g h i j k l m n o p q r s t u v x y z A B C D E F G H I J L M N O w K}:gB (Di d e f g h i j k l m n o p q r s t u v x y z A B C D E F G H I J L M N O w K)
 (Al w (.cells ⟨(jo d e f g h i j k l m n o p q r s t u v x y z A B C D E F G H I J L M N O)⟩ 28) λa P=>let Q:Bool->b_:=λS b=>((cond S (K 1 b) (rO b a λT U V W X Y Z aa ab ac ad ae af ag ah ai aj ak al am an ao ap aq ar au av aw ax ay az aA aB aC aD aE=>Dk T U V W X Y Z aa ab ac ad ae af ag ah ai aj ak al am an ao ap aq ar au av aw ax ay az aA aB aC aD aE b λaF R=>(cond aF (K 9 R) (K 0 R)))))
 rO P a λaG aH aI aJ aK aL aM aN aO aP aQ aR aS aT aU aV aW aX aY aZ a0 a1 a2 a4 a5 a6 a7 a8 a9 ba bb bc bd be bf bg=>yO aG aH aI aJ aK aL aM aN aO aP aQ aR aS aT aU aV aW aX aY aZ a0 a1 a2 a4 a5 a6 a7 a8 a9 ba bb bc bd be bf bg P λbh c=>(cond (!bh) (Q true c) (rO c a λbi bj bk bl bm bn bo bp bq br bs bt bu bv bw bx bz bA bB bC bD bE bF bG bH bI bJ bK bL bM bN bO bP bQ bR bS=>Dj bi bj bk bl bm bn bo bp bq br bs bt bu bv bw bx bz bA bB bC bD bE bF bG bH bI bJ bK bL bM bN bO bP bQ bR bS c λbT bU=>Q (!bT) bU))):=χ Tryz.func15
theorem Qo {i j k l m n o p q r s t u v x y z A B C D E F G H I J L M N O P Q R T U w K}:gB (Aj i j k l m n o p q r s t u v x y z A B C D E F G H I J L M N O P Q R T U w K)
 (Al w (.cells ⟨(jo i j k l m n o p q r s t u v x y z A B C D E F G H I J L M N O P Q R T U)⟩ 28) λb V=>rO V b λx4 x5 x6 x7 x8 x9 ag ah ai aj ak al am an ao ap aq ar au av aw ax ay az aA aB aC aD aE aF aG aH aI aJ aK aL=>yJ x4 x5 x6 x7 x8 x9 ag ah ai aj ak al am an ao ap aq ar au av aw ax ay az aA aB aC aD aE aF aG aH aI aJ aK aL V λW aM=>iH (S:=Int×Unit) (λe a aN=>(cond (decide (e.1<(W.len:Int))) (iF W 3 e.1 λf=>fM a (f.add 0) λaO=>fM a (f.add 1) λaP=>fM a (f.add 2) λaQ=>Al a (.cells ⟨alM⟩ 136) λc aR=>ig [.int .i64 aO,.int .i64 aP,.int .i64 aQ] aR c 0 λd=>fM d (c.add 0) λaS=>fM d (c.add 1) λaT=>fM d (c.add 2) λaU=>kK aS aT aU d λaV X=>(cond (!aV) (K 1 X) (aN ((ο.wrap (e.1+1)),()) X))) (let Y:Bool->b_:=λaW g=>((cond aW (K 1 g) (rO g b λaX aY aZ a0 a1 a2 a4 a5 a6 a7 a8 a9 ba bb bc bd be bf bg bh bi bj bk bl bm bn bo bp bq br bs bt bu bv bw bx=>wV aX aY aZ a0 a1 a2 a4 a5 a6 a7 a8 a9 ba bb bc bd be bf bg bh bi bj bk bl bm bn bo bp bq br bs bt bu bv bw bx g λbz Z=>(cond bz (K 9 Z) (K 0 Z)))))
 fM a (b.add 28) λbA=>Ar bA a λbB h=>(cond (!bB) (Y true h) (rO h b λbC bD bE bF bG bH bI bJ bK bL bM bN bO bP bQ bR bS bT bU bV bW bX bY bZ b0 b1 b2 b3 b4 b5 b6 b7 b8 b9 ca cb=>Ap bC bD bE bF bG bH bI bJ bK bL bM bN bO bP bQ bR bS bT bU bV bW bX bY bZ b0 b1 b2 b3 b4 b5 b6 b7 b8 b9 ca cb h λcc cd=>Y (!cc) cd))))) (0,()) aM):=χ Tryz.func18 (fQ (.seq (fQ (.blk (.loop [(8,ν)] .leaf))) .leaf))
theorem ZW {b d e w K}:gB (KW b d e w K)
 (let c:Bool->Prop:=λn=>((cond n (K none 1 w) (iH (S:=Int×Unit) (λf g o=>(cond (decide (f.1<(b.len:Int))) (iF b 1 f.1 λp=>fM g p λi=>let j:Bool->b_:=λq k=>((cond q (K none 1 k) (o ((ο.wrap (f.1+1)),()) k)))
 rU i g λr l=>(cond (!r) (j true l) (kJ b 1 0 f.1 λs=>iR s i l λt u=>j t u))) (mM b g λh m=>Al m (.map #[] 0) λz v=>Al v (.cells ⟨[.int .i64 d,.int .i64 e,.slice h.a h.len h.cap,.map (some m.heap.size)]⟩ 143) λx y=>K (some x) 0 y))) (0,()) w)))
 (cond (decide ((b.len:Int)<1)) (c true) (cond (decide ((b.len:Int)>16)) (c true) (cond (decide (d<1)) (c true) (cond (decide (e<d)) (c true) (c (decide (e>=65536)))))))):=χ Tryz.func19 (fQ (fQ (.seq (fQ (.blk (.loop [(33,ν)] .leaf))) .leaf)))
theorem Yg {b c w K}:gB (GY b c w K)
 (let d:Bool->Prop:=λj=>((cond j (K none 1 w) (Y6 148 2 16 [(Value.int .i64 0),(Value.int .i64 0)] b b w λe k=>Al k (.cells ⟨[.slice e.a e.len e.cap]⟩ 146) λf i=>Pt (some f) λl=>Ld .slice i l λm=>iH (S:=Int×Unit) (λg h n=>(cond (decide (g.1<(m.len:Int))) (Pt (some f) λo=>Ld .slice h o λp=>iF p 2 g.1 λq=>St h (q.add 1) (.int .i64 c) λr=>n ((ο.wrap (g.1+1)),()) r) (K (some f) 0 h))) (0,()) i)))
 (cond (decide (b<1)) (d true) (cond (decide (b>64)) (d true) (cond (decide (c<0)) (d true) (d (decide (c>4096))))))):=χ Tryz.func20 (fQ (fQ (fQ (.seq (fQ (.blk (.loop [(31,ν)] .leaf))) .leaf))))
theorem ZP {b w K}:gB (KT b w K)
 (let d:Bool->Prop:=λg=>((cond g (K none 1 w) (Aw b w λh i j=>Aw b j λk l e=>let f:Bool->Prop:=λm=>((cond m (K none 1 e) (Y6 203 9 72 (adL 0 0 0 0 0 0 0 false false) b b e λc n=>Al n (.cells ⟨[.slice c.a c.len c.cap,.pointer h,.pointer k,.int .i64 0]⟩ 154) λo p=>K (some o) 0 p)))
 (cond (i !=0) (f true) (f (l !=0))))))
 (cond (decide (b<0)) (d true) (d (decide (b>4096))))):=χ Tryz.func21
theorem Uc {b w K}:gB (Dl b w K)
 (let d:Bool->Prop:=λh=>((cond h (K none 1 w) (Aw b w λi e f=>(cond (e !=0) (K none e f) (Y6 217 6 48 [(Value.int .i64 0),(Value.int .i64 0),(Value.int .i64 0),(Value.int .i64 0),(Value.int .i64 0),(Value.bool false)] b b f λc g=>Al g (.map #[] 0) λm j=>Al j (.cells ⟨[.slice c.a c.len c.cap,.pointer i,.map (some g.heap.size),.int .i64 0]⟩ 158) λk l=>K (some k) 0 l)))))
 (cond (decide (b<0)) (d true) (d (decide (b>4096))))):=χ Tryz.func22
theorem Yy {a w K}:gB (Hl a w K)
 (let b:Bool->Prop:=λc=>((cond c (K none 1 w) (Al w (.map #[] 0) λg d=>Al d (.cells ⟨(List.replicate 448 (Value.slice none 0 0)++([(Value.map (some w.heap.size)),(Value.int .i64 0),(Value.int .i64 0),(Value.int .i64 a)]))⟩ 165) λe f=>K (some e) 0 f)))
 (cond (decide (a<0)) (b true) (b (decide (a>1048576))))):=χ Tryz.func23
theorem LM {b k l m n o p q w K}:gB (vW b k l m n o p q w K)
 (Al w (.cells ⟨[.int .i64 k,.int .i64 l,.int .i64 m,.int .i64 n,.int .i64 o,.int .i64 p,.int .i64 q]⟩ 50) λa v=>kR b v λx c=>(cond (!x) (K 2 c) (fM c (a.add 0) λy=>fM c (a.add 1) λz=>fM c (a.add 2) λA=>fM c (a.add 3) λB=>fM c (a.add 4) λC=>fM c (a.add 5) λD=>fM c (a.add 6) λE=>vX b y z A B C D E c λF e=>(cond (!F) (K 1 e) (Pt b λG=>Ld .ptr e.drew (G.add 2) λH=>fM e.drew (a.add 0) λI=>fM e.drew (a.add 1) λJ=>fM e.drew (a.add 2) λL=>fM e.drew (a.add 3) λM=>oQ H I J L M e.drew λau r f=>Pt b λN=>Ld .ptr f.drew (N.add 2) λO=>fM f.drew ((a.add 4).add 0) λP=>fM f.drew ((a.add 4).add 1) λQ=>fM f.drew ((a.add 4).add 2) λR=>rQ O P Q R f.drew λav S g=>let s:Bool->Prop:=λT=>((cond T (K 9 g) (Pt b λU=>Ld .ptr g.drew (U.add 1) λV=>fM g.drew a λW=>Pt b λt=>fM g.drew ((t.add 5).add 20) λu=>oJ V W g.drew λX j=>j.cell? ((t.add 5).add 20)=some (.int .i64 u)/\
 (cond (decide (X>=u)) (K 10 j) (qc b j λY i=>(cond Y (K 7 i) (Pt b λZ=>Ld .ptr i.drew (Z.add 1) λaa=>fM i.drew a λab=>qh aa ab i.drew λaw h=>Pt b λac=>Ld .ptr h.drew ac λad=>fM h.drew ((a.add 4).add 0) λae=>fM h.drew ((a.add 4).add 1) λaf=>fM h.drew ((a.add 4).add 2) λag=>wY ad ae af ag h.drew λax d=>Pt b λah=>Ld .ptr d.drew (ah.add 2) λai=>fM d.drew (a.add 0) λaj=>fM d.drew (a.add 1) λak=>fM d.drew (a.add 2) λal=>fM d.drew (a.add 3) λam=>fM d.drew ((a.add 4).add 0) λan=>fM d.drew ((a.add 4).add 1) λao=>fM d.drew ((a.add 4).add 2) λap=>xG ai aj ak al am an ao ap true d.drew λay aq ar=>K aq ar)))))))
 (cond r (s r) (s S))))))):=χ Tryz.func24
theorem Ip {a w K}:gB (kR a w K)
 (let b:Bool->Prop:=λc=>(K c w)
 (cond (!(Option.isNone a)) (Pt a λd=>Ld .ptr w d λe=>b (!(Option.isNone e))) (b false))):=χ Tryz.func25
theorem D_ {b a w K}:gB (mG b a w K)
 (let c:Bool->Prop:=λd=>(K d w)
 (cond (decide (a>=0)) (Pt b λe=>Ld .slice w ((e.add 5).add 16) λf=>c (decide (a<(f.len:Int)))) (c false))):=χ Tryz.func26
theorem Ve {b c d e f g h i j k l w K}:gB (zD b c d e f g h i j k l w K)
 (Al w (.cells ⟨(gQ b c d e f g h i j k l)⟩ 40) λm n=>let o:Bool->b_:=λp q=>(K p q)
 iC n m λr s t u v x y z A B C=>EY r s t u v x y z A B C n λD a=>(cond (D==0) (iC a m λE F G H I J L M N O P=>EZ E F G H I J L M N O P a λQ R=>o Q R) (o false a))):=χ Tryz.func27
theorem Vd {n o p q r s t u v x y w K}:gB (zC n o p q r s t u v x y w K)
 (Al w (.cells ⟨(gQ n o p q r s t u v x y)⟩ 40) λz B=>Al B (.cells ⟨alN⟩ 84) λd i=>fM i (z.add 4) λC=>(cond (C !=1) (ig alN i d 0 λf=>fM f (d.add 0) λD=>fM f (d.add 1) λE=>fM f (d.add 2) λF=>Ld .slice f (d.add 3) λG=>K D E F G false f) (Ld .slice i (z.add 10) λH=>zA H i λI J L m M N=>Al N (.cells ⟨alN⟩ 84) λb O=>ig [.int .i64 I,.int .i64 J,.int .i64 L,.slice m.a m.len m.cap] O b 0 λe=>let A:Bool->b_:=λP g=>(fM g (d.add 0) λQ=>fM g (d.add 1) λR=>fM g (d.add 2) λS=>Ld .slice g (d.add 3) λT=>K Q R S T P g)
 fM e.drew (b.add 0) λj=>fM e.drew (b.add 1) λk=>fM e.drew (b.add 2) λl=>Ld .slice e.drew (b.add 3) λc=>(cond (M==0) (fM e.drew b λU=>Ey U e.drew λV h=>h.cell? (b.add 0)=some (.int .i64 j)/\
 h.cell? (b.add 1)=some (.int .i64 k)/\
 h.cell? (b.add 2)=some (.int .i64 l)/\
 h.cell? (b.add 3)=some (.slice c.a c.len c.cap)/\
 ig [.int .i64 j,.int .i64 k,.int .i64 l,.slice c.a c.len c.cap] h d 0 λW=>A V W) (e.drew.cell? (b.add 0)=some (.int .i64 j)/\
 e.drew.cell? (b.add 1)=some (.int .i64 k)/\
 e.drew.cell? (b.add 2)=some (.int .i64 l)/\
 e.drew.cell? (b.add 3)=some (.slice c.a c.len c.cap)/\
 ig [.int .i64 j,.int .i64 k,.int .i64 l,.slice c.a c.len c.cap] e.drew d 0 λX=>A false X))))):=χ Tryz.func28
theorem D9 {i l m n o p q r s t u v x y z A f w K}:gB (pX i l m n o p q r s t u v x y z A f w K)
 (Al w (.cells ⟨(gQ m n o p q r s t u v x)⟩ 40) λg I=>Al I (.cells ⟨[.int .i64 y,.int .i64 z,.int .i64 A,.slice f.a f.len f.cap]⟩ 84) λe J=>Al J (.cells ⟨ξ⟩ 40) λc B=>Ld .slice B (e.add 3) λL=>xJ L B λM N O P Q R S T U V W X Y Z aa ab=>Al ab (.cells ⟨ξ⟩ 40) λC ac=>Al ac (.cells ⟨alM⟩ 89) λj ad=>ig (gQ M N O P Q R S T U V W) ad C 0 λae=>ig [.int .i64 X,.int .i64 Y,.int .i64 Z] ae j 0 λd=>(cond (aa !=0) (ig ξ d c 0 λD=>iC D c λaf ag ah ai aj ak al am an ao ap=>K af ag ah ai aj ak al am an ao ap 1 D) (Pt i λaq=>Ld .ptr d.drew (aq.add 2) λar=>fM d.drew j λau=>fM d.drew (C.add 6) λav=>fM d.drew (j.add 2) λaw=>oQ ar l au av aw d.drew λax ay k=>(cond (!ay) (ig ξ k c 0 λE=>iC E c λaz aA aB aC aD aE aF aG aH aI aJ=>K az aA aB aC aD aE aF aG aH aI aJ 9 E) (Pt i λaK=>Ld .ptr k (aK.add 2) λaL=>mV aL ax k λaM aN aO aP aQ aR aS aT bR aU=>Al aU (.cells ⟨alP⟩ 107) λh aV=>ig [.int .i64 aM,.int .i64 aN,.int .i64 aO,.int .i64 aP,.int .i64 aQ,.int .i64 aR,.int .i64 aS,.bool aT] aV h 0 λb=>iC b g λaW aX aY aZ a2 a3 a4 a5 a7 a9 ba=>fM b (e.add 0) λbb=>fM b (e.add 1) λbc=>fM b (e.add 2) λbd=>Ld .slice b (e.add 3) λbe=>fM b ((h.add 4).add 1) λbf=>fM b ((h.add 4).add 2) λbg=>GV aW aX aY aZ a2 a3 a4 a5 a7 a9 ba bb bc bd be false bf bg b λbh bi bj bk bl bm bn bo bp bq br bs=>ig (gQ bh bi bj bk bl bm bn bo bp bq br) bs g 0 λF=>fM F ((h.add 4).add 1) λbt=>St F (g.add 5) (.int .i64 bt) λG=>iC G g λbu bv bw bx bz bA bB bC bD bE bF=>ig (gQ bu bv bw bx bz bA bB bC bD bE bF) G c 0 λH=>iC H c λbG bH bI bJ bK bL bM bN bO bP bQ=>K bG bH bI bJ bK bL bM bN bO bP bQ 0 H))))):=χ Tryz.func29
theorem ZX {d e f g h i j k l m n w K}:gB (EG d e f g h i j k l m n w K)
 (Al w (.cells ⟨(gQ d e f g h i j k l m n)⟩ 40) λr s=>Al s (.cells ⟨alM⟩ 89) λa o=>iC o r λt u v x y z A B C D E=>rY t u v x y z A B C D E o λF p q=>(cond (p !=0) (ig alM q a 0 λb=>fM b (a.add 0) λG=>fM b (a.add 1) λH=>fM b (a.add 2) λI=>K G H I p b) (KO υ F "goosepond/ports.ports" [] [.agg [ν,ν,ν]] q λJ L M N=>ig [.int .i64 J,.int .i64 L,.int .i64 M] N a 0 λc=>fM c (a.add 0) λO=>fM c (a.add 1) λP=>fM c (a.add 2) λQ=>K O P Q 0 c))):=χ Tryz.func30
theorem ZV {a w K}:gB (ED a w K)
 ((cond (a==8) (K 4 w) (K 1 w))):=χ Tryz.func31
theorem Il {n r s t u v x y z A B C D E F G H I w K}:gB (jS n r s t u v x y z A B C D E F G H I w K)
 (Al w (.cells ⟨[.int .i64 r,.int .i64 s,.int .i64 t,.int .i64 u]⟩ 46) λd R=>Al R (.cells ⟨[.int .i64 v,.int .i64 x]⟩ 94) λJ S=>Al S (.cells ⟨(gQ y z A B C D E F G H I)⟩ 40) λL T=>Al T (.cells ⟨alO⟩ 96) λa q=>fM q (J.add 0) λU=>fM q (J.add 1) λV=>Al q (.cells ⟨alO⟩ 96) λb W=>ig [.int .i64 0,.bool false,.int .i64 0,.bool false,.int .i64 0,.int .i64 U,.int .i64 V] W b 0 λm=>Pt n λX=>Ld .ptr m.drew (X.add 2) λY=>fM m.drew (d.add 0) λZ=>fM m.drew (d.add 1) λaa=>fM m.drew (d.add 2) λab=>fM m.drew (d.add 3) λac=>oQ Y Z aa ab ac m.drew λad ae af=>St af b (.int .i64 ad) λag=>St ag (b.add 1) (.bool ae) λe=>fM e (b.add 0) λah=>Ld .bool e (b.add 1) λai=>fM e (b.add 2) λaj=>Ld .bool e (b.add 3) λak=>fM e (b.add 4) λal=>fM e (b.add 5) λam=>fM e (b.add 6) λan=>pY n ah ai aj ak al am an e λao ap aq ar au av aw ax=>ig [.int .i64 ao,.bool ap,.int .i64 aq,.bool ar,.int .i64 au,.int .i64 av,.int .i64 aw] ax b 0 λc=>fM c (b.add 0) λay=>Ld .bool c (b.add 1) λaz=>fM c (b.add 2) λaA=>Ld .bool c (b.add 3) λaB=>fM c (b.add 4) λaC=>fM c (b.add 5) λaD=>fM c (b.add 6) λaE=>iC c L λaF aG aH aI aJ aK aL aM aN aO aP=>BO ay az aA aB aC aD aE aF aG aH aI aJ aK aL aM aN aO aP true c λaQ aR o=>(cond (!aR) (ig alO o a 0 λf=>fM f (a.add 0) λaS=>Ld .bool f (a.add 1) λaT=>fM f (a.add 2) λaU=>Ld .bool f (a.add 3) λaV=>fM f (a.add 4) λaW=>fM f (a.add 5) λaX=>fM f (a.add 6) λaY=>K aS aT aU aV aW aX aY (Value.iface 102 (Value.int .i64 8)) f) (let M:Bool->b_:=λaZ p=>((cond aZ (ig alO p a 0 λg=>fM g (a.add 0) λa1=>Ld .bool g (a.add 1) λa2=>fM g (a.add 2) λa3=>Ld .bool g (a.add 3) λa4=>fM g (a.add 4) λa5=>fM g (a.add 5) λa7=>fM g (a.add 6) λa9=>K a1 a2 a3 a4 a5 a7 a9 (Value.iface 102 (Value.int .i64 9)) g) (let N:Bool->b_:=λba h=>((cond ba (ig alO h a 0 λi=>fM i (a.add 0) λbb=>Ld .bool i (a.add 1) λbc=>fM i (a.add 2) λbd=>Ld .bool i (a.add 3) λbe=>fM i (a.add 4) λbf=>fM i (a.add 5) λbg=>fM i (a.add 6) λbh=>K bb bc bd be bf bg bh (Value.iface 102 (Value.int .i64 6)) i) (let O:b_:=λbi=>(St bi (b.add 4) (.int .i64 aQ) λj=>fM j (b.add 0) λbj=>Ld .bool j (b.add 1) λbk=>fM j (b.add 2) λbl=>Ld .bool j (b.add 3) λbm=>fM j (b.add 4) λbn=>fM j (b.add 5) λbo=>fM j (b.add 6) λbp=>ig [.int .i64 bj,.bool bk,.int .i64 bl,.bool bm,.int .i64 bn,.int .i64 bo,.int .i64 bp] j a 0 λk=>fM k (a.add 0) λbq=>Ld .bool k (a.add 1) λbr=>fM k (a.add 2) λbs=>Ld .bool k (a.add 3) λbt=>fM k (a.add 4) λbu=>fM k (a.add 5) λbv=>fM k (a.add 6) λbw=>K bq br bs bt bu bv bw Value.nilIface k)
 Ld .bool h (b.add 1) λbx=>(cond (!bx) (fM h (d.add 0) λbz=>fM h (d.add 1) λbA=>fM h (d.add 2) λbB=>fM h (d.add 3) λbC=>uV n bz bA bB bC h λbD P Q=>FQ υ .neq 98 P .nilIface λbE=>IfB bE λbF=>(cond bF (ig alO Q a 0 λl=>fM l (a.add 0) λbG=>Ld .bool l (a.add 1) λbH=>fM l (a.add 2) λbI=>Ld .bool l (a.add 3) λbJ=>fM l (a.add 4) λbK=>fM l (a.add 5) λbL=>fM l (a.add 6) λbM=>K bG bH bI bJ bK bL bM P l) (St Q b (.int .i64 bD) λbN=>St bN (b.add 1) (.bool true) λbO=>O bO))) (O h)))))
 Ld .bool p (b.add 3) λbP=>(cond (!bP) (nJ n p λbQ bR=>N bQ bR) (N false p)))))
 Ld .bool o (b.add 1) λbS=>(cond (!bS) (iC o L λbT bU bV bW bX bY bZ b0 b1 b2 b3=>Az bT bU bV bW bX bY bZ b0 b1 b2 b3 o λb4 b5=>M b4 b5) (M false o))))):=χ Tryz.func32
theorem TI {c d e w K}:gB (uI c d e w K)
 (Al w (.cells ⟨alL⟩ 94) λa g=>let f:Int->Prop:=λh=>(ig [.int .i64 d,.int .i64 h] g a 0 λb=>fM b (a.add 0) λi=>fM b (a.add 1) λj=>K i j b)
 (cond (c==1) (f 0) (f e))):=χ Tryz.func33
theorem JV {d i j k l m n o p f w K}:gB (ni d i j k l m n o p f w K)
 (Al w (.cells ⟨[.int .i64 i,.bool j,.int .i64 k,.bool l,.int .i64 m,.int .i64 n,.int .i64 o]⟩ 96) λb g=>Pt d λq=>fM g.drew (q.add 41) λc=>Pt d λs=>rO g.drew (s.add 5) λt u v x y z A B C D E F G H I J L M N O P Q R S T U V W X Y Z aa ab ac ad ae=>CU t u v x y z A B C D E F G H I J L M N O P Q R S T U V W X Y Z aa ab ac ad ae p f g.drew λe a=>a.cell? (q.add 41)=some (.int .i64 c)/\
 let r:b_:=λh=>(Pt d λaf=>Ld .ptr h.drew (af.add 4) λag=>fM h.drew (b.add 2) λah=>rC ag ah (if (1099511627776:Int)<(ο.wrap (c+e)) then 1099511627776 else (ο.wrap (c+e))) h.drew λay ai=>K ai)
 Ld .bool a (b.add 3) λaj=>(cond aj (Pt d λak=>Ld .ptr a.drew (ak.add 3) λal=>fM a.drew (b.add 2) λam=>uo al am f (if (1099511627776:Int)<(ο.wrap (c+e)) then 1099511627776 else (ο.wrap (c+e))) a.drew λaz an=>r an) (Pt d λao=>Ld .ptr a.drew (ao.add 3) λap=>fM a.drew b λaq=>fM a.drew ((b.add 5).add 0) λar=>fM a.drew ((b.add 5).add 1) λau=>uj ap aq f (if (1099511627776:Int)<(ο.wrap (c+e)) then 1099511627776 else (ο.wrap (c+e))) ar au a.drew λav aA aw=>St aw (b.add 2) (.int .i64 av) λax=>r ax))):=χ Tryz.func35
theorem Tq {f g w K}:gB (mV f g w K)
 (Al w (.cells ⟨alP⟩ 107) λa h=>xH f g h λi b=>(cond (!i) (ig alP b a 0 λc=>fM c (a.add 0) λj=>fM c (a.add 1) λk=>fM c (a.add 2) λl=>fM c (a.add 3) λm=>fM c (a.add 4) λn=>fM c (a.add 5) λo=>fM c (a.add 6) λp=>Ld .bool c (a.add 7) λq=>K j k l m n o p q false c) (Pt f λr=>Ld .slice b r λs=>iF s 9 g λe=>fM b (e.add 0) λt=>fM b (e.add 1) λu=>fM b (e.add 2) λv=>fM b (e.add 3) λx=>fM b (e.add 4) λy=>fM b (e.add 5) λz=>fM b (e.add 6) λA=>Ld .bool b (e.add 7) λB=>ig [.int .i64 t,.int .i64 u,.int .i64 v,.int .i64 x,.int .i64 y,.int .i64 z,.int .i64 A,.bool B] b a 0 λd=>fM d (a.add 0) λC=>fM d (a.add 1) λD=>fM d (a.add 2) λE=>fM d (a.add 3) λF=>fM d (a.add 4) λG=>fM d (a.add 5) λH=>fM d (a.add 6) λI=>Ld .bool d (a.add 7) λJ=>K C D E F G H I J true d))):=χ Tryz.func36
theorem Vj {b c d e f g h i j k l m n w K}:gB (EF b c d e f g h i j k l m n w K)
 (Al w (.cells ⟨(gQ b c d e f g h i j k l)⟩ 40) λo r=>Al r (.cells ⟨ξ⟩ 40) λp a=>iC a o λs t u v x y z A B C D=>fM a (o.add 6) λE=>xI s t u v x y z A B C D m E n (-1) a λF G H I J L M N O P Q R S=>ig (gQ F G H I J L M N O P Q) S p 0 λq=>iC q p λT U V W X Y Z aa ab ac ad=>K T U V W X Y Z aa ab ac ad R q):=χ Tryz.func37
theorem TU {a w K}:gB (xO a w K)
 (Al w (.cells ⟨ξ⟩ 40) λb d=>EM a false d λe f g h i j k l m n o p q=>ig (gQ e f g h i j k l m n o) q b 0 λc=>iC c b λr s t u v x y z A B C=>K r s t u v x y z A B C p c):=χ Tryz.func38
theorem TV {j k l m n g w K}:gB (Df j k l m n g w K)
 (Al w (.cells ⟨[.int .i64 l,.int .i64 m,.bool n,.slice g.a g.len g.cap]⟩ 116) λb d=>fM d (b.add 0) λr=>fM d (b.add 1) λs=>Ld .bool d (b.add 2) λt=>Ld .slice d (b.add 3) λu=>Dh r s t u d λo c=>(cond (o !=0) (K ⟨none,0,0⟩ o c) (fM c (b.add 0) λv=>fM c (b.add 1) λx=>Ld .bool c (b.add 2) λy=>Ld .slice c (b.add 3) λz=>xP v x y z 0 c λe h=>Ld .bool h (b.add 2) λA=>(cond A (K e 0 h) (AL j k 17 (e.len:Int) h λi B=>Al B (.cells ⟨[.slice i.a i.len i.cap,.slice e.a e.len e.cap]⟩ 38) λC D=>EL ⟨(some C),2,2⟩ D λp f=>let q:Int->Prop:=λE=>(fM f (b.add 0) λF=>fM f (b.add 1) λG=>Ld .bool f (b.add 2) λH=>Ld .slice f (b.add 3) λI=>xP F G H I E f λJ L=>K J 0 L)
 (cond (p==0) (q 65535) (q p))))))):=χ Tryz.func39
theorem TS {h i j k l m n o p q r w K}:gB (Dc h i j k l m n o p q r w K)
 (Al w (.cells ⟨(gQ h i j k l m n o p q r)⟩ 40) λb s=>iC s b λU V W X Y Z aa ab ac ad ae=>xM U V W X Y Z aa ab ac ad ae s λt d=>(cond (t !=0) (K ⟨none,0,0⟩ t d) (iC d.drew b λu v x y z A B C D E F=>iC d.drew b λaf ag ah ai aj ak al am an ao ap=>wu af ag ah ai aj ak al am an ao ap d.drew λaq G=>UK (gQ u v x y z A B C D E F) G b 0 (
 zI u v x y z A B C D E F aq 0 G λf ar=>Al ar (.cells ⟨[.slice f.a f.len f.cap]⟩ 38) λau av=>EL ⟨(some au),1,1⟩ av λaw e=>iC e.drew b λH I J L M N O P Q R S=>iC e.drew b λax ay az aA aB aC aD aE aF aG aH=>Ld .slice e.drew (b.add 10) λc=>wu ax ay az aA aB aC aD aE aF aG aH e.drew λaI g=>g.cell? (b.add 10)=some (.slice c.a c.len c.cap)/\
 UK (gQ H I J L M N O P Q R S) g b 0 (
 zI H I J L M N O P Q R S aI aw g λaJ T=>T.cell? (b.add 10)=some (.slice c.a c.len c.cap)/\
 mW 5 1 1 [(Value.int .u8 0)] aJ c T λaK aL=>K aK 0 aL))))):=χ Tryz.func40
theorem FK {b a w K}:gB (qV b a w K)
 (oL b w λi d=>(cond (!i) (K ⟨none,0,0⟩ d) (Pt b λj=>fM d (j.add 449) λc=>iH (S:=fU×Unit) (λe k l=>vg b k λf m g=>let h:Bool->Prop:=λn=>((cond n (n_ b (if (if (1099511627776:Int)<a then 1099511627776 else a)>c then (if (1099511627776:Int)<a then 1099511627776 else a) else c) g λo=>K e.1 o) (n_ b f g λp=>wz b p λq r=>mW 3 1 8 [(Value.int .i64 0)] e.1 q r λs t=>l (s,()) t)))
 (cond (!m) (h true) (h (decide (f>(if (if (1099511627776:Int)<a then 1099511627776 else a)>c then (if (1099511627776:Int)<a then 1099511627776 else a) else c)))))) (⟨none,0,0⟩,()) d))):=χ Tryz.func41 (fQ (fQ (fQ (fQ (fQ (.seq (.blk (.loop [(5,.slice)] .leaf)) .leaf))))))
theorem IB {f g w K}:gB (lY f g w K)
 (Al w (.cells ⟨alQ⟩ 120) λa h=>lZ f g h λi b=>(cond (!i) (ig alQ b a 0 λc=>fM c (a.add 0) λj=>fM c (a.add 1) λk=>fM c (a.add 2) λl=>fM c (a.add 3) λm=>fM c (a.add 4) λn=>K j k l m n false c) (Pt f λo=>Ld .slice b o λp=>iF p 6 g λe=>fM b (e.add 0) λq=>fM b (e.add 1) λr=>fM b (e.add 2) λs=>fM b (e.add 3) λt=>fM b (e.add 4) λu=>ig [.int .i64 q,.int .i64 r,.int .i64 s,.int .i64 t,.int .i64 u] b a 0 λd=>fM d (a.add 0) λv=>fM d (a.add 1) λx=>fM d (a.add 2) λy=>fM d (a.add 3) λz=>fM d (a.add 4) λA=>K v x y z A true d))):=χ Tryz.func42
theorem Ec {b m w K}:gB (qj b m w K)
 (iL (Value.int .i64 m)=true/\
 Al w (.cells ⟨[.int .i64 m]⟩ 3) λg p=>fM p g λD=>lZ b D p λE d=>(cond (!E) (K false d) (Pt b λq=>Ld .slice d.drew q λi=>fM d.drew g λr=>iF i 6 r λc=>fM d.drew (c.add 0) λs=>fM d.drew (c.add 1) λt=>fM d.drew (c.add 2) λu=>fM d.drew (c.add 3) λv=>fM d.drew (c.add 4) λx=>Al d.drew (.cells ⟨alQ⟩ 120) λf e=>e.cell? (c.add 0)=some (.int .i64 s)/\
 e.cell? (c.add 1)=some (.int .i64 t)/\
 e.cell? (c.add 2)=some (.int .i64 u)/\
 e.cell? (c.add 3)=some (.int .i64 v)/\
 e.cell? (c.add 4)=some (.int .i64 x)/\
 e.cell? g=some (.int .i64 r)/\
 e.cell? q=some (.slice i.a i.len i.cap)/\
 ig [.int .i64 s,.int .i64 t,.int .i64 u,.int .i64 v,.int .i64 x] e f 0 λh=>Pt b λy=>Ld .ptr h.drew (y.add 1) λz=>fM h.drew f λF=>fM h.drew ((f.add 3).add 0) λG=>fM h.drew ((f.add 3).add 1) λH=>uK F G H h.drew λI A=>A.cell? (y.add 1)=some (.pointer z)/\
 lX z I A λad j=>Pt b λJ=>Ld .map j.drew (J.add 2) λL=>fM j.drew f λM=>rP υ 3 .slice L (Value.int .i64 M) (Value.slice none 0 0) j.drew λN=>mO N (Value.func (.func 110) #[] #[(Value.pointer (some g))]) j.drew λk n=>Pt b λO=>Ld .map n.drew (O.add 2) λP=>fM n.drew f λQ=>oP υ 3 P (Value.int .i64 Q) (Value.slice k.a k.len k.cap) n.drew λl=>let B:b_:=λo=>(Pt b λR=>Ld .slice o.drew R λS=>fM o.drew g λT=>iF S 6 T λU=>ig alW o.drew U 0 λC=>Pt b λV=>fM C (V.add 3) λW=>Pt b λX=>St C (X.add 3) (.int .i64 (ο.wrap (W - 1))) λY=>K true Y)
 (cond ((k.len:Int)==0) (Pt b λZ=>Ld .map l.drew (Z.add 2) λaa=>fM l.drew f λab=>Gy υ 3 aa (Value.int .i64 ab) l.drew λac=>B ac) (B l))))):=χ Tryz.func43
theorem Gg {d e w K}:gB (rV d e w K)
 (Al w (.cells ⟨[.bool false]⟩ 4) λb j=>Pt d λn=>Ld .ptr j (n.add 2) λo=>mV o e j λp q r s t u v x y z=>Al z (.cells ⟨alP⟩ 107) λk A=>ig [.int .i64 p,.int .i64 q,.int .i64 r,.int .i64 s,.int .i64 t,.int .i64 u,.int .i64 v,.bool x] A k 0 λc=>let l:Bool->Prop:=λB=>((cond B (St c b (.bool false) λm=>Ld .bool m b λC=>K C m) (Pt d λD=>Ld .ptr c (D.add 3) λE=>ny E e c λF a=>zn υ none [.one ν,.agg [ν,ν,ν,ν,ν]] F a (λf N g G=>g.heap[f]? =g.heap[f]? /\
 St (gG g f) b (Value.bool false) λH=>G .ret H)
 (λI=>St I b (.bool true) λh=>h.heap[a.heap.size]? =some (.deferred (some []))/\
 Ld .bool (h.putObj a.heap.size (.deferred none)) b λJ=>K J (h.putObj a.heap.size (.deferred none)))
 (λi=>i.heap[a.heap.size]? =some (.deferred (some []))/\
 Ld .bool (i.putObj a.heap.size (.deferred none)) b λL=>K L (i.putObj a.heap.size (.deferred none)))
 [])))
 (cond (!y) (l true) (Ld .bool c (k.add 7) λM=>l M))):=χ Tryz.func44 (fQ (fQ (fQ (.seq (fQ (.blk (.rng [.one ν,.agg [ν,ν,ν,ν,ν]] .leaf .leaf))) .leaf))))
theorem Fq {a d w K}:gB (qQ a d w K)
 (Pt a λh=>Ld .ptr w (h.add 2) λi=>mV i d w λj k l m n o p q r s=>Al s (.cells ⟨alP⟩ 107) λb t=>ig [.int .i64 j,.int .i64 k,.int .i64 l,.int .i64 m,.int .i64 n,.int .i64 o,.int .i64 p,.bool q] t b 0 λf=>(cond (!r) (K f) (uh a d f λg=>Pt a λu=>Ld .ptr g (u.add 2) λv=>wU v d g λG c=>Pt a λx=>Ld .ptr c.drew x λy=>fM c.drew ((b.add 4).add 0) λz=>fM c.drew ((b.add 4).add 1) λA=>fM c.drew ((b.add 4).add 2) λB=>wX y z A B c.drew λH e=>Pt a λC=>Ld .ptr e.drew (C.add 1) λD=>fM e.drew b λE=>uY D E e.drew λI F=>K F))):=χ Tryz.func45
theorem O6 {t u v x y z A B C D E F G H I J L M N O P Q R S T U V W X Y Z aa ab ac ad ae w K}:gB (yO t u v x y z A B C D E F G H I J L M N O P Q R S T U V W X Y Z aa ab ac ad ae w K)
 (Al w (.cells ⟨(jo t u v x y z A B C D E F G H I J L M N O P Q R S T U V W X Y Z aa ab ac ad ae)⟩ 28) λa w2=>let d:Bool->b_:=λj5 w6=>(let b:Bool->b_:=λj8 w9=>(let e:Bool->b_:=λak f=>(let g:Bool->b_:=λal am=>(K al am)
 (cond j5 (cond j8 (cond ak (fM f (a.add 18) λan=>iP an 1 65535 f λao h=>(cond ao (fM h (a.add 19) λap=>fM h (a.add 18) λaq=>iP ap aq 65535 h λar au=>g ar au) (g false h))) (g false f)) (g false f)) (g false f)))
 fM w9 (a.add 30) λav=>iP av 120 1048576 w9 λaw i=>(cond aw (fM i (a.add 31) λax=>iP ax 7440 1048576 i λay j=>(cond ay (fM j (a.add 32) λaz=>iP az 240 1048576 j λaA k=>(cond aA (fM k (a.add 33) λaB=>iP aB 60 1048576 k λaC l=>(cond aC (fM l (a.add 34) λaD=>iP aD 1 1048576 l λaE aF=>e aE aF) (e false l))) (e false k))) (e false j))) (e false i)))
 fM w6 (a.add 25) λaG=>iP aG 1280 65535 w6 λaH m=>(cond aH (fM m (a.add 26) λaI=>iP aI 1280 65535 m λaJ n=>(cond aJ (fM n (a.add 27) λaK=>iP aK 1 255 n λaL c=>(cond aL (fM c (a.add 28) λaM=>(cond (aM==0) (fM c (a.add 29) λaN=>iP aN 0 2 c λaO aP=>b aO aP) (fM c (a.add 28) λaQ=>iP aQ 536 65535 c λaR o=>(cond aR (fM o (a.add 29) λaS=>iP aS 0 2 o λaT aU=>b aT aU) (b false o))))) (b false c))) (b false n))) (b false m)))
 fM w2 (a.add 20) λaV=>iP aV 1 4096 w2 λaW p=>(cond aW (fM p (a.add 21) λaX=>iP aX 1 4096 p λaY q=>(cond aY (fM q (a.add 22) λaZ=>iP aZ 1 4096 q λa0 r=>(cond a0 (fM r (a.add 23) λa1=>iP a1 0 4096 r λa2 s=>(cond a2 (fM s (a.add 24) λa4=>iP a4 0 67108864 s λa5 a6=>d a5 a6) (d false s))) (d false r))) (d false q))) (d false p))):=χ Tryz.func46
theorem Ua {m n o p q r s t u v x y z A B C D E F G H I J L M N O P Q R T U V W X Y w K}:gB (Dj m n o p q r s t u v x y z A B C D E F G H I J L M N O P Q R T U V W X Y w K)
 (Al w (.cells ⟨(jo m n o p q r s t u v x y z A B C D E F G H I J L M N O P Q R T U V W X Y)⟩ 28) λa Z=>let e:Bool->b_:=λj5 w6=>((cond j5 (K false w6) (iH (S:=Int×Unit) (λh f af=>Ld .slice f (a.add 16) λag=>(cond (decide (h.1<(ag.len:Int))) (Ld .slice f (a.add 16) λah=>iF ah 16 h.1 λai=>uH f ai λaj ak al am an ao ap aq ar au av aw ax ay az aA=>zG aj ak al am an ao ap aq ar au av aw ax ay az aA f λaB ab=>(cond (!aB) (K false ab) (af ((ο.wrap (h.1+1)),()) ab))) (iH (S:=Int×Unit) (λi g aC=>Ld .slice g (a.add 17) λaD=>(cond (decide (i.1<(aD.len:Int))) (Ld .slice g (a.add 17) λaE=>iF aE 1 i.1 λaF=>fM g aF λaG=>zF aG g λaH ac=>(cond (!aH) (K false ac) (aC ((ο.wrap (i.1+1)),()) ac))) (iH (S:=Int×Unit) (λj b aI=>Ld .slice b (a.add 35) λaJ=>(cond (decide (j.1<(aJ.len:Int))) (rO b.drew a λaK aL aM aN aO aP aQ aR aS aT aU aV aW aX aY aZ a0 a1 a2 a4 a5 a6 a7 a8 a9 ba bb bc bd be bf bg bh bi bj bk=>Ld .slice b.drew (a.add 35) λbl=>iF bl 7 j.1 λc=>fM b.drew (c.add 0) λbm=>fM b.drew (c.add 1) λbn=>fM b.drew (c.add 2) λbo=>fM b.drew (c.add 3) λbp=>fM b.drew (c.add 4) λbq=>fM b.drew (c.add 5) λbr=>fM b.drew (c.add 6) λbs=>AO aK aL aM aN aO aP aQ aR aS aT aU aV aW aX aY aZ a0 a1 a2 a4 a5 a6 a7 a8 a9 ba bb bc bd be bf bg bh bi bj bk bm bn bo bp bq br bs b.drew λbt ad=>(cond (!bt) (K false ad) (aI ((ο.wrap (j.1+1)),()) ad))) (K true b))) (0,()) g))) (0,()) f))) (0,()) w6)))
 uH Z a λbu bv bw bx bz bA bB bC bD bE bF bG bH bI bJ bK=>zG bu bv bw bx bz bA bB bC bD bE bF bG bH bI bJ bK Z λbL k=>(cond (!bL) (e true k) (Ld .slice k (a.add 16) λbM=>iP (bM.len:Int) 1 64 k λbN l=>(cond (!bN) (e true l) (Ld .slice l (a.add 17) λbO=>iP (bO.len:Int) 1 16 l λbP d=>(cond (!bP) (e true d) (Ld .slice d (a.add 35) λbQ=>(cond (decide ((bQ.len:Int)>64)) (e true d) (Ld .slice d (a.add 35) λbR=>fM d (a.add 21) λbS=>e (decide ((bR.len:Int)>bS)) d))))))))):=χ Tryz.func47 (fQ (fQ (.seq (fQ (.blk (.loop [(3,ν)] .leaf))) (.seq (fQ (.blk (.loop [(4,ν)] .leaf))) (.seq (fQ (.blk (.loop [(5,ν)] .leaf))) .leaf)))))
theorem Ub {s t u v x y z A B C D E F G H I J L M N O P Q R T U V W X Y Z aa ab ac ad ae w K}:gB (Dk s t u v x y z A B C D E F G H I J L M N O P Q R T U V W X Y Z aa ab ac ad ae w K)
 (Al w (.cells ⟨(jo s t u v x y z A B C D E F G H I J L M N O P Q R T U V W X Y Z aa ab ac ad ae)⟩ 28) λb w2=>iH (S:=Int×Unit) (λh l ai=>Ld .slice l (b.add 16) λx7=>(cond (decide (h.1<(x7.len:Int))) (iH (S:=Int×Unit) (λm c ak=>(cond (decide (m.1<h.1)) (Ld .slice c.drew (b.add 16) λal=>iF al 16 m.1 λam=>uH c.drew am λan ao ap aq ar au av aw ax ay az aA aB aC aD aE=>Ld .slice c.drew (b.add 16) λaF=>iF aF 16 h.1 λaG=>uH c.drew aG λaH aI aJ aK aL aM aN aO aP aQ aR aS aT aU aV aW=>(cond ((an==aH) && ((ao==aI) && ((ap==aJ) && ((aq==aK) && ((ar==aL) && ((au==aM) && ((av==aN) && ((aw==aO) && ((ax==aP) && ((ay==aQ) && ((az==aR) && ((aA==aS) && ((aB==aT) && ((aC==aU) && ((aD==aV) && ((aE==aW) && true)))))))))))))))) (K true c.drew) (ak ((ο.wrap (m.1+1)),()) c.drew))) (Ld .slice c.drew (b.add 16) λaX=>iF aX 16 h.1 λaY=>uH c.drew aY λaZ a0 a1 a2 a4 a5 a6 a7 a8 a9 ba bb bc bd be bf=>uH c.drew b λbg bh bi bj bk bl bm bn bo bp bq br bs bt bu bv=>(cond ((aZ==bg) && ((a0==bh) && ((a1==bi) && ((a2==bj) && ((a4==bk) && ((a5==bl) && ((a6==bm) && ((a7==bn) && ((a8==bo) && ((a9==bp) && ((ba==bq) && ((bb==br) && ((bc==bs) && ((bd==bt) && ((be==bu) && ((bf==bv) && true)))))))))))))))) (K true c.drew) (ai ((ο.wrap (h.1+1)),()) c.drew))))) (0,()) l) (iH (S:=Int×Unit) (λi n bw=>Ld .slice n (b.add 17) λbx=>(cond (decide (i.1<(bx.len:Int))) (iH (S:=Int×Unit) (λo e bz=>(cond (decide (o.1<i.1)) (Ld .slice e.drew (b.add 17) λbA=>iF bA 1 o.1 λbB=>fM e.drew bB λbC=>Ld .slice e.drew (b.add 17) λbD=>iF bD 1 i.1 λbE=>fM e.drew bE λbF=>(cond (bC==bF) (K true e.drew) (bz ((ο.wrap (o.1+1)),()) e.drew))) (bw ((ο.wrap (i.1+1)),()) e))) (0,()) n) (iH (S:=Int×Unit) (λg p bG=>Ld .slice p (b.add 35) λbH=>(cond (decide (g.1<(bH.len:Int))) (iH (S:=Int×Int×Unit) (λd a bI=>(cond (decide (d.2.1<g.1)) (let af:Int->b_:=λbJ bK=>(bI (bJ,(ο.wrap (d.2.1+1)),()) bK)
 let ag:Bool->b_:=λbL f=>((cond bL (K true f) (Ld .slice f.drew (b.add 35) λbM=>iF bM 7 d.2.1 λbN=>fM f.drew bN λbO=>Ld .slice f.drew (b.add 35) λbP=>iF bP 7 g.1 λbQ=>fM f.drew bQ λbR=>(cond (bO==bR) (af (ο.wrap (d.1+1)) f.drew) (af d.1 f.drew)))))
 Ld .slice a.drew (b.add 35) λbS=>iF bS 7 d.2.1 λj=>fM a.drew (j.add 0) λbT=>fM a.drew (j.add 1) λbU=>fM a.drew (j.add 2) λbV=>fM a.drew (j.add 3) λbW=>Ld .slice a.drew (b.add 35) λbX=>iF bX 7 g.1 λk=>fM a.drew (k.add 0) λbY=>fM a.drew (k.add 1) λbZ=>fM a.drew (k.add 2) λb0=>fM a.drew (k.add 3) λb1=>(cond ((bT==bY) && ((bU==bZ) && ((bV==b0) && ((bW==b1) && true)))) (ag true a.drew) (Ld .slice a.drew (b.add 35) λb2=>iF b2 7 d.2.1 λq=>fM a.drew ((q.add 4).add 0) λb3=>fM a.drew ((q.add 4).add 1) λb4=>fM a.drew ((q.add 4).add 2) λb5=>Ld .slice a.drew (b.add 35) λb6=>iF b6 7 g.1 λr=>fM a.drew ((r.add 4).add 0) λb7=>fM a.drew ((r.add 4).add 1) λb8=>fM a.drew ((r.add 4).add 2) λb9=>ag ((b3==b7) && ((b4==b8) && ((b5==b9) && true))) a.drew))) (fM a (b.add 20) λca=>(cond (decide (d.1>ca)) (K true a) (bG ((ο.wrap (g.1+1)),()) a))))) (1,0,()) p) (K false p))) (0,()) n))) (0,()) l))) (0,()) w2):=χ Tryz.func48 (fQ (.seq (fQ (.blk (.loop [(3,ν)] (fQ (.seq (.blk (.seq (fQ (.blk (.loop [(4,ν)] .leaf))) .leaf)) .leaf))))) (.seq (fQ (.blk (.loop [(5,ν)] (fQ (.seq (.blk (fQ (.blk (.loop [(6,ν)] .leaf)))) .leaf))))) (.seq (fQ (.blk (.loop [(7,ν)] (fQ (.seq (.blk (fQ (.seq (fQ (.blk (.loop [(8,ν),(9,ν)] .leaf))) .leaf))) .leaf))))) .leaf))))
theorem Qk {b d e f w K}:gB (rQ b d e f w K)
 (Al w (.cells ⟨[.int .i64 d,.int .i64 e,.int .i64 f]⟩ 48) λc j=>lM b j λk a=>(cond (!k) (K 0 false a) (Pt b λg=>Ld .ptr a.drew (g.add 2) λh=>fM a.drew (c.add 0) λl=>fM a.drew (c.add 1) λm=>fM a.drew (c.add 2) λn=>qG l m n a.drew λo i=>i.cell? (g.add 2)=some (.pointer h)/\
 oU h o i λp q r=>K p q r))):=χ Tryz.func51
theorem JR {j n o p q r s t w K}:gB (pY j n o p q r s t w K)
 (Al w (.cells ⟨[.int .i64 n,.bool o,.int .i64 p,.bool q,.int .i64 r,.int .i64 s,.int .i64 t]⟩ 96) λa A=>Al A (.cells ⟨alO⟩ 96) λb c=>Ld .bool c (a.add 1) λB=>(cond (!B) (fM c (a.add 0) λC=>Ld .bool c (a.add 1) λD=>fM c (a.add 2) λE=>Ld .bool c (a.add 3) λF=>fM c (a.add 4) λG=>fM c (a.add 5) λH=>fM c (a.add 6) λI=>ig [.int .i64 C,.bool D,.int .i64 E,.bool F,.int .i64 G,.int .i64 H,.int .i64 I] c b 0 λd=>fM d (b.add 0) λJ=>Ld .bool d (b.add 1) λL=>fM d (b.add 2) λM=>Ld .bool d (b.add 3) λN=>fM d (b.add 4) λO=>fM d (b.add 5) λP=>fM d (b.add 6) λQ=>K J L M N O P Q d) (Pt j λR=>Ld .ptr c.drew (R.add 3) λS=>fM c.drew a λT=>fM c.drew ((a.add 5).add 0) λU=>fM c.drew ((a.add 5).add 1) λV=>nZ S T U V c.drew λW X Y=>St Y (a.add 2) (.int .i64 W) λZ=>St Z (a.add 3) (.bool X) λg=>let u:b_:=λe=>(fM e (a.add 0) λaa=>Ld .bool e (a.add 1) λab=>fM e (a.add 2) λac=>Ld .bool e (a.add 3) λad=>fM e (a.add 4) λae=>fM e (a.add 5) λaf=>fM e (a.add 6) λag=>ig [.int .i64 aa,.bool ab,.int .i64 ac,.bool ad,.int .i64 ae,.int .i64 af,.int .i64 ag] e b 0 λf=>fM f (b.add 0) λah=>Ld .bool f (b.add 1) λai=>fM f (b.add 2) λaj=>Ld .bool f (b.add 3) λak=>fM f (b.add 4) λal=>fM f (b.add 5) λam=>fM f (b.add 6) λan=>K ah ai aj ak al am an f)
 Ld .bool g (a.add 3) λao=>(cond ao (let v:Addr->b_:=λap x=>(fM x (ap.add 1) λaq=>St x (a.add 4) (.int .i64 aq) λar=>u ar)
 Pt j λk=>Ld .ptr g.drew (k.add 3) λh=>fM g.drew (a.add 2) λi=>(lY h i g.drew λau av aw ax ay aI az=>Al az (.cells ⟨alQ⟩ 120) λy l=>l.cell? (a.add 2)=some (.int .i64 i)/\
 l.cell? (k.add 3)=some (.pointer h)/\
 ig [.int .i64 au,.int .i64 av,.int .i64 aw,.int .i64 ax,.int .i64 ay] l y 0 λaA=>v y aA)/\
 (Al g.drew (.cells ⟨alQ⟩ 120) λz m=>m.cell? (a.add 2)=some (.int .i64 i)/\
 m.cell? (k.add 3)=some (.pointer h)/\
 lY h i m λaB aC aD aE aF aJ aG=>ig [.int .i64 aB,.int .i64 aC,.int .i64 aD,.int .i64 aE,.int .i64 aF] aG z 0 λaH=>v z aH)) (u g))))):=χ Tryz.func52
theorem OX {c d e f g h i j k l m n o p q r s t u v x y z A B C D E F G H I J L M N w K}:gB (yJ c d e f g h i j k l m n o p q r s t u v x y z A B C D E F G H I J L M N w K)
 (Al w (.cells ⟨(jo c d e f g h i j k l m n o p q r s t u v x y z A B C D E F G H I J L M N)⟩ 28) λb a=>Ld .slice a (b.add 16) λP=>Ld .slice a (b.add 17) λQ=>Ld .slice a (b.add 35) λR=>fM a (b.add 21) λO=>fM a (b.add 18) λS=>fM a (b.add 19) λT=>fM a (b.add 18) λU=>fM a (b.add 20) λV=>fM a (b.add 21) λW=>fM a (b.add 22) λX=>fM a (b.add 23) λY=>fM a (b.add 24) λZ=>fM a (b.add 25) λaa=>fM a (b.add 26) λab=>fM a (b.add 27) λac=>fM a (b.add 29) λad=>fM a (b.add 30) λae=>fM a (b.add 31) λaf=>fM a (b.add 32) λag=>fM a (b.add 33) λah=>fM a (b.add 34) λai=>Al a (.cells ⟨(aiO (P.len:Int) 1 64 (Q.len:Int) 1 16 (R.len:Int) 0 (if O<64 then O else 64) S 1 65535 T U 65535 V 1 4096 W 1 4096 X 1 4096 Y 0 4096 Z 0 67108864 aa 1280 65535 ab 1280 65535 ac 1 255 ad 0 2 ae 120 1048576 af 7440 1048576 ag 240 1048576 ah 60 1048576 ai 1 1048576)⟩ 136) λaj ak=>K ⟨(some aj),19,19⟩ ak):=χ Tryz.func57
theorem LD {c d e w K}:gB (kK c d e w K)
 (Al w (.cells ⟨[.int .i64 c,.int .i64 d,.int .i64 e]⟩ 136) λb a=>let f:Bool->Prop:=λg=>(K g a)
 fM a (b.add 1) λh=>fM a b λi=>(cond (decide (h<=i)) (fM a b λj=>fM a (b.add 2) λk=>f (decide (j<=k))) (f false))):=χ Tryz.func58
theorem Qr {a w K}:gB (Ar a w K)
 (let b:Bool->b_:=λc d=>(K c d)
 (cond (a==0) (b true w) (kK a 536 65535 w λe f=>b e f))):=χ Tryz.func59
theorem Qp {e f g h i j k l m n o p q r s t u v x y z A B C D E F G H I J L M N O P w K}:gB (Ap e f g h i j k l m n o p q r s t u v x y z A B C D E F G H I J L M N O P w K)
 (Al w (.cells ⟨(jo e f g h i j k l m n o p q r s t u v x y z A B C D E F G H I J L M N O P)⟩ 28) λa Q=>let R:Bool->b_:=λW b=>((cond W (K false b) (let S:Bool->b_:=λX T=>((cond X (K false T) (K true T)))
 Ld .slice b (a.add 17) λY=>jU Y (Value.func (.func 129) #[] #[]) b λU c=>(cond U (S U c) (Ld .slice c (a.add 35) λZ=>jh Z (Value.func (.func 130) #[] #[(Value.pointer (some a))]) c λaa ab=>S aa ab)))))
 uH Q a λac ad ae af ag ah ai aj ak al am an ao ap aq ar=>ER ac ad ae af ag ah ai aj ak al am an ao ap aq ar Q λV d=>(cond (!V) (R (!V) d) (Ld .slice d (a.add 16) λau=>jR au (Value.func (.func 127) #[] #[]) d λav aw=>R av aw))):=χ Tryz.func60
theorem Nv {F G H I J L M N O P Q R T U V W X Y Z aa ab ac ad ae af ag ah ai aj ak al am an ao ap aq w K}:gB (wV F G H I J L M N O P Q R T U V W X Y Z aa ab ac ad ae af ag ah ai aj ak al am an ao ap aq w K)
 (Al w (.cells ⟨(jo F G H I J L M N O P Q R T U V W X Y Z aa ab ac ad ae af ag ah ai aj ak al am an ao ap aq)⟩ 28) λb f=>let J4:fU->b_:=λj5 w6=>(let g:Bool->b_:=λj8 y=>((cond j8 (K true y) (Ld .slice y (b.add 16) λau=>Y6 3 1 8 [(Value.int .i64 0)] (au.len:Int) (au.len:Int) y λz av=>Ld .slice av (b.add 35) λaw=>iH (S:=Int×Unit) (λA c aG=>(cond (decide (A.1<(aw.len:Int))) (iF aw 7 A.1 λe=>fM c (e.add 0) λaH=>fM c (e.add 1) λaI=>fM c (e.add 2) λaJ=>fM c (e.add 3) λaK=>fM c (e.add 4) λaL=>fM c (e.add 5) λaM=>fM c (e.add 6) λaN=>Al c (.cells ⟨alT⟩ 50) λax aO=>ig [.int .i64 aH,.int .i64 aI,.int .i64 aJ,.int .i64 aK,.int .i64 aL,.int .i64 aM,.int .i64 aN] aO ax 0 λB=>fM B ax λay=>iF z 1 ay λaP=>fM B aP λaQ=>iF z 1 ay λaR=>St B aR (.int .i64 (ο.wrap (aQ+1))) λaS=>aG ((ο.wrap (A.1+1)),()) aS) (jU z (Value.func (.func 148) #[] #[(Value.pointer (some b))]) c λaT aU=>K aT aU))) (0,()) av)))
 lG j5 (Value.func (.func 140) #[] #[]) w6 λaV aW=>pW aV aW λaX C=>(cond aX (g true C) (Ld .slice C (b.add 17) λaY=>qP aY (Value.func (.func 143) #[] #[]) C λaZ a0=>uU aZ a0 λa1 D=>(cond a1 (g true D) (Ld .slice D (b.add 35) λa2=>kC a2 (Value.func (.func 136) #[] #[]) D λa4 a5=>oD a4 a5 λa6 E=>(cond a6 (g true E) (Ld .slice E (b.add 35) λa7=>kD a7 (Value.func (.func 137) #[] #[]) E λa8 a9=>oG a8 a9 λba bb=>g ba bb)))))))
 Ld .slice f.drew (b.add 16) λd=>uH f.drew b λh i j k l m n o p q r s t u v x=>(jQ d f.drew λbc az=>UK (mY h i j k l m n o p q r s t u v x) az b 0 (
 Al az (.cells ⟨(mY h i j k l m n o p q r s t u v x)⟩ 23) λbd aA=>aA.cell? (b.add 16)=some (.slice d.a d.len d.cap)/\
 mW 23 16 16 (mY 0 0 0 0 0 0 0 0 0 0 0 0 0 0 0 0) bc ⟨(some bd),1,1⟩ aA λbe bf=>J4 be bf))/\
 (Al f.drew (.cells ⟨(mY h i j k l m n o p q r s t u v x)⟩ 23) λbg aB=>aB.cell? (b.add 16)=some (.slice d.a d.len d.cap)/\
 jQ d aB λbh aC=>UK (mY h i j k l m n o p q r s t u v x) aC b 0 (
 mW 23 16 16 (mY 0 0 0 0 0 0 0 0 0 0 0 0 0 0 0 0) bh ⟨(some bg),1,1⟩ aC λbi bj=>J4 bi bj))):=χ Tryz.func61 (fQ (fQ (fQ (fQ (fQ (fQ (.seq (fQ (.blk (.loop [(46,ν)] .leaf))) .leaf)))))))
theorem ND {a w K}:gB (rU a w K)
 (lu a w λc b=>(cond (!c) (K false b) (Al b (.cells ⟨[.int .i64 0,.int .i64 8,.int .i64 2130706432,.int .i64 8,.int .i64 3758096384,.int .i64 3]⟩ 258) λd e=>Rx a ⟨(some d),3,3⟩ e λf g=>K (!f) g))):=χ Tryz.func62
theorem sJ {a b w K}:gB (iR a b w K)
 (mP a b w λc d=>K (decide (c>=0)) d):=χ Tryz.func63
theorem Ed {b w K}:gB (mM b w K)
 ((cond (Option.isNone b.a) (K ⟨none,0,0⟩ w) (Al w (.cells ⟨[]⟩ 3) λc d=>mW 3 1 8 [(Value.int .i64 0)] ⟨(some c),0,0⟩ b d λe f=>K e f))):=χ Tryz.func64
theorem ZR {a w K}:gB (Aw a w K)
 (let b:Bool->Prop:=λc=>((cond c (K none 1 w) (Al w (.cells ⟨[.slice none 0 0,.int .i64 0,.int .i64 a,.bool true]⟩ 262) λd e=>K (some d) 0 e)))
 (cond (decide (a<0)) (b true) (b (decide (a>65536))))):=χ Tryz.func65
theorem LQ {g l m n o p q r w K}:gB (vX g l m n o p q r w K)
 (Al w (.cells ⟨[.int .i64 l,.int .i64 m,.int .i64 n,.int .i64 o,.int .i64 p,.int .i64 q,.int .i64 r]⟩ 50) λa d=>fM d (a.add 1) λc=>let h:Bool->Prop:=λs=>((cond s (let e:Bool->b_:=λt b=>(let i:Bool->b_:=λu v=>(K u v)
 (cond t (fM b (a.add 1) λx=>fM b (a.add 4) λy=>(cond (x==y) (fM b a λz=>mG g z b λA B=>i A B) (i false b))) (i false b)))
 fM d.drew (a.add 2) λC=>rU C d.drew λD f=>(cond D (Pt g λE=>Ld .ptr f E λF=>fM f ((a.add 4).add 1) λG=>uS F G f λH j=>(cond H (fM j (a.add 3) λI=>BN I j λJ k=>(cond J (fM k ((a.add 4).add 2) λL=>BN L k λM N=>e M N) (e false k))) (e false j))) (e false f))) (K false d)))
 (cond (c==1) (h (c==1)) (cond (c==6) (h (c==6)) (h (c==17))))):=χ Tryz.func66
theorem Ql {c d e f g w K}:gB (oQ c d e f g w K)
 (Al w (.cells ⟨[.int .i64 d,.int .i64 e,.int .i64 f,.int .i64 g]⟩ 46) λb k=>lM c k λl a=>(cond (!l) (K 0 false a) (Pt c λh=>Ld .ptr a.drew (h.add 1) λi=>fM a.drew (b.add 0) λm=>fM a.drew (b.add 1) λn=>fM a.drew (b.add 2) λo=>fM a.drew (b.add 3) λp=>qF m n o p a.drew λq j=>j.cell? (h.add 1)=some (.pointer i)/\
 oU i q j λr s t=>K r s t))):=χ Tryz.func67
theorem Iw {b c w K}:gB (oJ b c w K)
 (oZ b c w λd e a=>(cond (e !=0) (K 0 a) (Pt d λf=>fM a f λg=>K g a))):=χ Tryz.func68
theorem JU {a w K}:gB (qc a w K)
 (Pt a λe=>Ld .ptr w.drew (e.add 2) λf=>Pt a λb=>fM w.drew ((b.add 5).add 21) λc=>CS f w.drew λg d=>d.cell? ((b.add 5).add 21)=some (.int .i64 c)/\
 K (decide (g>=c)) d):=χ Tryz.func69
theorem JZ {d e w K}:gB (qh d e w K)
 (oZ d e w λb f a=>(cond (f !=0) (K f a) (Pt b λg=>fM a (g.add 0) λh=>fM a (g.add 1) λi=>uZ h i a λj c=>(cond j (K 10 c) (Pt b λk=>fM c k λl=>Pt b λm=>St c m (.int .i64 (ο.wrap (l+1))) λn=>K 0 n))))):=χ Tryz.func70
theorem NQ {c h i j w K}:gB (wY c h i j w K)
 (Al w (.cells ⟨[.int .i64 h,.int .i64 i,.int .i64 j]⟩ 48) λb n=>jT c n λo f=>(cond (!o) (K 2 f) (let e:Bool->b_:=λp a=>((cond p (K 1 a) (Pt c λq=>Ld .map a.drew (q.add 3) λr=>fM a.drew (b.add 0) λs=>fM a.drew (b.add 1) λt=>fM a.drew (b.add 2) λu=>rP υ 48 .bool r (Value.agg ⟨[.int .i64 s,.int .i64 t,.int .i64 u]⟩) (Value.bool false) a.drew λv=>(cond v (K 9 a.drew) (Pt c λx=>Ld .map a.drew.drew (x.add 3) λy=>fM a.drew.drew (b.add 0) λz=>fM a.drew.drew (b.add 1) λA=>fM a.drew.drew (b.add 2) λB=>oP υ 48 y (Value.agg ⟨[.int .i64 z,.int .i64 A,.int .i64 B]⟩) (Value.bool true) a.drew.drew λC=>K 0 C)))))
 fM f b λD=>sU D f λk g=>(cond (!k) (e (!k) g) (fM g (b.add 1) λE=>uS c E g λl d=>(cond (!l) (e (!l) d) (fM d (b.add 2) λm=>(cond (decide (m<0)) (e (decide (m<0)) d) (fM d (b.add 2) λF=>e (decide (F>=65536)) d))))))))):=χ Tryz.func71
theorem Tn {c i j k l m n o p w K}:gB (xG c i j k l m n o p w K)
 (Al w (.cells ⟨[.int .i64 i,.int .i64 j,.int .i64 k,.int .i64 l,.int .i64 m,.int .i64 n,.int .i64 o,.bool p]⟩ 107) λa A=>lM c A λB d=>(cond (!B) (K 0 2 d) (fM d (a.add 0) λC=>fM d (a.add 1) λD=>fM d (a.add 2) λE=>fM d (a.add 3) λF=>oQ c C D E F d λam G g=>fM g ((a.add 4).add 0) λH=>fM g ((a.add 4).add 1) λI=>fM g ((a.add 4).add 2) λJ=>rQ c H I J g λan L q=>let r:Bool->Prop:=λM=>((cond M (K 0 9 q) (Ah c q λh N b=>(cond (!N) (K 0 7 b) (Pt c λO=>Ld .slice b.drew O λP=>fM b.drew (a.add 0) λQ=>fM b.drew (a.add 1) λR=>fM b.drew (a.add 2) λS=>fM b.drew (a.add 3) λT=>fM b.drew (a.add 4) λU=>fM b.drew (a.add 5) λV=>fM b.drew (a.add 6) λW=>Ld .bool b.drew (a.add 7) λX=>iF P 9 h λY=>ig (adL Q R S T U V W X true) b.drew Y 0 λe=>Pt c λs=>Ld .ptr e.drew (s.add 1) λt=>fM e.drew (a.add 0) λZ=>fM e.drew (a.add 1) λaa=>fM e.drew (a.add 2) λab=>fM e.drew (a.add 3) λac=>qF Z aa ab ac e.drew λad u=>u.cell? (s.add 1)=some (.pointer t)/\
 oV t ad h u λao f=>Pt c λv=>Ld .ptr f.drew (v.add 2) λx=>fM f.drew ((a.add 4).add 0) λae=>fM f.drew ((a.add 4).add 1) λaf=>fM f.drew ((a.add 4).add 2) λag=>qG ae af ag f.drew λah y=>y.cell? (v.add 2)=some (.pointer x)/\
 oV x ah h y λap z=>Pt c λai=>fM z (ai.add 3) λaj=>Pt c λak=>St z (ak.add 3) (.int .i64 (ο.wrap (aj+1))) λal=>K h 0 al)))))
 (cond G (r true) (r L))))):=χ Tryz.func72
theorem Θ {l m n o p q r s t u v w K}:gB (EY l m n o p q r s t u v w K)
 (Al w (.cells ⟨(gQ l m n o p q r s t u v)⟩ 40) λa c=>fM c.drew a λH=>fM c.drew (a.add 3) λx=>fM c.drew (a.add 4) λg=>fM c.drew (a.add 1) λd=>kQ H 1 c.drew λI e=>e.cell? (a.add 1)=some (.int .i64 d)/\
 e.cell? (a.add 4)=some (.int .i64 g)/\
 e.cell? (a.add 3)=some (.int .i64 x)/\
 kQ x 1 e λJ h=>h.cell? (a.add 1)=some (.int .i64 d)/\
 h.cell? (a.add 4)=some (.int .i64 g)/\
 kQ g 1 h λL y=>y.cell? (a.add 1)=some (.int .i64 d)/\
 kQ d 2 y λM N=>Al N (.cells ⟨[.bool I,.bool J,.bool L,.bool M]⟩ 4) λO P=>yC ⟨(some O),4,4⟩ P λQ i=>fM i.drew (a.add 5) λR=>fM i.drew (a.add 6) λz=>lu R i.drew λS A=>A.cell? (a.add 6)=some (.int .i64 z)/\
 lu z A λT U=>Al U (.cells ⟨[.bool S,.bool T]⟩ 4) λV W=>yC ⟨(some V),2,2⟩ W λX b=>let B:Bool->b_:=λY j=>(Ld .slice j (a.add 9) λZ=>Ld .slice j (a.add 9) λaa=>(4:Int)≠0/\
 Al j (.cells ⟨[.bool (decide ((Z.len:Int)<=40)),.bool ((Int.tmod (aa.len:Int) 4)==0)]⟩ 4) λab ac=>yC ⟨(some ab),2,2⟩ ac λad ae=>Al ae (.cells ⟨[.bool Q,.bool X,.bool Y,.bool ad]⟩ 4) λaf ag=>yC ⟨(some af),4,4⟩ ag λah k=>(cond (!ah) (K 1 k) (let C:Bool->b_:=λai D=>((cond ai (K 6 D) (K 0 D)))
 iC k a λaj ak al am an ao ap aq ar au av=>Oq aj ak al am an ao ap aq ar au av k λaw f=>(cond (decide (aw>65535)) (C true f) (fM f (a.add 2) λax=>Ld .slice f (a.add 10) λay=>C (decide (ax>(ο.wrap (65535 - (ay.len:Int))))) f)))))
 fM b (a.add 2) λE=>fM b (a.add 2) λF=>fM b (a.add 2) λG=>(8:Int)≠0/\
 Ld .bool b (a.add 8) λaz=>(cond (!az) (Al b (.cells ⟨[.bool (decide (E>=0)),.bool (decide (F<=65528)),.bool ((Int.tmod G 8)==0),.bool true]⟩ 4) λaA aB=>yC ⟨(some aA),4,4⟩ aB λaC aD=>B aC aD) (Ld .slice b (a.add 10) λaE=>(8:Int)≠0/\
 Al b (.cells ⟨[.bool (decide (E>=0)),.bool (decide (F<=65528)),.bool ((Int.tmod G 8)==0),.bool ((Int.tmod (aE.len:Int) 8)==0)]⟩ 4) λaF aG=>yC ⟨(some aF),4,4⟩ aG λaH aI=>B aH aI))):=χ Tryz.func73
theorem Ι {b c d e f g h i j k l w K}:gB (EZ b c d e f g h i j k l w K)
 (Al w (.cells ⟨(gQ b c d e f g h i j k l)⟩ 40) λm a=>let n:Bool->Prop:=λo=>(K o a)
 Ld .bool a (m.add 8) λp=>(cond (!p) (fM a (m.add 2) λq=>n (decide (q<=0))) (n false))):=χ Tryz.func74
theorem Va {c w K}:gB (zA c w K)
 (Al w (.cells ⟨alN⟩ 84) λb h=>(cond (decide ((c.len:Int)<8)) (ig alN h b 0 λd=>fM d (b.add 0) λq=>fM d (b.add 1) λr=>fM d (b.add 2) λs=>Ld .slice d (b.add 3) λt=>K q r s t 3 d) (cond (decide ((c.len:Int)>65535)) (ig alN h b 0 λe=>fM e (b.add 0) λu=>fM e (b.add 1) λv=>fM e (b.add 2) λx=>Ld .slice e (b.add 3) λy=>K u v x y 6 e) (Al h (.cells ⟨[.slice c.a c.len c.cap]⟩ 38) λz A=>yA ⟨(some z),1,1⟩ A λB l=>(cond (!B) (ig alN l b 0 λf=>fM f (b.add 0) λC=>fM f (b.add 1) λD=>fM f (b.add 2) λE=>Ld .slice f (b.add 3) λF=>K C D E F 5 f) (yw c 4 4 l λG N i=>iF c 1 0 λm=>Ld (.int .u8) i.drew m λn=>iF c 1 1 λo=>Ld (.int .u8) i.drew o λp=>kJ c 1 8 (c.len:Int) λH=>gY H i.drew λj k=>k.cell? o=some (.int .u8 p)/\
 k.cell? m=some (.int .u8 n)/\
 ig [.int .i64 (ο.wrap n),.int .i64 (ο.wrap p),.int .i64 G,.slice j.a j.len j.cap] k b 0 λg=>fM g (b.add 0) λI=>fM g (b.add 1) λJ=>fM g (b.add 2) λL=>Ld .slice g (b.add 3) λM=>K I J L M 0 g)))))):=χ Tryz.func75
theorem U_ {a w K}:gB (Ey a w K)
 (Al w (.cells ⟨[.int .i64 3,.int .i64 4,.int .i64 5,.int .i64 11,.int .i64 12]⟩ 3) λb c=>Ez a ⟨(some b),5,5⟩ c λd e=>K d e):=χ Tryz.func76
theorem TP {k w K}:gB (xJ k w K)
 (Al w (.cells ⟨ξ⟩ 40) λc q=>Al q (.cells ⟨alM⟩ 89) λa r=>vZ k r λs t u v x y z A B C D E F l G=>Al G (.cells ⟨(nM ⟨none,0,0⟩ 0 0 0 0 0 0 0 false false ⟨none,0,0⟩ ⟨none,0,0⟩ 0)⟩ 276) λi H=>ig (nM s t u v x y z A B C D E F) H i 0 λj=>(cond (l !=0) (ig ξ j c 0 λI=>ig alM I a 0 λe=>iC e c λJ L M N O P Q R S T U=>fM e (a.add 0) λV=>fM e (a.add 1) λW=>fM e (a.add 2) λX=>K J L M N O P Q R S T U V W X l e) (tX j i λY Z aa ab ac ad ae af ag ah ai aj ak=>rZ Y Z aa ab ac ad ae af ag ah ai aj ak j λal am an m ao=>Al ao (.cells ⟨alM⟩ 89) λb ap=>ig [.int .i64 al,.int .i64 am,.int .i64 an] ap b 0 λd=>(cond (m !=0) (ig ξ d c 0 λaq=>ig alM aq a 0 λf=>iC f c λar au av aw ax ay az aA aB aC aD=>fM f (a.add 0) λaE=>fM f (a.add 1) λaF=>fM f (a.add 2) λaG=>K ar au av aw ax ay az aA aB aC aD aE aF aG m f) (iC d.drew (i.add 1) λaH aI aJ aK aL aM aN aO aP aQ aR=>fM d.drew (b.add 0) λn=>fM d.drew (b.add 1) λo=>fM d.drew (b.add 2) λp=>ig (gQ aH aI aJ aK aL aM aN aO aP aQ aR) d.drew c 0 λh=>h.cell? (b.add 0)=some (.int .i64 n)/\
 h.cell? (b.add 1)=some (.int .i64 o)/\
 h.cell? (b.add 2)=some (.int .i64 p)/\
 ig [.int .i64 n,.int .i64 o,.int .i64 p] h a 0 λg=>iC g c λaS aT aU aV aW aX aY aZ a1 a2 a4=>fM g (a.add 0) λa6=>fM g (a.add 1) λa7=>fM g (a.add 2) λa8=>K aS aT aU aV aW aX aY aZ a1 a2 a4 a6 a7 a8 0 g))))):=χ Tryz.func77
theorem Ye {j k l m n o p q r s t u v x e y z A w K}:gB (GV j k l m n o p q r s t u v x e y z A w K)
 (Al w (.cells ⟨(gQ j k l m n o p q r s t)⟩ 40) λf F=>Al F (.cells ⟨[.int .i64 u,.int .i64 v,.int .i64 x,.slice e.a e.len e.cap]⟩ 84) λb G=>Al G (.cells ⟨ξ⟩ 40) λB c=>fM c (b.add 0) λH=>fM c (b.add 1) λI=>fM c (b.add 2) λJ=>Ld .slice c (b.add 3) λL=>yN H I J L y z A c λM N O g av P=>ig [.int .i64 M,.int .i64 N,.int .i64 O,.slice g.a g.len g.cap] P b 0 λC=>Ld .slice C (f.add 9) λQ=>gY Q C λh R=>St R (f.add 9) (.slice h.a h.len h.cap) λd=>fM d (b.add 0) λS=>fM d (b.add 1) λT=>fM d (b.add 2) λU=>Ld .slice d (b.add 3) λV=>zu S T U V d λi aw W=>St W (f.add 10) (.slice i.a i.len i.cap) λD=>iC D f λX Y Z aa ab ac ad ae af ag ah=>ig (gQ X Y Z aa ab ac ad ae af ag ah) D B 0 λE=>iC E B λai aj ak al am an ao ap aq ar au=>K ai aj ak al am an ao ap aq ar au E):=χ Tryz.func78
theorem Qw {o p q r s t u v x y z w K}:gB (rY o p q r s t u v x y z w K)
 (Al w (.cells ⟨(gQ o p q r s t u v x y z)⟩ 40) λc A=>iC A c λI J L M N O P Q R S T=>EY I J L M N O P Q R S T A λB h=>(cond (B !=0) (K Value.nilIface B h) (iC h c λU V W X Y Z aa ab ac ad ae=>EZ U V W X Y Z aa ab ac ad ae h λaf b=>(cond (!af) (K Value.nilIface 4 b) (fM b (c.add 4) λi=>(cond (i==17) (fM b (c.add 5) λag=>fM b (c.add 6) λah=>Ld .slice b (c.add 10) λai=>Hf ag ah ai b λaj ak al j am an=>Al an (.cells ⟨alR⟩ 116) λe ao=>ig [.int .i64 aj,.int .i64 ak,.bool al,.slice j.a j.len j.cap] ao e 0 λf=>fM f (e.add 0) λap=>fM f (e.add 1) λaq=>Ld .bool f (e.add 2) λar=>Ld .slice f (e.add 3) λk=>K (Value.iface 285 (Value.agg ⟨[.int .i64 ap,.int .i64 aq,.bool ar,.slice k.a k.len k.cap]⟩)) am f) (cond (i==6) (fM b (c.add 5) λau=>fM b (c.add 6) λav=>Ld .slice b (c.add 10) λaw=>G9 au av aw b λax ay az aA aB aC aD aE aF aG aH aI=>Al aI (.cells ⟨(kX 0 0 0 0 0 0 0 0 ⟨none,0,0⟩ ⟨none,0,0⟩)⟩ 287) λC aJ=>ig (kX ax ay az aA aB aC aD aE aF aG) aJ C 0 λD=>Af D C λaK aL aM aN aO aP aQ aR aS aT=>K (Value.iface 291 (Value.agg ⟨kX aK aL aM aN aO aP aQ aR aS aT⟩)) aH D) (cond (i==1) (Ld .slice b (c.add 10) λaU=>zA aU b λaV aW aX l E aY=>Al aY (.cells ⟨alN⟩ 84) λd aZ=>ig [.int .i64 aV,.int .i64 aW,.int .i64 aX,.slice l.a l.len l.cap] aZ d 0 λm=>let F:Int->b_:=λa0 g=>(fM g (d.add 0) λa1=>fM g (d.add 1) λa2=>fM g (d.add 2) λa4=>Ld .slice g (d.add 3) λn=>K (Value.iface 293 (Value.agg ⟨[.int .i64 a1,.int .i64 a2,.int .i64 a4,.slice n.a n.len n.cap]⟩)) a0 g)
 let G:Bool->b_:=λa5 H=>((cond a5 (F 8 H) (F E H)))
 (cond (E==0) (fM m d λa6=>zB a6 m λa7 a8=>G (!a7) a8) (G false m))) (K Value.nilIface 8 b))))))))):=χ Tryz.func79
theorem Yd {b c d e f g h i j k l m n o p q r s t w K}:gB (BO b c d e f g h i j k l m n o p q r s t w K)
 (Al w (.cells ⟨[.int .i64 b,.bool c,.int .i64 d,.bool e,.int .i64 f,.int .i64 g,.int .i64 h]⟩ 96) λu z=>Al z (.cells ⟨(gQ i j k l m n o p q r s)⟩ 40) λv a=>fM a (v.add 4) λA=>(cond (A !=6) (K 0 true a) (fM a.drew (u.add 4) λx=>iC a.drew v λB C D E F G H I J L M=>CZ B C D E F G H I J L M a.drew λN y=>y.cell? (u.add 4)=some (.int .i64 x)/\
 ET x t N y λO P Q=>K O P Q))):=χ Tryz.func80
theorem Qv {d e f g h i j k l m n w K}:gB (Az d e f g h i j k l m n w K)
 (Al w (.cells ⟨(gQ d e f g h i j k l m n)⟩ 40) λb a=>let c:Bool->Prop:=λo=>(K o a)
 fM a (b.add 4) λp=>(cond (p==1) (Ld .slice a (b.add 10) λq=>(cond (decide ((q.len:Int)>0)) (Ld .slice a (b.add 10) λr=>iF r 1 0 λs=>Ld (.int .u8) a s λt=>c (t==0)) (c false))) (c false))):=χ Tryz.func81
theorem Fp {a w K}:gB (nJ a w K)
 (Pt a λe=>Ld .ptr w.drew (e.add 3) λf=>Pt a λb=>fM w.drew ((b.add 5).add 22) λc=>um f w.drew λg d=>d.cell? ((b.add 5).add 22)=some (.int .i64 c)/\
 K (decide (g>=c)) d):=χ Tryz.func82
theorem JQ {c p q r s w K}:gB (uV c p q r s w K)
 (Al w (.cells ⟨[.int .i64 p,.int .i64 q,.int .i64 r,.int .i64 s]⟩ 46) λa g=>Pt c λz=>Ld .ptr g.drew (z.add 1) λA=>fM g.drew a λB=>Pt c λt=>fM g.drew ((t.add 5).add 20) λu=>oJ A B g.drew λC m=>m.cell? ((t.add 5).add 20)=some (.int .i64 u)/\
 (cond (decide (C>=u)) (K 0 (Value.iface 102 (Value.int .i64 5)) m) (qc c m λD d=>(cond D (K 0 (Value.iface 102 (Value.int .i64 6)) d) (let v:Addr->Int->b_:=λn E h=>((cond (E !=0) (K 0 (Value.iface 102 (Value.int .i64 7)) h) (Pt c λF=>Ld .ptr h.drew (F.add 1) λG=>fM h.drew a λH=>qh G H h.drew λag b=>Pt c λI=>Ld .ptr b.drew (I.add 2) λJ=>fM b.drew (a.add 0) λL=>fM b.drew (a.add 1) λM=>fM b.drew (a.add 2) λN=>fM b.drew (a.add 3) λO=>fM b.drew (n.add 0) λP=>fM b.drew (n.add 1) λQ=>fM b.drew (n.add 2) λR=>xG J L M N O P Q R false b.drew λS ah T=>K S Value.nilIface T)))
 Pt c λo=>Ld .ptr d.drew o λi=>fM d.drew (a.add 1) λj=>fM d.drew (a.add 3) λk=>fM d.drew a λl=>(sO i j k l d.drew λU V W X Y=>Al Y (.cells ⟨alM⟩ 48) λx e=>e.cell? a=some (.int .i64 l)/\
 e.cell? (a.add 3)=some (.int .i64 k)/\
 e.cell? (a.add 1)=some (.int .i64 j)/\
 e.cell? o=some (.pointer i)/\
 ig [.int .i64 U,.int .i64 V,.int .i64 W] e x 0 λZ=>v x X Z)/\
 (Al d.drew (.cells ⟨alM⟩ 48) λy f=>f.cell? a=some (.int .i64 l)/\
 f.cell? (a.add 3)=some (.int .i64 k)/\
 f.cell? (a.add 1)=some (.int .i64 j)/\
 f.cell? o=some (.pointer i)/\
 sO i j k l f λaa ab ac ad ae=>ig [.int .i64 aa,.int .i64 ab,.int .i64 ac] ae y 0 λaf=>v y ad af)))))):=χ Tryz.func83
theorem Tz {d e f g h i j k l m n o p q r s t u v x y z A B C D E F G H I J L M N O b P w K}:gB (CU d e f g h i j k l m n o p q r s t u v x y z A B C D E F G H I J L M N O b P w K)
 (Al w (.cells ⟨(jo d e f g h i j k l m n o p q r s t u v x y z A B C D E F G H I J L M N O)⟩ 28) λc a=>(cond (b==17) (fM a (c.add 30) λQ=>K Q a) (cond (b==1) (fM a (c.add 33) λR=>K R a) (cond (b==6) (cond (P==3) (fM a (c.add 31) λS=>K S a) (fM a (c.add 32) λT=>K T a)) (K 0 a))))):=χ Tryz.func88
theorem IE {a b d e w K}:gB (uo a b d e w K)
 (lZ a b w λg c=>(cond (!g) (K false c) (Pt a λh=>Ld .slice c h λi=>iF i 6 b λf=>Pt (some f) λj=>St c (j.add 1) (.int .i64 d) λk=>Pt (some f) λl=>St k (l.add 2) (.int .i64 e) λm=>K true m))):=χ Tryz.func89
theorem Iz {c q r s t u w K}:gB (uj c q r s t u w K)
 (Al w (.cells ⟨[.int .i64 q,.int .i64 r,.int .i64 s,.int .i64 t,.int .i64 u]⟩ 120) λb B=>jG c B λC f=>(cond (!C) (K 0 2 f) (fM f b λD=>fM f ((b.add 3).add 0) λE=>fM f ((b.add 3).add 1) λF=>nZ c D E F f λaf G i=>(cond G (K 0 9 i) (Pt c λH=>Ld .slice i H λI=>jf I (Value.func (.func 185) #[] #[]) i λe d=>(cond (decide (e<0)) (K 0 7 d) (Pt c λJ=>Ld .slice d.drew J λL=>fM d.drew (b.add 0) λM=>fM d.drew (b.add 1) λN=>fM d.drew (b.add 2) λO=>fM d.drew (b.add 3) λP=>fM d.drew (b.add 4) λQ=>iF L 6 e λR=>ig [.int .i64 M,.int .i64 N,.int .i64 O,.int .i64 P,.int .i64 Q,.bool true] d.drew R 0 λg=>Pt c λv=>Ld .ptr g.drew (v.add 1) λx=>fM g.drew b λS=>fM g.drew ((b.add 3).add 0) λT=>fM g.drew ((b.add 3).add 1) λU=>uK S T U g.drew λV y=>y.cell? (v.add 1)=some (.pointer x)/\
 oV x V e y λag h=>Pt c λW=>Ld .map h.drew (W.add 2) λX=>fM h.drew b λY=>rP υ 3 .slice X (Value.int .i64 Y) (Value.slice none 0 0) h.drew λz=>lH z e h.drew λZ ah j=>Pt c λk=>Ld .map j.drew (k.add 2) λl=>fM j.drew b λm=>Al j.drew (.cells ⟨[.int .i64 e]⟩ 3) λaa n=>n.cell? b=some (.int .i64 m)/\
 n.cell? (k.add 2)=some (.map l)/\
 o_ z Z ⟨(some aa),1,1⟩ n λo p=>p.cell? b=some (.int .i64 m)/\
 p.cell? (k.add 2)=some (.map l)/\
 oP υ 3 l (Value.int .i64 m) (Value.slice o.a o.len o.cap) p λA=>Pt c λab=>fM A (ab.add 3) λac=>Pt c λad=>St A (ad.add 3) (.int .i64 (ο.wrap (ac+1))) λae=>K e 0 ae))))))):=χ Tryz.func90
theorem LV {a b d w K}:gB (rC a b d w K)
 (oL a w λB g=>(cond (!B) (K 2 g) (let i:Bool->Prop:=λC=>((cond C (K 1 g) (Pt a λD=>Ld .map g (D.add 448) λE=>I8 υ 3 E (Value.int .i64 b) (Value.agg ⟨alM⟩) g λF o=>∃p:Int,∃q:Int,∃r:Int,F=(Value.agg ⟨[.int .i64 p,.int .i64 q,.int .i64 r]⟩)/\
 Al g (.cells ⟨alM⟩ 317) λj G=>ig [.int .i64 p,.int .i64 q,.int .i64 r] G j 0 λe=>let s:Bool->b_:=λH f=>((cond H (K 7 f) (let t:b_:=λu=>(Pt a λI=>fM u (I.add 450) λJ=>Pt a λL=>St u (L.add 450) (.int .i64 (ο.wrap (J+1))) λl=>Pt a λv=>fM l.drew (v.add 449) λm=>Pt a λx=>fM l.drew (x.add 450) λy=>Al l.drew (.cells ⟨alM⟩ 317) λc n=>n.cell? (x.add 450)=some (.int .i64 y)/\
 n.cell? (v.add 449)=some (.int .i64 m)/\
 ig [.int .i64 b,.int .i64 (if m>d then m else d),.int .i64 y] n c 0 λh=>Pt a λM=>Ld .map h.drew (M.add 448) λN=>fM h.drew (c.add 0) λO=>fM h.drew (c.add 1) λP=>fM h.drew (c.add 2) λQ=>oP υ 3 N (Value.int .i64 b) (Value.agg ⟨[.int .i64 O,.int .i64 P,.int .i64 Q]⟩) h.drew λk=>fM k (c.add 0) λR=>fM k (c.add 1) λS=>fM k (c.add 2) λT=>rD a R S T k λU=>K 0 U)
 (cond o (fM f (j.add 0) λV=>fM f (j.add 1) λW=>fM f (j.add 2) λX=>vk a V W X f λY=>t Y) (t f)))))
 (cond (!o) (Pt a λZ=>Ld .map e.drew (Z.add 448) λaa=>Pt a λz=>fM e.drew (z.add 451) λA=>W_ e.drew aa λab=>e.drew.cell? (z.add 451)=some (.int .i64 A)/\
 s (decide (ab>=A)) e.drew) (s false e.drew)))))
 (cond (decide (b<0)) (i (decide (b<0))) (cond (decide (b>2147483648)) (i (decide (b>2147483648))) (cond (decide (d<0)) (i (decide (d<0))) (i (decide (d>1099511627776))))))))):=χ Tryz.func91
theorem Tv {b c w K}:gB (xH b c w K)
 (let d:Bool->b_:=λe f=>(K e f)
 lM b w λg a=>(cond g (cond (decide (c>=0)) (Pt b λh=>Ld .slice a h λi=>(cond (decide (c<(i.len:Int))) (Pt b λj=>Ld .slice a j λk=>iF k 9 c λl=>Ld .bool a (l.add 8) λm=>d m a) (d false a))) (d false a)) (d false a))):=χ Tryz.func92
theorem TN {n o p q r s t u v x y z A B C w K}:gB (xI n o p q r s t u v x y z A B C w K)
 (Al w (.cells ⟨(gQ n o p q r s t u v x y)⟩ 40) λb S=>Al S (.cells ⟨[.int .i64 z,.int .i64 A]⟩ 205) λd T=>Al T (.cells ⟨[.int .i64 B,.int .i64 C]⟩ 205) λg U=>Al U (.cells ⟨ξ⟩ 40) λc D=>iC D b λV W X Y Z aa ab ac ad ae af=>rY V W X Y Z aa ab ac ad ae af D λag E e=>(cond (E !=0) (ig ξ e c 0 λF=>iC F c λah ai aj ak al am an ao ap aq ar=>K ah ai aj ak al am an ao ap aq ar E F) ((0:Int)<=0/\0<(2:Int)/\
 fM e (g.add (Int.toNat 0 * 1)) λG=>(0:Int)<=1/\1<(2:Int)/\
 fM e (g.add (Int.toNat 1 * 1)) λH=>let i:Bool->b_:=λau h=>((cond au (ig ξ h c 0 λI=>iC I c λav aw ax ay az aA aB aC aD aE aF=>K av aw ax ay az aA aB aC aD aE aF 1 I) ((0:Int)<=0/\0<(2:Int)/\
 fM h.drew (d.add (Int.toNat 0 * 1)) λaG=>(0:Int)<=1/\1<(2:Int)/\
 fM h.drew (d.add (Int.toNat 1 * 1)) λJ=>St h.drew (b.add 5) (.int .i64 aG) λL=>L.cell? (d.add (Int.toNat 1 * 1))=some (.int .i64 J)/\
 St L (b.add 6) (.int .i64 J) λM=>Ld .slice M (b.add 9) λaH=>gY aH M λj aI=>St aI (b.add 9) (.slice j.a j.len j.cap) λf=>(0:Int)<=0/\0<(2:Int)/\
 fM f.drew (g.add (Int.toNat 0 * 1)) λaJ=>(0:Int)<=1/\1<(2:Int)/\
 fM f.drew (g.add (Int.toNat 1 * 1)) λaK=>fM f.drew (b.add 5) λN=>fM f.drew (b.add 6) λO=>KO υ ag "goosepond/ports.with" [(Value.int .i64 aJ),(Value.int .i64 aK)] [.one .any] f.drew λaL k=>k.cell? (b.add 6)=some (.int .i64 O)/\
 k.cell? (b.add 5)=some (.int .i64 N)/\
 KO υ aL "goosepond/ports.build" [(Value.int .i64 N),(Value.int .i64 O)] [.one .slice,.one ν] k λl aM aN=>St aN (b.add 10) (.slice l.a l.len l.cap) λP=>iC P b λaO aP aQ aR aS aT aU aV aW aX aY=>ig (gQ aO aP aQ aR aS aT aU aV aW aX aY) P c 0 λQ=>iC Q c λaZ a0 a1 a2 a3 a4 a6 a8 ba bb bc=>K aZ a0 a1 a2 a3 a4 a6 a8 ba bb bc aM Q)))
 (0:Int)<=0/\0<(2:Int)/\
 fM e (d.add (Int.toNat 0 * 1)) λbd=>lu bd e λbe m=>(cond (!be) (i true m) ((0:Int)<=1/\1<(2:Int)/\
 fM m (d.add (Int.toNat 1 * 1)) λbf=>lu bf m λbg R=>(cond (!bg) (i true R) (kQ (if H>G then H else G) 2 R λbh bi=>i (!bh) bi))))))):=χ Tryz.func93
theorem Vy {c f w K}:gB (EM c f w K)
 (Al w (.cells ⟨ξ⟩ 40) λb h=>(cond (decide ((c.len:Int)<20)) (ig ξ h b 0 λo=>iC o b λC D E F G H I J L M N=>K C D E F G H I J L M N 3 o) (iF c 1 0 λp=>Ld (.int .u8) h.drew p λd=>(16:Int)≠0/\
 jC c 2 2 h.drew λg e=>e.cell? p=some (.int .u8 d)/\
 let q:Bool->Prop:=λO=>((cond O (ig ξ e b 0 λr=>iC r b λP Q R S T U V W X Y Z=>K P Q R S T U V W X Y Z 4 r) (let i:Bool->Prop:=λaa=>((cond aa (ig ξ e b 0 λs=>iC s b λab ac ad ae af ag ah ai aj ak al=>K ab ac ad ae af ag ah ai aj ak al 3 s) (let t:Bool->b_:=λam j=>((cond am (ig ξ j b 0 λu=>iC u b λan ao ap aq ar au av aw ax ay az=>K an ao ap aq ar au av aw ax ay az 4 u) (let v:Bool->b_:=λaA x=>((cond aA (ig ξ x b 0 λy=>iC y b λaB aC aD aE aF aG aH aI aJ aK aL=>K aB aC aD aE aF aG aH aI aJ aK aL 5 y) (kJ c 1 (ο.wrap ((ο.wrap (Int.tmod d 16)) * 4)) (if (c.len:Int)<g then (c.len:Int) else g) λaM=>AB c aM x λaN aO aP aQ aR aS aT aU aV aW aX aY=>Al aY (.cells ⟨ξ⟩ 40) λk aZ=>ig (gQ aN aO aP aQ aR aS aT aU aV aW aX) aZ k 0 λl=>let z:Bool->b_:=λa2 m=>((cond a2 (ig ξ m b 0 λA=>iC A b λa3 a5 a6 a7 a8 a9 ba bb bc bd be=>K a3 a5 a6 a7 a8 a9 ba bb bc bd be 4 A) (iC m k λbf bg bh bi bj bk bl bm bn bo bp=>ig (gQ bf bg bh bi bj bk bl bm bn bo bp) m b 0 λB=>iC B b λbq br bs bt bu bv bw bx bz bA bB=>K bq br bs bt bu bv bw bx bz bA bB 0 B)))
 (cond (!f) (iC l k λbC bD bE bF bG bH bI bJ bK bL bM=>xM bC bD bE bF bG bH bI bJ bK bL bM l λbN bO=>z (bN !=0) bO) (z false l)))))
 (cond (!f) (kJ c 1 0 (ο.wrap ((ο.wrap (Int.tmod d 16)) * 4)) λn=>Al j (.cells ⟨[.slice n.a n.len n.cap]⟩ 38) λbP bQ=>C_ ⟨(some bP),1,1⟩ bQ λbR bS=>v (!bR) bS) (v false j)))))
 (cond (decide (g<(ο.wrap ((ο.wrap (Int.tmod d 16)) * 4)))) (t true e) (jC c 6 2 e λbT bU=>t (decide (bT>=32768)) bU)))))
 (cond (decide ((ο.wrap ((ο.wrap (Int.tmod d 16)) * 4))>(c.len:Int))) (i true) (cond (!f) (i (decide (g>(c.len:Int)))) (i false))))))
 iF c 1 0 λbV=>Ld (.int .u8) e bV λbW=>(16:Int)≠0/\
 (cond ((IntKind.u8.wrap (Int.tdiv bW 16)) !=4) (q true) (q (decide ((ο.wrap ((ο.wrap (Int.tmod d 16)) * 4))<20))))))):=χ Tryz.func94
theorem TW {f g h b w K}:gB (Dh f g h b w K)
 (Al w (.cells ⟨[.int .i64 f,.int .i64 g,.bool h,.slice b.a b.len b.cap]⟩ 116) λd i=>let j:Bool->b_:=λk c=>((cond k (K 1 c) (Ld .slice c (d.add 3) λl=>(cond (decide ((l.len:Int)>65527)) (K 6 c) (K 0 c)))))
 fM i d λm=>mJ m 2 i λn e=>(cond (!n) (j true e) (fM e (d.add 1) λo=>mJ o 2 e λp q=>j (!p) q))):=χ Tryz.func95
theorem TY {e f g c h w K}:gB (xP e f g c h w K)
 (Al w (.cells ⟨[.int .i64 e,.int .i64 f,.bool g,.slice c.a c.len c.cap]⟩ 116) λb d=>fM d.drew b λm=>fM d.drew (b.add 1) λi=>jd ⟨none,0,0⟩ m 2 d.drew λn j=>j.cell? (b.add 1)=some (.int .i64 i)/\
 jd n i 2 j λo k=>Ld .slice k (b.add 3) λp=>jd o (ο.wrap (8+(p.len:Int))) 2 k λq r=>jd q h 2 r λs l=>Ld .slice l (b.add 3) λt=>mW 5 1 1 [(Value.int .u8 0)] s t l λu v=>K u v):=χ Tryz.func96
theorem Z5 {a w K}:gB (EL a w K)
 (BR a w λb c=>K (ο.wrap (65535 - b)) c):=χ Tryz.func97
theorem Qy {a b c d w K}:gB (AL a b c d w K)
 (vI a 4294967296 w λe f=>jd ⟨none,0,0⟩ e 4 f λg h=>vI b 4294967296 h λi j=>jd g i 4 j λk l=>Al l (.cells ⟨[.int .u8 0]⟩ 5) λm n=>mW 5 1 1 [(Value.int .u8 0)] k ⟨(some m),1,1⟩ n λo p=>vI c 256 p λq r=>jd o q 1 r λs t=>vI d 65536 t λu v=>jd s u 2 v λx y=>K x y):=χ Tryz.func98
theorem TT {l m n o p q r s t u v w K}:gB (xM l m n o p q r s t u v w K)
 (Al w (.cells ⟨(gQ l m n o p q r s t u v)⟩ 40) λa x=>let f:Bool->b_:=λC y=>(let d:Bool->b_:=λD b=>(let z:Bool->Prop:=λE=>(let e:Bool->Prop:=λF=>((cond F (K 1 b) (let A:Bool->b_:=λG B=>((cond G (K 6 B) (K 0 B)))
 iC b a λH I J L M N O P Q R S=>wu H I J L M N O P Q R S b λT g=>(cond (decide (T>65535)) (A true g) (fM g (a.add 2) λU=>Ld .slice g (a.add 10) λV=>A (decide (U>(ο.wrap (65535 - (V.len:Int))))) g)))))
 (cond (!C) (e true) (cond (!D) (e true) (cond (!E) (e true) (Ld .bool b (a.add 8) λW=>(cond W (Ld .slice b (a.add 10) λX=>(8:Int)≠0/\
 e ((Int.tmod (X.len:Int) 8) !=0)) (e false)))))))
 Ld .slice b (a.add 9) λY=>(cond (decide ((Y.len:Int)<=40)) (Ld .slice b (a.add 9) λZ=>(4:Int)≠0/\
 z ((Int.tmod (Z.len:Int) 4)==0)) (z false)))
 fM y (a.add 5) λaa=>xK aa y λab h=>(cond ab (fM h (a.add 6) λac=>xK ac h λad c=>(cond ad (fM c (a.add 2) λae=>(cond (decide (ae>=0)) (fM c (a.add 2) λaf=>(cond (decide (af<=65528)) (fM c (a.add 2) λag=>(8:Int)≠0/\
 d ((Int.tmod ag 8)==0) c) (d false c))) (d false c))) (d false c))) (d false h)))
 fM x a λah=>mJ ah 1 x λai i=>(cond ai (fM i (a.add 3) λaj=>mJ aj 1 i λak j=>(cond ak (fM j (a.add 4) λal=>mJ al 1 j λam k=>(cond am (fM k (a.add 1) λan=>mJ an 2 k λao ap=>f ao ap) (f false k))) (f false j))) (f false i))):=χ Tryz.func99
theorem Vx {e f g h i j k l m n o p q w K}:gB (zI e f g h i j k l m n o p q w K)
 (Al w (.cells ⟨(gQ e f g h i j k l m n o)⟩ 40) λa b=>fM b (a.add 2) λr=>(8:Int)≠0/\
 let s:Int->Prop:=λt=>(let u:Int->Prop:=λE=>(iC b.drew a λF G H I J L M N O P Q=>fM b.drew a λv=>zH F G H I J L M N O P Q b.drew λR x=>x.cell? a=some (.int .i64 v)/\
 (4:Int)≠0/\
 Al x (.cells ⟨[.int .u8 (IntKind.u8.wrap (ο.wrap (64+(ο.wrap (Int.tdiv R 4))))),.int .u8 (IntKind.u8.wrap v)]⟩ 5) λS y=>fM y.drew (a.add 1) λz=>jd ⟨(some S),2,2⟩ p 2 y.drew λT A=>A.cell? (a.add 1)=some (.int .i64 z)/\
 jd T z 2 A λU V=>jd U E 2 V λW c=>fM c (a.add 3) λX=>fM c (a.add 4) λY=>Al c (.cells ⟨[.int .u8 (IntKind.u8.wrap X),.int .u8 (IntKind.u8.wrap Y)]⟩ 5) λZ aa=>mW 5 1 1 [(Value.int .u8 0)] W ⟨(some Z),2,2⟩ aa λab ac=>jd ab q 2 ac λad d=>fM d.drew (a.add 5) λae=>fM d.drew (a.add 6) λB=>jd ad ae 4 d.drew λaf C=>C.cell? (a.add 6)=some (.int .i64 B)/\
 jd af B 4 C λag D=>Ld .slice D (a.add 9) λah=>mW 5 1 1 [(Value.int .u8 0)] ag ah D λai aj=>K ai aj)
 Ld .bool b (a.add 8) λak=>(cond ak (u (ο.wrap (t+8192))) (u t)))
 Ld .bool b (a.add 7) λal=>(cond al (s (ο.wrap ((ο.wrap (Int.tdiv r 8))+16384))) (s (ο.wrap (Int.tdiv r 8))))):=χ Tryz.func100
theorem Vw {e f g h i j k l m n o w K}:gB (wu e f g h i j k l m n o w K)
 (Al w (.cells ⟨(gQ e f g h i j k l m n o)⟩ 40) λc d=>iC d.drew c λq r s t u v x y z A B=>Ld .slice d.drew (c.add 10) λb=>zH q r s t u v x y z A B d.drew λC p=>p.cell? (c.add 10)=some (.slice b.a b.len b.cap)/\
 K (ο.wrap (C+(b.len:Int))) p):=χ Tryz.func101
theorem IL {a w K}:gB (oL a w K)
 (let b:Bool->Prop:=λc=>(K c w)
 (cond (!(Option.isNone a)) (Pt a λd=>Ld .map w (d.add 448) λe=>b (!(Option.isNone e))) (b false))):=χ Tryz.func102
theorem Ku {d w K}:gB (vg d w K)
 (iH (S:=Int×Unit) (λa e g=>(cond (decide (a.1<7)) (Pt d λh=>fM e (h.add 449) λi=>0<=(ο.wrap (6 * a.1))/\
 iH (S:=Int×Unit) (λb c j=>(cond (decide (b.1<64)) (Pt d λk=>(0:Int)<=a.1/\a.1<(7:Int)/\
 (0:Int)<=b.1/\b.1<(64:Int)/\
 Ld .slice c ((k.add (Int.toNat a.1 * 64)).add (Int.toNat b.1 * 1)) λf=>(cond (decide ((f.len:Int)>0)) (jI f (Value.func (.func 200) #[] #[]) c λn l o m=>K l true m) (j ((ο.wrap (b.1+1)),()) c))) (g ((ο.wrap (a.1+1)),()) c))) ((kT .i64 (jy .i64 i (ο.wrap (6 * a.1))) 63),()) e) (K 0 false e))) (0,()) w):=χ Tryz.func103 (fQ (.seq (fQ (.blk (.loop [(8,ν)] (fQ (fQ (.seq (.blk (fQ (fQ (fQ (.blk (.loop [(6,ν)] .leaf)))))) .leaf)))))) .leaf))
theorem Gq {c b w K}:gB (n_ c b w K)
 (Pt c λk=>fM w (k.add 449) λl=>xQ l b w λm n=>iH (S:=fU×Int×Unit) (λa g o=>(cond (decide (a.2.1>0)) (0<=(ο.wrap (6 * a.2.1))/\
 Pt c λj=>(0:Int)<=a.2.1/\a.2.1<(7:Int)/\
 (0:Int)<=(kT .i64 (jy .i64 b (ο.wrap (6 * a.2.1))) 63)/\(kT .i64 (jy .i64 b (ο.wrap (6 * a.2.1))) 63)<(64:Int)/\
 Pt (some ((j.add (Int.toNat a.2.1 * 64)).add (Int.toNat (kT .i64 (jy .i64 b (ο.wrap (6 * a.2.1))) 63) * 1))) λp=>Ld .slice g.drew p λq=>mW 317 3 24 [(Value.int .i64 0),(Value.int .i64 0),(Value.int .i64 0)] a.1 q g.drew λr s=>Pt (some ((j.add (Int.toNat a.2.1 * 64)).add (Int.toNat (kT .i64 (jy .i64 b (ο.wrap (6 * a.2.1))) 63) * 1))) λt=>St s t (.slice none 0 0) λu=>o (r,(ο.wrap (a.2.1 - 1)),()) u) (Pt c λv=>St g (v.add 449) (.int .i64 b) λx=>iH (S:=Int×Unit) (λh d y=>(cond (decide (h.1<(a.1.len:Int))) (iF a.1 3 h.1 λi=>fM d (i.add 0) λz=>fM d (i.add 1) λA=>fM d (i.add 2) λB=>Al d (.cells ⟨alM⟩ 317) λe C=>ig [.int .i64 z,.int .i64 A,.int .i64 B] C e 0 λf=>fM f (e.add 0) λD=>fM f (e.add 1) λE=>fM f (e.add 2) λF=>rD c D E F f λG=>y ((ο.wrap (h.1+1)),()) G) (K d))) (0,()) x))) (⟨none,0,0⟩,m,()) n):=χ Tryz.func104 (fQ (.seq (fQ (.blk (.loop [(4,.slice),(5,ν)] .leaf))) (fQ (fQ (.blk (.loop [(43,ν)] .leaf))))))
theorem LW {g w K}:gB (wz g w K)
 (iL (Value.pointer g)=true/\
 Al w (.cells ⟨[.pointer g]⟩ 65) λb e=>Ld .ptr e.drew b λp=>Ld .ptr e.drew b λq=>Pt q λr=>fM e.drew (r.add 449) λs=>nC p s e.drew λh m=>Pt h λt=>Ld .slice m t λu=>jM u m λv x=>iI v (Value.func (.func 206) #[] #[(Value.pointer (some b))]) x λi n=>Pt h λy=>Ld .slice n y λz=>iI z (Value.func (.func 207) #[] #[(Value.pointer (some b))]) n λj A=>Pt h λB=>St A B (.slice j.a j.len j.cap) λC=>iW i (Value.func (.func 209) #[] #[]) C λD=>iH (S:=fU×Int×Unit) (λc d E=>(cond (decide (c.2.1<(i.len:Int))) (iF i 3 c.2.1 λk=>fM d (k.add 0) λF=>fM d (k.add 1) λG=>fM d (k.add 2) λH=>Al d (.cells ⟨alM⟩ 317) λl I=>ig [.int .i64 F,.int .i64 G,.int .i64 H] I l 0 λf=>Ld .ptr f.drew b λJ=>Pt J λL=>Ld .map f.drew (L.add 448) λM=>fM f.drew l λN=>Gy υ 3 M (Value.int .i64 N) f.drew λo=>fM o l λO=>Al o (.cells ⟨[.int .i64 O]⟩ 3) λP Q=>mW 3 1 8 [(Value.int .i64 0)] c.1 ⟨(some P),1,1⟩ Q λR T=>E (R,(ο.wrap (c.2.1+1)),()) T) (K c.1 d))) (⟨none,0,0⟩,0,()) D):=χ Tryz.func105 (fQ (fQ (fQ (fQ (fQ (fQ (.seq (fQ (.blk (.loop [(5,.slice),(31,ν)] .leaf))) .leaf)))))))
theorem IG {b c w K}:gB (lZ b c w K)
 (let d:Bool->b_:=λe f=>(K e f)
 jG b w λg a=>(cond g (cond (decide (c>=0)) (Pt b λh=>Ld .slice a h λi=>(cond (decide (c<(i.len:Int))) (Pt b λj=>Ld .slice a j λk=>iF k 6 c λl=>Ld .bool a (l.add 5) λm=>d m a) (d false a))) (d false a)) (d false a))):=χ Tryz.func106
theorem Ii {j o w K}:gB (lX j o w K)
 (iL (Value.pointer j)=true/\
 Al w (.cells ⟨[.pointer j]⟩ 149) λa p=>Ld .ptr p a λy=>mZ y p λz k=>(cond (!z) (K false k) (Ld .ptr k a λA=>jg A o k λq B h=>(cond (!B) (K false h) (Ld .ptr h a λC=>Pt C λD=>Ld .slice h D λE=>iF E 3 q λF=>ig [.string (bs []),.int .i64 0,.bool false] h F 0 λl=>Ld .ptr l a λr=>Pt r λG=>fM l (G.add 1) λH=>Pt r λI=>St l (I.add 1) (.int .i64 (ο.wrap (H - 1))) λi=>let s:List Nat->b_:=λJ L=>(vP J L λM=>K true M)
 Ld .ptr i.drew a λN=>Ld .ptr i.drew a λO=>Pt O λP=>Ld .slice i.drew P λt=>(t.len:Int)≠0/\
 qZ N (Int.tmod (ο.wrap (q+1)) (t.len:Int)) i.drew λQ f=>zn υ none [.one ν] Q f (λb u c v=>c.heap[b]? =c.heap[b]? /\
 Ld .ptr (gG c b) a λR=>Pt R λS=>Ld .slice (gG c b) S λT=>iF T 3 u.1 λm=>Ld .str (gG c b) (m.add 0) λU=>fM (gG c b) (m.add 1) λV=>Ld .bool (gG c b) (m.add 2) λW=>Al (gG c b) (.cells ⟨[.string (bs []),.int .i64 0,.bool false]⟩ 336) λd X=>ig [.string U,.int .i64 V,.bool W] X d 0 λg=>Ld .bool g (d.add 2) λY=>(cond (!Y) (v (.exit 0) g) (Ld .ptr g a λZ=>Pt Z λaa=>Ld .slice g aa λab=>iF ab 3 u.1 λac=>ig [.string (bs []),.int .i64 0,.bool false] g ac 0 λn=>Ld .ptr n a λad=>Ld .str n d λae=>jg ad ae n λaf aq e=>Ld .ptr e.drew a λag=>Pt ag λah=>Ld .slice e.drew ah λai=>Ld .str e.drew (d.add 0) λaj=>fM e.drew (d.add 1) λak=>Ld .bool e.drew (d.add 2) λal=>iF ai 3 af λam=>ig [.string aj,.int .i64 ak,.bool al] e.drew am 0 λan=>v .normal an)))
 (λao=>s (f.heap.size::[]) ao)
 (λx=>x.heap[f.heap.size]? =some (.deferred (some []))/\
 K false (x.putObj f.heap.size (.deferred none)))
 [(0,(λap=>s (f.heap.size::[]) ap))]))))):=χ Tryz.func107 (fQ (fQ (fQ (fQ (fQ (fQ (fQ (.seq (fQ (.blk (.rng [.one ν] .leaf .leaf))) .leaf))))))))
theorem Ud {d e f w K}:gB (uK d e f w K)
 (Al w (.cells ⟨[.int .i64 e,.int .i64 f]⟩ 94) λg c=>fM c g λi=>fM c (g.add 1) λj=>Al c (.cells ⟨[.int .i64 d,.int .i64 i,.int .i64 j]⟩ 3) λk l=>iH (S:=fU×Int×Unit) (λa b m=>(cond (decide (a.2.1<(3:Int))) (iF ⟨(some k),3,3⟩ 1 a.2.1 λn=>fM b n λh=>0<=(32:Int)/\
 nY a.1 (kT .i64 (jy .i64 h 32) 4294967295) 4 b λo p=>nY o (kT .i64 h 4294967295) 4 p λq r=>m (q,(ο.wrap (a.2.1+1)),()) r) (Gv b a.1 λs=>K s b))) (⟨none,0,0⟩,0,()) l):=χ Tryz.func108 (fQ (fQ (.seq (fQ (.blk (.loop [(5,.slice),(15,ν)] .leaf))) .leaf)))
theorem yR {a c w K}:gB (mO a c w K)
 (jO a c w λd f=>(cond (d==(-1)) (K a f) (iH (S:=Int×Int×Unit) (λb e k=>(cond (decide (b.2.1<(a.len:Int))) (let g:Int->b_:=λl m=>(k (l,(ο.wrap (b.2.1+1)),()) m)
 iF a 1 b.2.1 λn=>fM e n λh=>jB υ [.one .bool] c [(Value.int .i64 h)] e λo i=>∃j:Bool,o=(Value.bool j)/\
 (cond (!j) (iF a 1 b.1 λp=>St i p (.int .i64 h) λq=>g (ο.wrap (b.1+1)) q) (g b.1 i))) (kJ a 1 b.1 (a.len:Int) λr=>I7 [(Value.int .i64 0)] r e λs=>kJ a 1 0 b.1 λt=>K t s))) (d,(ο.wrap (d+1)),()) f))):=χ Tryz.func109 (fQ (fQ (fQ (.seq (fQ (.blk (.loop [(5,ν),(6,ν)] .leaf))) .leaf))))
theorem BF {a b w K}:gB (uJ a b w K)
 (fM w b λc=>K (a==c) w):=χ Tryz.func110
theorem J_ {a b w K}:gB (ny a b w K)
 (iL (Value.pointer a)=true/\
 Al w (.cells ⟨[.pointer a]⟩ 64) λc d=>iL (Value.int .i64 b)=true/\
 Al d (.cells ⟨[.int .i64 b]⟩ 3) λe f=>K (Value.func (.func 215) #[] #[(Value.pointer (some c)),(Value.pointer (some e))]) f):=χ Tryz.func111
theorem Ik {d f w K}:gB (uh d f w K)
 (iL (Value.pointer d)=true/\
 Al w (.cells ⟨[.pointer d]⟩ 34) λg e=>Ld .ptr e g λj=>Pt j λk=>Ld .ptr e (k.add 3) λl=>ny l f e λm a=>zn υ none [.one ν,.agg [ν,ν,ν,ν,ν]] m a (λb n c o=>c.heap[b]? =c.heap[b]? /\
 Ld .ptr (gG c b) g λp=>GU p n.1 (gG c b) λq=>o .normal q)
 (λh=>h.heap[a.heap.size]? =some (.deferred (some []))/\
 K (h.putObj a.heap.size (.deferred none)))
 (λi=>i.heap[a.heap.size]? =some (.deferred (some []))/\
 K (i.putObj a.heap.size (.deferred none)))
 []):=χ Tryz.func112 (fQ (fQ (.blk (.rng [.one ν,.agg [ν,ν,ν,ν,ν]] .leaf .leaf))))
theorem Nu {a e w K}:gB (wU a e w K)
 (xH a e w λo f=>(cond (!o) (K false f) (Pt a λp=>Ld .slice f p λq=>iF q 9 e λr=>aju f r λs t u v x y z A B=>Al f (.cells ⟨(adL 0 0 0 0 0 0 0 false false)⟩ 203) λb C=>ig (adL s t u v x y z A B) C b 0 λc=>Pt a λg=>Ld .ptr c.drew (g.add 1) λh=>fM c.drew (b.add 0) λD=>fM c.drew (b.add 1) λE=>fM c.drew (b.add 2) λF=>fM c.drew (b.add 3) λG=>qF D E F G c.drew λH i=>i.cell? (g.add 1)=some (.pointer h)/\
 lX h H i λU d=>Pt a λj=>Ld .ptr d.drew (j.add 2) λk=>fM d.drew ((b.add 4).add 0) λI=>fM d.drew ((b.add 4).add 1) λJ=>fM d.drew ((b.add 4).add 2) λL=>qG I J L d.drew λM l=>l.cell? (j.add 2)=some (.pointer k)/\
 lX k M l λV m=>Pt a λN=>Ld .slice m N λO=>iF O 9 e λP=>ig (adL 0 0 0 0 0 0 0 false false) m P 0 λn=>Pt a λQ=>fM n (Q.add 3) λR=>Pt a λS=>St n (S.add 3) (.int .i64 (ο.wrap (R - 1))) λT=>K true T))):=χ Tryz.func113
theorem NP {d e f g w K}:gB (wX d e f g w K)
 (Al w (.cells ⟨[.int .i64 e,.int .i64 f,.int .i64 g]⟩ 48) λb i=>let h:Bool->b_:=λj c=>((cond j (K false c) (Pt d λk=>Ld .map c.drew (k.add 3) λl=>fM c.drew (b.add 0) λm=>fM c.drew (b.add 1) λn=>fM c.drew (b.add 2) λo=>Gy υ 48 l (Value.agg ⟨[.int .i64 m,.int .i64 n,.int .i64 o]⟩) c.drew λp=>K true p)))
 jT d i.drew λq a=>(cond (!q) (h true a) (Pt d λr=>Ld .map a (r.add 3) λs=>fM a (b.add 0) λt=>fM a (b.add 1) λu=>fM a (b.add 2) λv=>rP υ 48 .bool s (Value.agg ⟨[.int .i64 t,.int .i64 u,.int .i64 v]⟩) (Value.bool false) a λx=>h (!x) a))):=χ Tryz.func114
theorem JY {c d w K}:gB (uY c d w K)
 (oZ c d w λb e a=>(cond (e !=0) (K e a) (Pt b λf=>fM a f λg=>(cond (g==0) (K 8 a) (Pt b λh=>fM a h λi=>Pt b λj=>St a j (.int .i64 (ο.wrap (i - 1))) λk=>K 0 k))))):=χ Tryz.func115
theorem Z8 {a b c w K}:gB (iP a b c w K)
 (let d:Bool->Prop:=λe=>(K e w)
 (cond (decide (a>=b)) (d (decide (a<=c))) (d false))):=χ Tryz.func116
theorem Vt {b c d e f g h i j k l m n o p q w K}:gB (zG b c d e f g h i j k l m n o p q w K)
 (Al w (.cells ⟨(mY b c d e f g h i j k l m n o p q)⟩ 23) λr a=>let s:Bool->Prop:=λt=>(K t a)
 uH a r λu v x y z A B C D E F G H I J L=>(cond (!((u==0) && ((v==0) && ((x==0) && ((y==0) && ((z==0) && ((A==0) && ((B==0) && ((C==0) && ((D==0) && ((E==0) && ((F==0) && ((G==0) && ((H==0) && ((I==0) && ((J==0) && ((L==0) && true))))))))))))))))) ((0:Int)<=0/\0<(16:Int)/\
 Ld (.int .u8) a (r.add (Int.toNat 0 * 1)) λM=>s (M !=255)) (s false))):=χ Tryz.func117
theorem Vs {a w K}:gB (zF a w K)
 (let b:Bool->Prop:=λc=>(K c w)
 (cond (decide (a>=16777216)) (cond (decide (a<3758096384)) ((16777216:Int)≠0/\
 b ((ο.wrap (Int.tdiv a 16777216)) !=127)) (b false)) (b false))):=χ Tryz.func118
theorem Qz {i j k l m n o p q r s t u v x y z A B C D E F G H I J L M N O P Q R S T U V W X Y Z B6 w K}:gB (AO i j k l m n o p q r s t u v x y z A B C D E F G H I J L M N O P Q R S T U V W X Y Z B6 w K)
 (Al w (.cells ⟨(jo i j k l m n o p q r s t u v x y z A B C D E F G H I J L M N O P Q R S T)⟩ 28) λa4 w3=>Al w3 (.cells ⟨[.int .i64 U,.int .i64 V,.int .i64 W,.int .i64 X,.int .i64 Y,.int .i64 Z,.int .i64 B6]⟩ 50) λa d=>let f:Bool->Prop:=λj8=>(let J9:Bool->b_:=λaf b=>(let c:Bool->b_:=λag ah=>(K ag ah)
 (cond j8 (cond af (fM b (a.add 4) λai=>fM b (a.add 1) λaj=>(cond (ai==aj) (fM b a λak=>Ld .slice b (a4.add 16) λal=>iP ak 0 (ο.wrap ((al.len:Int) - 1)) b λam g=>(cond am (fM g (a.add 2) λan=>zF an g λao e=>(cond ao (rO e a4 λap aq ar au av aw ax ay az aA aB aC aD aE aF aG aH aI aJ aK aL aM aN aO aP aQ aR aS aT aU aV aW aX aY aZ a0=>fM e ((a.add 4).add 1) λa1=>EP ap aq ar au av aw ax ay az aA aB aC aD aE aF aG aH aI aJ aK aL aM aN aO aP aQ aR aS aT aU aV aW aX aY aZ a0 a1 e λa2 a3=>c a2 a3) (c false e))) (c false g))) (c false b))) (c false b)) (c false b)))
 fM d (a.add 3) λa5=>iP a5 0 65535 d λa7 h=>(cond a7 (fM h ((a.add 4).add 2) λa8=>iP a8 0 65535 h λa9 ba=>J9 a9 ba) (J9 false h)))
 fM d (a.add 1) λbb=>(cond (bb==1) (f true) (fM d (a.add 1) λbc=>(cond (bc==6) (f true) (fM d (a.add 1) λbd=>f (bd==17)))))):=χ Tryz.func119
theorem OU {a w K}:gB (lM a w K)
 (let b:Bool->Prop:=λc=>(K c w)
 (cond (!(Option.isNone a)) (Pt a λd=>Ld .ptr w (d.add 1) λe=>b (!(Option.isNone e))) (b false))):=χ Tryz.func120
theorem NH {a c w K}:gB (oU a c w K)
 (mZ a w λe d=>(cond (!e) (K 0 false d) (jg a c d λf g b=>(cond (!g) (K 0 false b) (Pt a λh=>Ld .slice b h λi=>iF i 3 f λj=>fM b (j.add 1) λk=>K k true b))))):=χ Tryz.func121
theorem OW {c d e w K}:gB (qG c d e w K)
 (Al w (.cells ⟨[.int .i64 c,.int .i64 d,.int .i64 e]⟩ 48) λb a=>fM a b λf=>fM a (b.add 1) λg=>fM a (b.add 2) λh=>Al a (.cells ⟨[.int .i64 f,.int .i64 g,.int .i64 h]⟩ 3) λi j=>Eu ⟨(some i),3,3⟩ j λk l=>K k l):=χ Tryz.func122
theorem Gl {b c d e w K}:gB (nZ b c d e w K)
 (Al w (.cells ⟨[.int .i64 d,.int .i64 e]⟩ 94) λf j=>jG b j λk a=>(cond (!k) (K 0 false a) (Pt b λg=>Ld .ptr a.drew (g.add 1) λh=>fM a.drew (f.add 0) λl=>fM a.drew (f.add 1) λm=>uK c l m a.drew λn i=>i.cell? (g.add 1)=some (.pointer h)/\
 oU h n i λo p q=>K o p q))):=χ Tryz.func123
theorem Nw {A0 A1 A2 A3 A4 A5 A6 A7 A8 A9 u I J N O R w K}:gB (Oj A0 A1 A2 A3 A4 A5 A6 A7 A8 A9 u I J N O R w K)
 (Al w (.cells ⟨(mY A0 A1 A2 A3 A4 A5 A6 A7 A8 A9 u I J N O R)⟩ 23) λb a=>uH a b λc d e f g h i j k l m n o p q r=>ER c d e f g h i j k l m n o p q r a λs t=>K (!s) t):=χ Tryz.func127
theorem Z9 {b c d e f g h i j k l m n o p q w K}:gB (ER b c d e f g h i j k l m n o p q w K)
 (Al w (.cells ⟨(mY b c d e f g h i j k l m n o p q)⟩ 23) λr t=>Al t (.cells ⟨(mY 0 0 0 0 0 0 0 0 0 0 0 0 0 0 0 0)⟩ 23) λu a=>let s:Bool->Prop:=λv=>(K v a)
 uH a r λx y z A B C D E F G H I J L M N=>uH a u λO P Q R S T U V W X Y Z aa ab ac ad=>(cond (!((x==O) && ((y==P) && ((z==Q) && ((A==R) && ((B==S) && ((C==T) && ((D==U) && ((E==V) && ((F==W) && ((G==X) && ((H==Y) && ((I==Z) && ((J==aa) && ((L==ab) && ((M==ac) && ((N==ad) && true))))))))))))))))) ((0:Int)<=0/\0<(16:Int)/\
 Ld (.int .u8) a (r.add (Int.toNat 0 * 1)) λae=>s (ae !=255)) (s false))):=χ Tryz.func128
theorem Ny {a0 w K}:gB (Ol a0 w K)
 (rU a0 w λa b=>K (!a) b):=χ Tryz.func129
theorem Nz {A0 A1 A2 A3 A4 A5 A6 f0 w K}:gB (Om A0 A1 A2 A3 A4 A5 A6 f0 w K)
 (Al w (.cells ⟨[.int .i64 A0,.int .i64 A1,.int .i64 A2,.int .i64 A3,.int .i64 A4,.int .i64 A5,.int .i64 A6]⟩ 50) λb a=>rO a f0 λc d e f g h i j k l m n o p q r s t u v x y z A B C D E F G H I J L M N=>fM a (b.add 0) λO=>fM a (b.add 1) λP=>fM a (b.add 2) λQ=>fM a (b.add 3) λR=>fM a (b.add 4) λS=>fM a (b.add 5) λT=>fM a (b.add 6) λU=>CV c d e f g h i j k l m n o p q r s t u v x y z A B C D E F G H I J L M N O P Q R S T U a λV W=>K (!V) W):=χ Tryz.func130
theorem TD {g h i j k l m n o p q r s t u v x y z A B C D E F G H I J L M N O P Q R S T U V W X Y w K}:gB (CV g h i j k l m n o p q r s t u v x y z A B C D E F G H I J L M N O P Q R S T U V W X Y w K)
 (Al w (.cells ⟨(jo g h i j k l m n o p q r s t u v x y z A B C D E F G H I J L M N O P Q R)⟩ 28) λZ w3=>Al w3 (.cells ⟨[.int .i64 S,.int .i64 T,.int .i64 U,.int .i64 V,.int .i64 W,.int .i64 X,.int .i64 Y]⟩ 50) λa w5=>let J7:Bool->b_:=λj8 w9=>(let ad:Bool->b_:=λai ae=>(let af:Bool->b_:=λaj b=>(let c:Bool->b_:=λak al=>(K ak al)
 (cond j8 (cond ai (cond aj (fM b a λam=>Ld .slice b (Z.add 16) λan=>kK am 0 (ο.wrap ((an.len:Int) - 1)) b λao ap=>c ao ap) (c false b)) (c false b)) (c false b)))
 fM ae (a.add 1) λaq=>Aq aq ae λar d=>(cond ar (fM d (a.add 1) λau=>fM d (a.add 4) λav=>af (au==av) d) (af false d)))
 fM w9 (a.add 2) λaw=>rU aw w9 λax e=>(cond ax (Ld .slice e (Z.add 17) λay=>fM e ((a.add 4).add 1) λaz=>iR ay az e λaA aB=>ad aA aB) (ad false e)))
 fM w5 (a.add 3) λaC=>kK aC 0 65535 w5 λaD f=>(cond aD (fM f ((a.add 4).add 2) λaE=>kK aE 0 65535 f λaF aG=>J7 aF aG) (J7 false f))):=χ Tryz.func131
theorem sH {a b w K}:gB (jR a b w K)
 (kE a b w λc d=>K (decide (c>=0)) d):=χ Tryz.func132
theorem xw {a b w K}:gB (jU a b w K)
 (jO a b w λc d=>K (decide (c>=0)) d):=χ Tryz.func133
theorem pF {a b w K}:gB (jh a b w K)
 (jH a b w λc d=>K (decide (c>=0)) d):=χ Tryz.func134
theorem wQ {b w K}:gB (jQ b w K)
 ((cond (Option.isNone b.a) (K ⟨none,0,0⟩ w) (Al w (.cells ⟨[]⟩ 23) λc d=>mW 23 16 16 (mY 0 0 0 0 0 0 0 0 0 0 0 0 0 0 0 0) ⟨(some c),0,0⟩ b d λe f=>K e f))):=χ Tryz.func135
theorem JJ {e f g h i j k w K}:gB (Ak e f g h i j k w K)
 (Al w (.cells ⟨[.int .i64 e,.int .i64 f,.int .i64 g,.int .i64 h,.int .i64 i,.int .i64 j,.int .i64 k]⟩ 50) λd l=>Al l (.cells ⟨alU⟩ 46) λa b=>fM b (d.add 0) λm=>fM b (d.add 1) λn=>fM b (d.add 2) λo=>fM b (d.add 3) λp=>ig [.int .i64 m,.int .i64 n,.int .i64 o,.int .i64 p] b a 0 λc=>fM c (a.add 0) λq=>fM c (a.add 1) λr=>fM c (a.add 2) λs=>fM c (a.add 3) λt=>K q r s t c):=χ Tryz.func136
theorem JK {e f g h i j k w K}:gB (Am e f g h i j k w K)
 (Al w (.cells ⟨[.int .i64 e,.int .i64 f,.int .i64 g,.int .i64 h,.int .i64 i,.int .i64 j,.int .i64 k]⟩ 50) λd l=>Al l (.cells ⟨alM⟩ 48) λa b=>fM b ((d.add 4).add 0) λm=>fM b ((d.add 4).add 1) λn=>fM b ((d.add 4).add 2) λo=>ig [.int .i64 m,.int .i64 n,.int .i64 o] b a 0 λc=>fM c (a.add 0) λp=>fM c (a.add 1) λq=>fM c (a.add 2) λr=>K p q r c):=χ Tryz.func137
theorem D8 {j w K}:gB (pW j w K)
 (Al w (.cells ⟨[.bool false]⟩ 4) λe k=>Al k (.map #[] 0) λa5 n=>Al n (.cells ⟨[.map none]⟩ 347) λf o=>St o f (.map (some k.heap.size)) λd=>zn υ none [.agg Rf] j d (λb a l m=>Al l (.cells ⟨(mY 0 0 0 0 0 0 0 0 0 0 0 0 0 0 0 0)⟩ 23) λg p=>ig (mY a.1.1 a.1.2.1 a.1.2.2.1 a.1.2.2.2.1 a.1.2.2.2.2.1 a.1.2.2.2.2.2.1 a.1.2.2.2.2.2.2.1 a.1.2.2.2.2.2.2.2.1 a.1.2.2.2.2.2.2.2.2.1 a.1.2.2.2.2.2.2.2.2.2.1 a.1.2.2.2.2.2.2.2.2.2.2.1 a.1.2.2.2.2.2.2.2.2.2.2.2.1 a.1.2.2.2.2.2.2.2.2.2.2.2.2.1 a.1.2.2.2.2.2.2.2.2.2.2.2.2.2.1 a.1.2.2.2.2.2.2.2.2.2.2.2.2.2.2.1 a.1.2.2.2.2.2.2.2.2.2.2.2.2.2.2.2.1) p g 0 λc=>c.heap[b]? =l.heap[b]? /\
 Ld .map (gG c b) f λq=>uH (gG c b) g λr s t u v x y z A B C D E F G H=>rP υ 23 .bool q (Value.agg ⟨mY r s t u v x y z A B C D E F G H⟩) (Value.bool false) (gG c b) λI=>(cond I (St (gG c b) e (Value.bool true) λJ=>m .ret J) (Ld .map (gG c b) f λL=>uH (gG c b) g λM N O P Q R S T U V W X Y Z aa ab=>oP υ 23 L (Value.agg ⟨mY M N O P Q R S T U V W X Y Z aa ab⟩) (Value.bool true) (gG c b) λac=>m .normal ac)))
 (λad=>St ad e (.bool false) λh=>h.heap[d.heap.size]? =some (.deferred (some []))/\
 Ld .bool (h.putObj d.heap.size (.deferred none)) e λae=>K ae (h.putObj d.heap.size (.deferred none)))
 (λi=>i.heap[d.heap.size]? =some (.deferred (some []))/\
 Ld .bool (i.putObj d.heap.size (.deferred none)) e λaf=>K af (i.putObj d.heap.size (.deferred none)))
 []):=χ Tryz.func138 (fQ (fQ (.seq (fQ (.blk (.rng [.agg Rf] .leaf .leaf))) .leaf)))
theorem xq {b c w K}:gB (lG b c w K)
 (iL (Value.slice b.a b.len b.cap)=true/\
 Al w (.cells ⟨[.slice b.a b.len b.cap]⟩ 24) λd e=>iL c=true/\
 Al e (.cells ⟨[c]⟩ 243) λf g=>K (Value.func (.func 224) #[] #[(Value.pointer (some d)),(Value.pointer (some f))]) g):=χ Tryz.func139
theorem Dy {a b c d e f g h i j k l m n o p w K}:gB (vH a b c d e f g h i j k l m n o p w K)
 (Al w (.cells ⟨(mY a b c d e f g h i j k l m n o p)⟩ 23) λt u=>Al u (.cells ⟨(mY 0 0 0 0 0 0 0 0 0 0 0 0 0 0 0 0)⟩ 23) λq r=>uH r t λv x y z A B C D E F G H I J L M=>ig (mY v x y z A B C D E F G H I J L M) r q 0 λs=>uH s q λN O P Q R S T U V W X Y Z aa ab ac=>K N O P Q R S T U V W X Y Z aa ab ac s):=χ Tryz.func140
theorem JM {h w K}:gB (uU h w K)
 (Al w (.cells ⟨[.bool false]⟩ 4) λd i=>Al i (.map #[] 0) λv l=>Al l (.cells ⟨[.map none]⟩ 348) λe m=>St m e (.map (some i.heap.size)) λa=>zn υ none [.one ν] h a (λb j c k=>c.heap[b]? =c.heap[b]? /\
 Ld .map (gG c b) e λn=>rP υ 3 .bool n (Value.int .i64 j.1) (Value.bool false) (gG c b) λo=>(cond o (St (gG c b) d (Value.bool true) λp=>k .ret p) (Ld .map (gG c b) e λq=>oP υ 3 q (Value.int .i64 j.1) (Value.bool true) (gG c b) λr=>k .normal r)))
 (λs=>St s d (.bool false) λf=>f.heap[a.heap.size]? =some (.deferred (some []))/\
 Ld .bool (f.putObj a.heap.size (.deferred none)) d λt=>K t (f.putObj a.heap.size (.deferred none)))
 (λg=>g.heap[a.heap.size]? =some (.deferred (some []))/\
 Ld .bool (g.putObj a.heap.size (.deferred none)) d λu=>K u (g.putObj a.heap.size (.deferred none)))
 []):=χ Tryz.func141 (fQ (fQ (.seq (fQ (.blk (.rng [.one ν] .leaf .leaf))) .leaf)))
theorem Fh {b c w K}:gB (qP b c w K)
 (iL (Value.slice b.a b.len b.cap)=true/\
 Al w (.cells ⟨[.slice b.a b.len b.cap]⟩ 25) λd e=>iL c=true/\
 Al e (.cells ⟨[c]⟩ 54) λf g=>K (Value.func (.func 225) #[] #[(Value.pointer (some d)),(Value.pointer (some f))]) g):=χ Tryz.func142
theorem Ih {a0 w K}:gB (JA a0 w K)
 (K a0 w):=χ Tryz.func143
theorem BA {j w K}:gB (oD j w K)
 (Al w (.cells ⟨[.bool false]⟩ 4) λe k=>Al k (.map #[] 0) λH n=>Al n (.cells ⟨[.map none]⟩ 349) λg o=>St o g (.map (some k.heap.size)) λd=>zn υ none [.agg [ν,ν,ν,ν]] j d (λa f l m=>Al l (.cells ⟨alU⟩ 46) λc p=>ig [.int .i64 f.1.1,.int .i64 f.1.2.1,.int .i64 f.1.2.2.1,.int .i64 f.1.2.2.2.1] p c 0 λb=>b.heap[a]? =l.heap[a]? /\
 Ld .map (gG b a) g λq=>fM (gG b a) (c.add 0) λr=>fM (gG b a) (c.add 1) λs=>fM (gG b a) (c.add 2) λt=>fM (gG b a) (c.add 3) λu=>rP υ 46 .bool q (Value.agg ⟨[.int .i64 r,.int .i64 s,.int .i64 t,.int .i64 u]⟩) (Value.bool false) (gG b a) λv=>(cond v (St (gG b a) e (Value.bool true) λx=>m .ret x) (Ld .map (gG b a) g λy=>fM (gG b a) (c.add 0) λz=>fM (gG b a) (c.add 1) λA=>fM (gG b a) (c.add 2) λB=>fM (gG b a) (c.add 3) λC=>oP υ 46 y (Value.agg ⟨[.int .i64 z,.int .i64 A,.int .i64 B,.int .i64 C]⟩) (Value.bool true) (gG b a) λD=>m .normal D)))
 (λE=>St E e (.bool false) λh=>h.heap[d.heap.size]? =some (.deferred (some []))/\
 Ld .bool (h.putObj d.heap.size (.deferred none)) e λF=>K F (h.putObj d.heap.size (.deferred none)))
 (λi=>i.heap[d.heap.size]? =some (.deferred (some []))/\
 Ld .bool (i.putObj d.heap.size (.deferred none)) e λG=>K G (i.putObj d.heap.size (.deferred none)))
 []):=χ Tryz.func144 (fQ (fQ (.seq (fQ (.blk (.rng [.agg [ν,ν,ν,ν]] .leaf .leaf))) .leaf)))
theorem uN {b c w K}:gB (kC b c w K)
 (iL (Value.slice b.a b.len b.cap)=true/\
 Al w (.cells ⟨[.slice b.a b.len b.cap]⟩ 26) λd e=>iL c=true/\
 Al e (.cells ⟨[c]⟩ 237) λf g=>K (Value.func (.func 226) #[] #[(Value.pointer (some d)),(Value.pointer (some f))]) g):=χ Tryz.func145
theorem BD {j w K}:gB (oG j w K)
 (Al w (.cells ⟨[.bool false]⟩ 4) λe k=>Al k (.map #[] 0) λF n=>Al n (.cells ⟨[.map none]⟩ 141) λf o=>St o f (.map (some k.heap.size)) λc=>zn υ none [.agg [ν,ν,ν]] j c (λa g l m=>Al l (.cells ⟨alM⟩ 48) λd p=>ig [.int .i64 g.1.1,.int .i64 g.1.2.1,.int .i64 g.1.2.2.1] p d 0 λb=>b.heap[a]? =l.heap[a]? /\
 Ld .map (gG b a) f λq=>fM (gG b a) (d.add 0) λr=>fM (gG b a) (d.add 1) λs=>fM (gG b a) (d.add 2) λt=>rP υ 48 .bool q (Value.agg ⟨[.int .i64 r,.int .i64 s,.int .i64 t]⟩) (Value.bool false) (gG b a) λu=>(cond u (St (gG b a) e (Value.bool true) λv=>m .ret v) (Ld .map (gG b a) f λx=>fM (gG b a) (d.add 0) λy=>fM (gG b a) (d.add 1) λz=>fM (gG b a) (d.add 2) λA=>oP υ 48 x (Value.agg ⟨[.int .i64 y,.int .i64 z,.int .i64 A]⟩) (Value.bool true) (gG b a) λB=>m .normal B)))
 (λC=>St C e (.bool false) λh=>h.heap[c.heap.size]? =some (.deferred (some []))/\
 Ld .bool (h.putObj c.heap.size (.deferred none)) e λD=>K D (h.putObj c.heap.size (.deferred none)))
 (λi=>i.heap[c.heap.size]? =some (.deferred (some []))/\
 Ld .bool (i.putObj c.heap.size (.deferred none)) e λE=>K E (i.putObj c.heap.size (.deferred none)))
 []):=χ Tryz.func146 (fQ (fQ (.seq (fQ (.blk (.rng [.agg [ν,ν,ν]] .leaf .leaf))) .leaf)))
theorem uO {b c w K}:gB (kD b c w K)
 (iL (Value.slice b.a b.len b.cap)=true/\
 Al w (.cells ⟨[.slice b.a b.len b.cap]⟩ 26) λd e=>iL c=true/\
 Al e (.cells ⟨[c]⟩ 238) λf g=>K (Value.func (.func 227) #[] #[(Value.pointer (some d)),(Value.pointer (some f))]) g):=χ Tryz.func147
theorem JL {a0 f0 w K}:gB (KU a0 f0 w K)
 (fM w (f0.add 20) λa=>K (decide (a0>a)) w):=χ Tryz.func148
theorem KG {a w K}:gB (lu a w K)
 (let b:Bool->Prop:=λc=>(K c w)
 (cond (decide (a>=0)) (b (decide (a<4294967296))) (b false))):=χ Tryz.func149
theorem P5 {f b w K}:gB (Rx f b w K)
 (iH (S:=Int×Unit) (λc a i=>(cond (decide (c.1<(b.len:Int))) (iF b 2 c.1 λg=>fM a (g.add 0) λj=>fM a (g.add 1) λk=>Al a (.cells ⟨alL⟩ 258) λd l=>ig [.int .i64 j,.int .i64 k] l d 0 λe=>fM e (d.add 0) λm=>fM e (d.add 1) λn=>wW m n f e λo h=>(cond o (K true h) (i ((ο.wrap (c.1+1)),()) h))) (K false a))) (0,()) w):=χ Tryz.func150 (fQ (.seq (fQ (.blk (.loop [(9,ν)] .leaf))) .leaf))
theorem vJ {c d w K}:gB (mP c d w K)
 (iH (S:=Int×Unit) (λa b e=>(cond (decide (a.1<(c.len:Int))) (iF c 1 a.1 λf=>fM b f λg=>(cond (d==g) (K a.1 b) (e ((ο.wrap (a.1+1)),()) b))) (K (-1) b))) (0,()) w):=χ Tryz.func151 (fQ (.seq (fQ (.blk (.loop [(8,ν)] .leaf))) .leaf))
theorem OZ {a c w K}:gB (uS a c w K)
 (let d:Bool->b_:=λe f=>(K e f)
 jT a w λg b=>(cond g (Pt a λh=>Ld .slice b (h.add 2) λi=>iR i c b λj k=>d j k) (d false b))):=χ Tryz.func152
theorem Yc {a w K}:gB (BN a w K)
 (let b:Bool->Prop:=λc=>(K c w)
 (cond (decide (a>=0)) (b (decide (a<=65535))) (b false))):=χ Tryz.func153
theorem OV {c d e f w K}:gB (qF c d e f w K)
 (Al w (.cells ⟨[.int .i64 c,.int .i64 d,.int .i64 e,.int .i64 f]⟩ 46) λb a=>fM a b λg=>fM a (b.add 1) λh=>fM a (b.add 2) λi=>fM a (b.add 3) λj=>Al a (.cells ⟨[.int .i64 g,.int .i64 h,.int .i64 i,.int .i64 j]⟩ 3) λk l=>Eu ⟨(some k),4,4⟩ l λm n=>K m n):=χ Tryz.func154
theorem NT {b c w K}:gB (oZ b c w K)
 (let d:Bool->Prop:=λf=>((cond f (K none 2 w) (let e:Bool->Prop:=λg=>((cond g (K none 1 w) (Pt b λh=>Ld .slice w h λi=>iF i 2 c λj=>K (some j) 0 w)))
 (cond (decide (c<0)) (e true) (Pt b λk=>Ld .slice w k λl=>e (decide (c>=(l.len:Int))))))))
 (cond (Option.isNone b) (d true) (Pt b λm=>Ld .slice w m λn=>d (Option.isNone n.a)))):=χ Tryz.func155
theorem Tt {a w K}:gB (CS a w K)
 (lM a w λc b=>(cond (!c) (K 0 b) (Pt a λd=>fM b (d.add 3) λe=>K e b))):=χ Tryz.func156
theorem J3 {b c w K}:gB (uZ b c w K)
 (Al w (.cells ⟨[.int .i64 b,.int .i64 c]⟩ 148) λd a=>fM a d λe=>fM a (d.add 1) λf=>K (decide (e>=f)) a):=χ Tryz.func157
theorem Bc {a w K}:gB (jT a w K)
 (let b:Bool->Prop:=λc=>(K c w)
 (cond (!(Option.isNone a)) (Pt a λd=>Ld .map w (d.add 3) λe=>b (!(Option.isNone e))) (b false))):=χ Tryz.func158
theorem KH {a w K}:gB (sU a w K)
 (let b:Bool->Prop:=λc=>((cond c (K true w) (K false w)))
 (cond (a==1) (b (a==1)) (cond (a==6) (b (a==6)) (b (a==17))))):=χ Tryz.func159
theorem Qm {c w K}:gB (Ah c w K)
 (Pt c λd=>Ld .slice w d λe=>iH (S:=Int×Unit) (λb a f=>(cond (decide (b.1<(e.len:Int))) (Pt c λg=>Ld .slice a g λh=>iF h 9 b.1 λi=>Ld .bool a (i.add 8) λj=>(cond (!j) (K b.1 true a) (f ((ο.wrap (b.1+1)),()) a))) (K 0 false a))) (0,()) w):=χ Tryz.func160 (fQ (.seq (fQ (.blk (.loop [(10,ν)] .leaf))) .leaf))
theorem NI {a c d w K}:gB (oV a c d w K)
 (mZ a w λh e=>(cond (!h) (K 2 e) (jg a c e λi j b=>(cond j (Pt a λk=>Ld .slice b k λl=>iF l 3 i λm=>St b (m.add 1) (.int .i64 d) λn=>K 0 n) (Pt a λo=>fM b.drew (o.add 1) λp=>Pt a λq=>fM b.drew (q.add 2) λr=>(cond (decide (p>=r)) (K 7 b.drew) (vU a b.drew λs=>jg a c s λt C f=>Pt a λu=>Ld .slice f u λv=>iF v 3 t λx=>ig [.string c,.int .i64 d,.bool true] f x 0 λg=>Pt a λy=>fM g (y.add 1) λz=>Pt a λA=>St g (A.add 1) (.int .i64 (ο.wrap (z+1))) λB=>K 0 B))))))):=χ Tryz.func161
theorem acZ {a w K}:gB (yC a w K)
 (ru a false w λb c=>K (!b) c):=χ Tryz.func162
theorem aaL {b a w K}:gB (kQ b a w K)
 (let c:Bool->b_:=λe f=>(K e f)
 Et a w λg d=>(cond g (cond (decide (b>=0)) (0<=(ο.wrap (8 * a))/\
 c ((jy .i64 b (ο.wrap (8 * a)))==0) d) (c false d)) (c false d))):=χ Tryz.func163
theorem aaQ {e f g h i j k l m n o w K}:gB (Oq e f g h i j k l m n o w K)
 (Al w (.cells ⟨(gQ e f g h i j k l m n o)⟩ 40) λc d=>iC d.drew c λq r s t u v x y z A B=>Ld .slice d.drew (c.add 10) λb=>Jb q r s t u v x y z A B d.drew λC p=>p.cell? (c.add 10)=some (.slice b.a b.len b.cap)/\
 K (ο.wrap (C+(b.len:Int))) p):=χ Tryz.func164
theorem Yo {a w K}:gB (yA a w K)
 (Ja a w λb c=>K (b==65535) c):=χ Tryz.func165
theorem acV {c d e w K}:gB (yw c d e w K)
 (BL c d e w λf g h=>iH (S:=Int×Int×Unit) (λa b i=>(cond (decide (a.2.1<(f.len:Int))) (iF f 1 a.2.1 λj=>Ld (.int .u8) b j λk=>0<=(8:Int)/\
 i ((orI .i64 (Ky .i64 a.1 8) (ο.wrap k)),(ο.wrap (a.2.1+1)),()) b) (K a.1 g b))) (0,0,()) h):=χ Tryz.func166 (fQ (fQ (fQ (.seq (fQ (.blk (.loop [(10,ν),(22,ν)] .leaf))) .leaf))))
theorem BG {b w K}:gB (gY b w K)
 ((cond (Option.isNone b.a) (K ⟨none,0,0⟩ w) (Al w (.cells ⟨[]⟩ 5) λc d=>mW 5 1 1 [(Value.int .u8 0)] ⟨(some c),0,0⟩ b d λe f=>K e f))):=χ Tryz.func167
theorem ZT {a b w K}:gB (Ez a b w K)
 (iR b a w λc d=>K c d):=χ Tryz.func168
theorem Vm {d w K}:gB (vZ d w K)
 (Al w (.cells ⟨(nM ⟨none,0,0⟩ 0 0 0 0 0 0 0 false false ⟨none,0,0⟩ ⟨none,0,0⟩ 0)⟩ 276) λa v=>Hg d v λx y z A B C D E F G H e I=>Al I (.cells ⟨ξ⟩ 40) λc J=>ig (gQ x y z A B C D E F G H) J c 0 λb=>(cond (e !=0) (ig (nM ⟨none,0,0⟩ 0 0 0 0 0 0 0 false false ⟨none,0,0⟩ ⟨none,0,0⟩ 0) b a 0 λf=>tX f a λL M N O P Q R S T U V W X=>K L M N O P Q R S T U V W X e f) (fM b (c.add 2) λY=>(cond (decide (Y>0)) (ig (nM ⟨none,0,0⟩ 0 0 0 0 0 0 0 false false ⟨none,0,0⟩ ⟨none,0,0⟩ 0) b a 0 λg=>tX g a λZ aa ab ac ad ae af ag ah ai aj ak al=>K Z aa ab ac ad ae af ag ah ai aj ak al 4 g) (Ld .slice b (c.add 10) λam=>(cond (decide ((am.len:Int)<8)) (ig (nM ⟨none,0,0⟩ 0 0 0 0 0 0 0 false false ⟨none,0,0⟩ ⟨none,0,0⟩ 0) b a 0 λh=>tX h a λan ao ap aq ar au av aw ax ay az aA aB=>K an ao ap aq ar au av aw ax ay az aA aB 3 h) (iC b.drew c λi j k l m n o p q r s=>iC b.drew c λaC aD aE aF aG aH aI aJ aK aL aM=>Jb aC aD aE aF aG aH aI aJ aK aL aM b.drew λaN t=>UK (gQ i j k l m n o p q r s) t c 0 (
 ig (nM d i j k l m n o p q r s aN) t a 0 λu=>tX u a λaO aP aQ aR aS aT aU aV aW aX aY aZ a1=>K aO aP aQ aR aS aT aU aV aW aX aY aZ a1 0 u)))))))):=χ Tryz.func169
theorem Gi {k l m n o p q r s t u v x w K}:gB (rZ k l m n o p q r s t u v x w K)
 (Al w (.cells ⟨(nM k l m n o p q r s t u v x)⟩ 276) λb w2=>Al w2 (.cells ⟨alM⟩ 89) λa c=>let y:b_:=λw7=>(ig alM w7 a 0 λd=>fM d (a.add 0) λy9=>fM d (a.add 1) λag=>fM d (a.add 2) λah=>K y9 ag ah 8 d)
 fM c ((b.add 1).add 4) λe=>let z:Bool->Prop:=λai=>((cond ai (fM c.drew ((b.add 1).add 4) λi=>tX c.drew b λaj ak al am an ao ap aq ar au av aw ax=>tX c.drew b λA B C D E F G H I J L M N=>jL aj ak al am an ao ap aq ar au av aw ax 0 c.drew λay j=>UK (nM A B C D E F G H I J L M N) j b 0 (
 j.cell? ((b.add 1).add 4)=some (.int .i64 i)/\
 jL A B C D E F G H I J L M N 2 j λaz O=>O.cell? ((b.add 1).add 4)=some (.int .i64 i)/\
 ig [.int .i64 i,.int .i64 ay,.int .i64 az] O a 0 λf=>fM f (a.add 0) λaA=>fM f (a.add 1) λaB=>fM f (a.add 2) λaC=>K aA aB aC 0 f)) (cond (e==1) (Ld .slice c ((b.add 1).add 10) λaD=>iF aD 1 0 λaE=>Ld (.int .u8) c aE λaF=>zB (ο.wrap aF) c λaG g=>(cond aG (tX g.drew b λaH aI aJ aK aL aM aN aO aP aQ aR aS aT=>tX g.drew b λP Q R S T U V W X Y Z aa ab=>jL aH aI aJ aK aL aM aN aO aP aQ aR aS aT 4 g.drew λaU ac=>UK (nM P Q R S T U V W X Y Z aa ab) ac b 0 (
 jL P Q R S T U V W X Y Z aa ab 4 ac λaV aW=>ig [.int .i64 1,.int .i64 aU,.int .i64 aV] aW a 0 λh=>fM h (a.add 0) λaX=>fM h (a.add 1) λaY=>fM h (a.add 2) λaZ=>K aX aY aZ 0 h)) (y g))) (y c))))
 (cond (e==6) (z (e==6)) (z (e==17)))):=χ Tryz.func170
theorem O4 {l m n h o p q w K}:gB (yN l m n h o p q w K)
 (Al w (.cells ⟨[.int .i64 l,.int .i64 m,.int .i64 n,.slice h.a h.len h.cap]⟩ 84) λc u=>Al u (.cells ⟨alN⟩ 84) λb r=>let s:Value->Prop:=λv=>(Ld .slice r (c.add 3) λi=>jB υ [.one .slice,.one ν] v [(Value.slice i.a i.len i.cap),(Value.int .i64 p),(Value.int .i64 q)] r λx t=>∃d:fU,∃j:Int,x=(Value.tuple ⟨[.slice d.a d.len d.cap,.int .i64 j]⟩)/\
 (cond (j !=0) (ig alN t b 0 λe=>fM e (b.add 0) λy=>fM e (b.add 1) λz=>fM e (b.add 2) λA=>Ld .slice e (b.add 3) λB=>K y z A B j e) (St t (c.add 3) (.slice d.a d.len d.cap) λf=>fM f (c.add 0) λC=>fM f (c.add 1) λD=>fM f (c.add 2) λE=>Ld .slice f (c.add 3) λk=>ig [.int .i64 C,.int .i64 D,.int .i64 E,.slice k.a k.len k.cap] f b 0 λg=>fM g (b.add 0) λF=>fM g (b.add 1) λG=>fM g (b.add 2) λH=>Ld .slice g (b.add 3) λI=>K F G H I 0 g)))
 (cond o (s (Value.func (.func 238) #[] #[])) (s (Value.func (.func 237) #[] #[])))):=χ Tryz.func171
theorem U8 {g h i d w K}:gB (zu g h i d w K)
 (Al w (.cells ⟨[.int .i64 g,.int .i64 h,.int .i64 i,.slice d.a d.len d.cap]⟩ 84) λb c=>fM c (b.add 0) λm=>fM c (b.add 1) λn=>fM c (b.add 2) λo=>Ld .slice c (b.add 3) λp=>Ew m n o p c λj e=>(cond (j !=0) (K ⟨none,0,0⟩ j e) (fM e b λq=>fM e (b.add 1) λr=>Al e (.cells ⟨[.int .u8 (IntKind.u8.wrap q),.int .u8 (IntKind.u8.wrap r),.int .u8 0,.int .u8 0]⟩ 5) λs k=>fM k (b.add 2) λt=>nY ⟨(some s),4,4⟩ t 4 k λu l=>Ld .slice l (b.add 3) λv=>mW 5 1 1 [(Value.int .u8 0)] u v l λf x=>Al x (.cells ⟨[.slice f.a f.len f.cap]⟩ 38) λy z=>G6 ⟨(some y),1,1⟩ z λA B=>yx f 2 A 2 B λC D E=>K C D E))):=χ Tryz.func172
theorem Yw {v x d w K}:gB (Hf v x d w K)
 (Al w (.cells ⟨alR⟩ 116) λc y=>(cond (decide ((d.len:Int)<8)) (ig alR y c 0 λm=>fM m (c.add 0) λD=>fM m (c.add 1) λE=>Ld .bool m (c.add 2) λF=>Ld .slice m (c.add 3) λG=>K D E F G 3 m) (Al y (.cells ⟨alU⟩ 358) λe H=>kJ d 1 0 8 λI=>Es I H λJ b=>zn υ none [.one ν,.one ν] J b (λq n r L=>r.heap[q]? =r.heap[q]? /\
 (2:Int)≠0/\
 (0:Int)<=(ο.wrap (Int.tdiv n.1 2))/\(ο.wrap (Int.tdiv n.1 2))<(4:Int)/\
 St (gG r q) (e.add (Int.toNat (ο.wrap (Int.tdiv n.1 2)) * 1)) (Value.int .i64 n.2.1) λM=>L .normal M)
 (λf=>(0:Int)<=2/\2<(4:Int)/\
 fM f.drew (e.add (Int.toNat 2 * 1)) λo=>(0:Int)<=3/\3<(4:Int)/\
 fM f.drew (e.add (Int.toNat 3 * 1)) λz=>(cond (decide (o<8)) (ig alR f.drew c 0 λg=>g.heap[b.heap.size]? =some (.deferred (some []))/\
 fM (g.putObj b.heap.size (.deferred none)) (c.add 0) λN=>fM (g.putObj b.heap.size (.deferred none)) (c.add 1) λO=>Ld .bool (g.putObj b.heap.size (.deferred none)) (c.add 2) λP=>Ld .slice (g.putObj b.heap.size (.deferred none)) (c.add 3) λQ=>K N O P Q 4 (g.putObj b.heap.size (.deferred none))) (cond (decide (o>(d.len:Int))) (ig alR f.drew c 0 λh=>h.heap[b.heap.size]? =some (.deferred (some []))/\
 fM (h.putObj b.heap.size (.deferred none)) (c.add 0) λR=>fM (h.putObj b.heap.size (.deferred none)) (c.add 1) λS=>Ld .bool (h.putObj b.heap.size (.deferred none)) (c.add 2) λT=>Ld .slice (h.putObj b.heap.size (.deferred none)) (c.add 3) λU=>K R S T U 3 (h.putObj b.heap.size (.deferred none))) (cond (decide (o<(d.len:Int))) (ig alR f.drew c 0 λi=>i.heap[b.heap.size]? =some (.deferred (some []))/\
 fM (i.putObj b.heap.size (.deferred none)) (c.add 0) λV=>fM (i.putObj b.heap.size (.deferred none)) (c.add 1) λW=>Ld .bool (i.putObj b.heap.size (.deferred none)) (c.add 2) λX=>Ld .slice (i.putObj b.heap.size (.deferred none)) (c.add 3) λY=>K V W X Y 4 (i.putObj b.heap.size (.deferred none))) (let A:Bool->b_:=λZ p=>((cond Z (ig alR p c 0 λj=>j.heap[b.heap.size]? =some (.deferred (some []))/\
 fM (j.putObj b.heap.size (.deferred none)) (c.add 0) λaa=>fM (j.putObj b.heap.size (.deferred none)) (c.add 1) λab=>Ld .bool (j.putObj b.heap.size (.deferred none)) (c.add 2) λac=>Ld .slice (j.putObj b.heap.size (.deferred none)) (c.add 3) λad=>K aa ab ac ad 5 (j.putObj b.heap.size (.deferred none))) ((0:Int)<=0/\0<(4:Int)/\
 fM p.drew (e.add (Int.toNat 0 * 1)) λB=>(0:Int)<=1/\1<(4:Int)/\
 fM p.drew (e.add (Int.toNat 1 * 1)) λC=>kJ d 1 8 (d.len:Int) λae=>gY ae p.drew λs t=>t.cell? (e.add (Int.toNat 1 * 1))=some (.int .i64 C)/\
 t.cell? (e.add (Int.toNat 0 * 1))=some (.int .i64 B)/\
 ig [.int .i64 B,.int .i64 C,.bool (z==0),.slice s.a s.len s.cap] t c 0 λk=>k.heap[b.heap.size]? =some (.deferred (some []))/\
 fM (k.putObj b.heap.size (.deferred none)) (c.add 0) λaf=>fM (k.putObj b.heap.size (.deferred none)) (c.add 1) λag=>Ld .bool (k.putObj b.heap.size (.deferred none)) (c.add 2) λah=>Ld .slice (k.putObj b.heap.size (.deferred none)) (c.add 3) λai=>K af ag ah ai 0 (k.putObj b.heap.size (.deferred none)))))
 (cond (z !=0) (sZ v x 17 o f.drew λu aj=>Al aj (.cells ⟨[.slice u.a u.len u.cap,.slice d.a d.len d.cap]⟩ 38) λak al=>yA ⟨(some ak),2,2⟩ al λam an=>A (!am) an) (A false f.drew)))))))
 (λl=>l.heap[b.heap.size]? =some (.deferred (some []))/\
 fM (l.putObj b.heap.size (.deferred none)) (c.add 0) λao=>fM (l.putObj b.heap.size (.deferred none)) (c.add 1) λap=>Ld .bool (l.putObj b.heap.size (.deferred none)) (c.add 2) λaq=>Ld .slice (l.putObj b.heap.size (.deferred none)) (c.add 3) λar=>K ao ap aq ar 0 (l.putObj b.heap.size (.deferred none)))
 []))):=χ Tryz.func173 (fQ (fQ (fQ (.seq (fQ (.blk (.rng [.one ν,.one ν] .leaf .leaf))) .leaf))))
theorem Yt {y z g w K}:gB (G9 y z g w K)
 (iL (Value.slice g.a g.len g.cap)=true/\
 Al w (.cells ⟨[.slice g.a g.len g.cap]⟩ 38) λb R=>Al R (.cells ⟨(kX 0 0 0 0 0 0 0 0 ⟨none,0,0⟩ ⟨none,0,0⟩)⟩ 287) λc d=>Ld .slice d b λS=>(cond (decide ((S.len:Int)<20)) (ig (kX 0 0 0 0 0 0 0 0 ⟨none,0,0⟩ ⟨none,0,0⟩) d c 0 λA=>Af A c λT U V W X Y Z aa ab ac=>K T U V W X Y Z aa ab ac 3 A) (Ld .slice d b λad=>iF ad 1 12 λae=>Ld (.int .u8) d ae λn=>0<=(4:Int)/\
 (cond (decide ((ο.wrap ((ο.wrap (jy .u8 n 4)) * 4))<20)) (ig (kX 0 0 0 0 0 0 0 0 ⟨none,0,0⟩ ⟨none,0,0⟩) d c 0 λB=>Af B c λaf ag ah ai aj ak al am an ao=>K af ag ah ai aj ak al am an ao 4 B) (Ld .slice d b λap=>(cond (decide ((ο.wrap ((ο.wrap (jy .u8 n 4)) * 4))>(ap.len:Int))) (ig (kX 0 0 0 0 0 0 0 0 ⟨none,0,0⟩ ⟨none,0,0⟩) d c 0 λC=>Af C c λaq ar au av aw ax ay az aA aB=>K aq ar au av aw ax ay az aA aB 3 C) (Ld .slice d b λaC=>(cond (decide ((aC.len:Int)>65535)) (ig (kX 0 0 0 0 0 0 0 0 ⟨none,0,0⟩ ⟨none,0,0⟩) d c 0 λD=>Af D c λaD aE aF aG aH aI aJ aK aL aM=>K aD aE aF aG aH aI aJ aK aL aM 6 D) (Ld .slice d.drew b λaN=>Ld .slice d.drew b λi=>sZ y z 6 (aN.len:Int) d.drew λq E=>E.cell? b=some (.slice i.a i.len i.cap)/\
 Al E (.cells ⟨[.slice q.a q.len q.cap,.slice i.a i.len i.cap]⟩ 38) λaO aP=>yA ⟨(some aO),2,2⟩ aP λaQ F=>(cond (!aQ) (ig (kX 0 0 0 0 0 0 0 0 ⟨none,0,0⟩ ⟨none,0,0⟩) F c 0 λG=>Af G c λaR aS aT aU aV aW aX aY aZ a3=>K aR aS aT aU aV aW aX aY aZ a3 5 G) (jB υ [.one ν] (Value.func (.func 244) #[] #[(Value.pointer (some b))]) [(Value.int .i64 0),(Value.int .i64 2)] F λa4 a6=>∃H:Int,a4=(Value.int .i64 H)/\
 jB υ [.one ν] (Value.func (.func 244) #[] #[(Value.pointer (some b))]) [(Value.int .i64 2),(Value.int .i64 2)] a6 λa8 a9=>∃I:Int,a8=(Value.int .i64 I)/\
 jB υ [.one ν] (Value.func (.func 244) #[] #[(Value.pointer (some b))]) [(Value.int .i64 4),(Value.int .i64 4)] a9 λba bb=>∃J:Int,ba=(Value.int .i64 J)/\
 jB υ [.one ν] (Value.func (.func 244) #[] #[(Value.pointer (some b))]) [(Value.int .i64 8),(Value.int .i64 4)] bb λbc bd=>∃L:Int,bc=(Value.int .i64 L)/\
 Al bd (.cells ⟨(kX 0 0 0 0 0 0 0 0 ⟨none,0,0⟩ ⟨none,0,0⟩)⟩ 287) λf be=>ig (kX H I J L 0 0 0 0 ⟨none,0,0⟩ ⟨none,0,0⟩) be f 0 λj=>Ld .slice j.drew b λh=>iF h 1 12 λr=>Ld (.int .u8) j.drew r λs=>Ld .slice j.drew b λe=>iF e 1 13 λo=>Ld (.int .u8) j.drew o λp=>jB υ [.one ν] (Value.func (.func 244) #[] #[(Value.pointer (some b))]) [(Value.int .i64 14),(Value.int .i64 2)] j.drew λbf k=>∃M:Int,bf=(Value.int .i64 M)/\
 k.cell? o=some (.int .u8 p)/\
 k.cell? b=some (.slice e.a e.len e.cap)/\
 k.cell? r=some (.int .u8 s)/\
 k.cell? b=some (.slice h.a h.len h.cap)/\
 jB υ [.one ν] (Value.func (.func 244) #[] #[(Value.pointer (some b))]) [(Value.int .i64 18),(Value.int .i64 2)] k λbg l=>∃N:Int,bg=(Value.int .i64 N)/\
 l.cell? o=some (.int .u8 p)/\
 l.cell? b=some (.slice e.a e.len e.cap)/\
 l.cell? r=some (.int .u8 s)/\
 l.cell? b=some (.slice h.a h.len h.cap)/\
 St l (f.add 4) (.int .i64 (ο.wrap (kT .u8 s 15))) λt=>t.cell? o=some (.int .u8 p)/\
 t.cell? b=some (.slice e.a e.len e.cap)/\
 St t (f.add 5) (.int .i64 (ο.wrap p)) λbh=>St bh (f.add 6) (.int .i64 M) λbi=>St bi (f.add 7) (.int .i64 N) λu=>Ld .slice u.drew b λbj=>kJ bj 1 20 (ο.wrap ((ο.wrap (jy .u8 n 4)) * 4)) λbk=>Ld .slice u.drew b λm=>kJ m 1 (ο.wrap ((ο.wrap (jy .u8 n 4)) * 4)) (m.len:Int) λbl=>gY bk u.drew λv O=>O.cell? b=some (.slice m.a m.len m.cap)/\
 gY bl O λx bm=>St bm (f.add 8) (.slice v.a v.len v.cap) λbn=>St bn (f.add 9) (.slice x.a x.len x.cap) λP=>Af P f λbo bp bq br bs bt bu bv bw bx=>ig (kX bo bp bq br bs bt bu bv bw bx) P c 0 λQ=>Af Q c λbz bA bB bC bD bE bF bG bH bI=>K bz bA bB bC bD bE bF bG bH bI 0 Q))))))))))):=χ Tryz.func174
theorem Vb {a w K}:gB (zB a w K)
 (Al w (.cells ⟨[.int .i64 0,.int .i64 8]⟩ 3) λb c=>Ez a ⟨(some b),2,2⟩ c λd e=>K d e):=χ Tryz.func175
theorem VB {a c b w K}:gB (ET a c b w K)
 (let e:Bool->Prop:=λl=>((cond l (K 0 false w) (let f:Bool->b_:=λm d=>((cond m (K 0 false d) (cond ((kT .i64 b 4) !=0) (K 6 true d) (let g:b_:=λh=>((cond ((kT .i64 b 1) !=0) (AQ a c h λn o=>K n true o) (K a true h)))
 AP b d λp i=>(cond p (Dq a c i λj k=>(cond (j !=a) (K j true k) (g k))) (g i))))))
 (cond (a==0) (AP b w λq r=>f (!q) r) (f false w)))))
 (cond (decide (a<0)) (e (decide (a<0))) (e (decide (a>6))))):=χ Tryz.func176
theorem TM {b c d e f g h i j k l w K}:gB (CZ b c d e f g h i j k l w K)
 (Al w (.cells ⟨(gQ b c d e f g h i j k l)⟩ 40) λp m=>iC m p λq r s t u v x y z A B=>rY q r s t u v x y z A B m λC D a=>(cond (D !=0) (K 0 a) (AsT 291 C (λE=>Al a (.cells ⟨(kX 0 0 0 0 0 0 0 0 ⟨none,0,0⟩ ⟨none,0,0⟩)⟩ 291) λn F=>StA 10 E F n λo=>fM o (n.add 5) λG=>K G o) (
 Al a (.cells ⟨(kX 0 0 0 0 0 0 0 0 ⟨none,0,0⟩ ⟨none,0,0⟩)⟩ 291) λH I=>ig (kX 0 0 0 0 0 0 0 0 ⟨none,0,0⟩ ⟨none,0,0⟩) I H 0 λJ=>K 0 J)))):=χ Tryz.func177
theorem IC {a w K}:gB (um a w K)
 (jG a w λc b=>(cond (!c) (K 0 b) (Pt a λd=>fM b (d.add 3) λe=>K e b))):=χ Tryz.func178
theorem NR {t o v x w K}:gB (sO t o v x w K)
 (iL (Value.pointer t)=true/\
 Al w (.cells ⟨[.pointer t]⟩ 61) λh H=>Al H (.cells ⟨alM⟩ 48) λb I=>Al I (.cells ⟨[.int .i64 0]⟩ 35) λf y=>Ld .ptr y h λJ=>jT J y λL z=>(cond (!L) (ig alM z b 0 λM=>St M f (.int .i64 2) λj=>fM j (b.add 0) λN=>fM j (b.add 1) λO=>fM j (b.add 2) λP=>fM j f λQ=>K N O P Q j) (sU o z λR p=>(cond (!R) (ig alM p b 0 λT=>St T f (.int .i64 1) λk=>fM k (b.add 0) λU=>fM k (b.add 1) λV=>fM k (b.add 2) λW=>fM k f λX=>K U V W X k) (Ld .ptr p h λY=>Pt Y λZ=>Ld .slice p (Z.add 2) λg=>(g.len:Int)≠0/\
 (g.len:Int)≠0/\
 iH (S:=(Int×Unit)×List Nat) (λi l aa=>(cond (decide (i.1.1<(g.len:Int))) (Ld .ptr l.drew h λA=>Pt A λB=>Ld .slice l.drew (B.add 2) λq=>(g.len:Int)≠0/\
 iF q 1 (Int.tmod (ο.wrap ((Int.tmod (ο.wrap ((Int.tmod x (g.len:Int))+(g.len:Int))) (g.len:Int))+i.1.1)) (g.len:Int)) λC=>fM l.drew C λD=>Al l.drew (.cells ⟨alM⟩ 48) λe r=>r.cell? C=some (.int .i64 D)/\
 r.cell? (B.add 2)=some (.slice q.a q.len q.cap)/\
 r.cell? h=some (.pointer A)/\
 ig [.int .i64 o,.int .i64 D,.int .i64 0] r e 0 λE=>Ld .ptr E h λab=>vY ab o v E λac u=>zn υ none [.one ν] ac u (λc ad F G=>St F (e.add 2) (.int .i64 ad.1) λd=>d.heap[c]? =F.heap[c]? /\
 Ld .ptr (gG d c).drew h λae=>Pt ae λaf=>Ld .map (gG d c).drew (af.add 3) λag=>fM (gG d c).drew (e.add 0) λah=>fM (gG d c).drew (e.add 1) λai=>fM (gG d c).drew (e.add 2) λaj=>rP υ 48 .bool ag (Value.agg ⟨[.int .i64 ah,.int .i64 ai,.int .i64 aj]⟩) (Value.bool false) (gG d c).drew λak=>(cond ak (G .normal (gG d c).drew) (Ld .ptr (gG d c).drew.drew h λal=>Pt al λam=>Ld .map (gG d c).drew.drew (am.add 3) λan=>fM (gG d c).drew.drew (e.add 0) λao=>fM (gG d c).drew.drew (e.add 1) λap=>fM (gG d c).drew.drew (e.add 2) λaq=>oP υ 48 an (Value.agg ⟨[.int .i64 ao,.int .i64 ap,.int .i64 aq]⟩) (Value.bool true) (gG d c).drew.drew λs=>fM s (e.add 0) λar=>fM s (e.add 1) λau=>fM s (e.add 2) λav=>ig [.int .i64 ar,.int .i64 au,.int .i64 av] s b 0 λaw=>St aw f (.int .i64 0) λax=>G .ret ax)))
 (λay=>aa (((ο.wrap (i.1.1+1)),()),(u.heap.size::i.2)) ay)
 (λaz=>vP (u.heap.size::i.2) az λm=>fM m (b.add 0) λaA=>fM m (b.add 1) λaB=>fM m (b.add 2) λaC=>fM m f λaD=>K aA aB aC aD m)
 [(3,(λaK=>False))]) (ig alM l b 0 λaE=>St aE f (.int .i64 12) λaF=>vP i.2 aF λn=>fM n (b.add 0) λaG=>fM n (b.add 1) λaH=>fM n (b.add 2) λaI=>fM n f λaJ=>K aG aH aI aJ n))) ((0,()),[]) p))))):=χ Tryz.func179 (fQ (fQ (fQ (fQ (fQ (.seq (fQ (.blk (.loop [(34,ν)] (fQ (fQ (.seq (.blk (fQ (fQ (fQ (fQ (.blk (.rng [.one ν] .leaf .leaf))))))) .leaf)))))) .leaf))))))
theorem FD {a w K}:gB (jG a w K)
 (let b:Bool->Prop:=λc=>(K c w)
 (cond (!(Option.isNone a)) (Pt a λd=>Ld .ptr w (d.add 1) λe=>b (!(Option.isNone e))) (b false))):=χ Tryz.func183
theorem oI {d e w K}:gB (jf d e w K)
 (iH (S:=Int×Unit) (λc a h=>(cond (decide (c.1<(d.len:Int))) (iF d 6 c.1 λb=>fM a (b.add 0) λi=>fM a (b.add 1) λj=>fM a (b.add 2) λk=>fM a (b.add 3) λl=>fM a (b.add 4) λm=>Ld .bool a (b.add 5) λn=>jB υ [.one .bool] e [(Value.agg ⟨[.int .i64 i,.int .i64 j,.int .i64 k,.int .i64 l,.int .i64 m,.bool n]⟩)] a λo f=>∃g:Bool,o=(Value.bool g)/\
 (cond g (K c.1 f) (h ((ο.wrap (c.1+1)),()) f))) (K (-1) a))) (0,()) w):=χ Tryz.func184 (fQ (.seq (fQ (.blk (.loop [(8,ν)] .leaf))) .leaf))
theorem FC {a b c d e f w K}:gB (wR a b c d e f w K)
 (Al w (.cells ⟨[.int .i64 a,.int .i64 b,.int .i64 c,.int .i64 d,.int .i64 e,.bool f]⟩ 217) λh g=>Ld .bool g (h.add 5) λi=>K (!i) g):=χ Tryz.func185
theorem xu {c d w K}:gB (lH c d w K)
 (iH (S:=Int×Int×Unit) (λa b f=>(cond (decide (a.1<a.2.1)) (0<=(1:Int)/\
 iF c 1 (ο.wrap (jy .u64 (IntKind.u64.wrap (ο.wrap (a.1+a.2.1))) 1)) λi=>fM b i λj=>Ai j d b λk g=>(cond k (f ((ο.wrap ((ο.wrap (jy .u64 (IntKind.u64.wrap (ο.wrap (a.1+a.2.1))) 1))+1)),a.2.1,()) g) (f (a.1,(ο.wrap (jy .u64 (IntKind.u64.wrap (ο.wrap (a.1+a.2.1))) 1)),()) g))) (let e:Int->Bool->b_:=λl m n=>(K l m n)
 (cond (decide (a.1<(c.len:Int))) (iF c 1 a.1 λo=>fM b o λp=>(cond (p==d) (e a.1 true b) (iF c 1 a.1 λq=>fM b q λr=>qm r b λs h=>(cond s (qm d h λt u=>e a.1 t u) (e a.1 false h))))) (e a.1 false b))))) (0,(c.len:Int),()) w):=χ Tryz.func186 (fQ (fQ (fQ (.seq (.blk (.loop [(7,ν),(8,ν)] .leaf)) .leaf))))
theorem DC {c e b w K}:gB (o_ c e b w K)
 (kJ c 1 e (c.len:Int) λD=>(cond ((b.len:Int)==0) (K c w) (cond (e==(c.len:Int)) (mW 3 1 8 [(Value.int .i64 0)] c b w λj k=>K j k) (cond (decide ((ο.wrap ((c.len:Int)+(b.len:Int)))>(c.cap:Int))) (kJ c 1 0 e λl=>VJ 3 1 8 [(Value.int .i64 0)] l (ο.wrap ((ο.wrap ((c.len:Int)+(b.len:Int))) - e)) w λf m=>kJ f 1 e (f.len:Int) λn=>Ac 1 n b m λE o=>kJ f 1 (ο.wrap (e+(b.len:Int))) (f.len:Int) λp=>kJ c 1 e (c.len:Int) λq=>Ac 1 p q o.drew λF r=>K f r) (kJ c 1 0 (ο.wrap ((c.len:Int)+(b.len:Int))) λd=>kJ d 1 (ο.wrap (e+(b.len:Int))) (d.len:Int) λg=>aht υ 251 [(Value.slice b.a b.len b.cap),(Value.slice g.a g.len g.cap)] w λs h=>∃i:Bool,s=(Value.bool i)/\
 (cond (!i) (kJ d 1 (ο.wrap (e+(b.len:Int))) (d.len:Int) λt=>kJ d 1 e (d.len:Int) λu=>Ac 1 t u h.drew λG v=>kJ d 1 e (d.len:Int) λx=>Ac 1 x b v λH y=>K d y) (kJ d 1 (c.len:Int) (d.len:Int) λz=>Ac 1 z b h λI A=>kJ d 1 e (d.len:Int) λB=>Dp B (b.len:Int) A λC=>K d C))))))):=χ Tryz.func187
theorem Kw {c d e f w K}:gB (vk c d e f w K)
 (Al w (.cells ⟨[.int .i64 d,.int .i64 e,.int .i64 f]⟩ 317) λg h=>fM h (g.add 1) λk=>nC c k h λi j=>Pt i λl=>Ld .slice j l λm=>iI m (Value.func (.func 253) #[] #[(Value.pointer (some g))]) j λb n=>Pt i λo=>St n o (.slice b.a b.len b.cap) λp=>K p):=χ Tryz.func188
theorem LX {f g h i w K}:gB (rD f g h i w K)
 (Al w (.cells ⟨[.int .i64 g,.int .i64 h,.int .i64 i]⟩ 317) λc j=>fM j (c.add 1) λn=>nC f n j λk b=>Pt k λl=>Ld .slice b.drew l λd=>fM b.drew (c.add 0) λo=>fM b.drew (c.add 1) λp=>fM b.drew (c.add 2) λq=>Al b.drew (.cells ⟨[.int .i64 o,.int .i64 p,.int .i64 q]⟩ 317) λr m=>m.cell? l=some (.slice d.a d.len d.cap)/\
 mW 317 3 24 [(Value.int .i64 0),(Value.int .i64 0),(Value.int .i64 0)] d ⟨(some r),1,1⟩ m λe s=>Pt k λt=>St s t (.slice e.a e.len e.cap) λu=>K u):=χ Tryz.func189
theorem Ym {a b c w K}:gB (jC a b c w K)
 (GZ a b c w λd f e=>K d e):=χ Tryz.func190
theorem TQ {a w K}:gB (C_ a w K)
 (BR a w λb c=>K (b==65535) c):=χ Tryz.func191
theorem Qx {e D w K}:gB (AB e D w K)
 (Al w (.cells ⟨ξ⟩ 40) λE F=>iF e 1 0 λO=>Ld (.int .u8) F O λP=>(16:Int)≠0/\
 jC e 6 2 F λi j=>let n:Addr->b_:=λk Q=>((16384:Int)≠0/\
 (2:Int)≠0/\
 (8192:Int)≠0/\
 (2:Int)≠0/\
 St Q (k.add 7) (.bool ((Int.tmod (ο.wrap (Int.tdiv i 16384)) 2)==1)) λR=>St R (k.add 8) (.bool ((Int.tmod (ο.wrap (Int.tdiv i 8192)) 2)==1)) λS=>kJ e 1 20 (ο.wrap ((ο.wrap (Int.tmod P 16)) * 4)) λT=>mW 5 1 1 [(Value.int .u8 0)] ⟨none,0,0⟩ T S λA U=>mW 5 1 1 [(Value.int .u8 0)] ⟨none,0,0⟩ D U λB V=>St V (k.add 9) (.slice A.a A.len A.cap) λW=>St W (k.add 10) (.slice B.a B.len B.cap) λG=>iC G k λX Y Z aa ab ac ad ae af ag ah=>ig (gQ X Y Z aa ab ac ad ae af ag ah) G E 0 λH=>iC H E λai aj ak al am an ao ap aq ar au=>K ai aj ak al am an ao ap aq ar au H)
 iF e 1 1 λf=>Ld (.int .u8) j.drew f λb=>(8192:Int)≠0/\
 iF e 1 8 λg=>Ld (.int .u8) j.drew g λc=>iF e 1 9 λh=>Ld (.int .u8) j.drew h λd=>(jC e 4 2 j.drew λC l=>l.cell? h=some (.int .u8 d)/\
 l.cell? g=some (.int .u8 c)/\
 l.cell? f=some (.int .u8 b)/\
 (jC e 12 4 l λI m=>m.cell? h=some (.int .u8 d)/\
 m.cell? g=some (.int .u8 c)/\
 m.cell? f=some (.int .u8 b)/\
 (jC e 16 4 m λav o=>o.cell? h=some (.int .u8 d)/\
 o.cell? g=some (.int .u8 c)/\
 o.cell? f=some (.int .u8 b)/\
 Al o (.cells ⟨ξ⟩ 40) λJ p=>p.cell? h=some (.int .u8 d)/\
 p.cell? g=some (.int .u8 c)/\
 p.cell? f=some (.int .u8 b)/\
 ig (gQ (ο.wrap b) C (ο.wrap ((Int.tmod i 8192) * 8)) (ο.wrap c) (ο.wrap d) I av false false ⟨none,0,0⟩ ⟨none,0,0⟩) p J 0 λaw=>n J aw)/\
 (Al m (.cells ⟨ξ⟩ 40) λL q=>q.cell? h=some (.int .u8 d)/\
 q.cell? g=some (.int .u8 c)/\
 q.cell? f=some (.int .u8 b)/\
 jC e 16 4 q λax r=>r.cell? h=some (.int .u8 d)/\
 r.cell? g=some (.int .u8 c)/\
 r.cell? f=some (.int .u8 b)/\
 ig (gQ (ο.wrap b) C (ο.wrap ((Int.tmod i 8192) * 8)) (ο.wrap c) (ο.wrap d) I ax false false ⟨none,0,0⟩ ⟨none,0,0⟩) r L 0 λay=>n L ay))/\
 (Al l (.cells ⟨ξ⟩ 40) λM s=>s.cell? h=some (.int .u8 d)/\
 s.cell? g=some (.int .u8 c)/\
 s.cell? f=some (.int .u8 b)/\
 jC e 12 4 s λaz t=>t.cell? h=some (.int .u8 d)/\
 t.cell? g=some (.int .u8 c)/\
 t.cell? f=some (.int .u8 b)/\
 jC e 16 4 t λaA u=>u.cell? h=some (.int .u8 d)/\
 u.cell? g=some (.int .u8 c)/\
 u.cell? f=some (.int .u8 b)/\
 ig (gQ (ο.wrap b) C (ο.wrap ((Int.tmod i 8192) * 8)) (ο.wrap c) (ο.wrap d) az aA false false ⟨none,0,0⟩ ⟨none,0,0⟩) u M 0 λaB=>n M aB))/\
 (Al j.drew (.cells ⟨ξ⟩ 40) λN v=>v.cell? h=some (.int .u8 d)/\
 v.cell? g=some (.int .u8 c)/\
 v.cell? f=some (.int .u8 b)/\
 jC e 4 2 v λaC x=>x.cell? h=some (.int .u8 d)/\
 x.cell? g=some (.int .u8 c)/\
 x.cell? f=some (.int .u8 b)/\
 jC e 12 4 x λaD y=>y.cell? h=some (.int .u8 d)/\
 y.cell? g=some (.int .u8 c)/\
 y.cell? f=some (.int .u8 b)/\
 jC e 16 4 y λaE z=>z.cell? h=some (.int .u8 d)/\
 z.cell? g=some (.int .u8 c)/\
 z.cell? f=some (.int .u8 b)/\
 ig (gQ (ο.wrap b) aC (ο.wrap ((Int.tmod i 8192) * 8)) (ο.wrap c) (ο.wrap d) aD aE false false ⟨none,0,0⟩ ⟨none,0,0⟩) z N 0 λaF=>n N aF)):=χ Tryz.func192
theorem Vp {c a w K}:gB (mJ c a w K)
 (let b:Bool->b_:=λd e=>(K d e)
 (cond (decide (a>=1)) (cond (decide (a<=4)) (cond (decide (c>=0)) (BQ a w λf g=>b (decide (c<f)) g) (b false w)) (b false w)) (b false w))):=χ Tryz.func193
theorem Yj {d b c w K}:gB (jd d b c w K)
 (mW 5 1 1 [(Value.int .u8 0)] ⟨none,0,0⟩ d w λe i=>mJ b c i λj f=>(cond (!j) (K e f) (iH (S:=fU×Int×Unit) (λa g k=>(cond (decide (a.2.1>=0)) (BQ a.2.1 g λh l=>h≠0/\
 (256:Int)≠0/\
 Al l (.cells ⟨[.int .u8 (IntKind.u8.wrap (Int.tmod (ο.wrap (Int.tdiv b h)) 256))]⟩ 5) λm n=>mW 5 1 1 [(Value.int .u8 0)] a.1 ⟨(some m),1,1⟩ n λo p=>k (o,(ο.wrap (a.2.1 - 1)),()) p) (K a.1 g))) (e,(ο.wrap (c - 1)),()) f))):=χ Tryz.func194 (fQ (fQ (fQ (.seq (fQ (.blk (.loop [(7,.slice),(8,ν)] .leaf))) .leaf))))
theorem Yl {c w K}:gB (BR c w K)
 (iH (S:=Int×Int×Unit) (λa e f=>(cond (decide (a.2.1<(c.len:Int))) (iH (S:=Int×Int×Unit) (λb d g=>iF c 1 a.2.1 λh=>Ld .slice d h λi=>(cond (decide (b.2.1<(i.len:Int))) (iF c 1 a.2.1 λj=>Ld .slice d j λk=>EJ k b.2.1 d λl m=>g ((ο.wrap (b.1+l)),(ο.wrap (b.2.1+2)),()) m) (f (b.1,(ο.wrap (a.2.1+1)),()) d))) (a.1,0,()) e) (EK a.1 e λn o=>K n o))) (0,0,()) w):=χ Tryz.func195 (fQ (fQ (.seq (fQ (.blk (.loop [(3,ν),(4,ν)] (fQ (.seq (.blk (fQ (.blk (.loop [(3,ν),(5,ν)] .leaf)))) .leaf))))) .leaf)))
theorem Yn {b a w K}:gB (vI b a w K)
 (a≠0/\
 a≠0/\
 K (Int.tmod (ο.wrap ((Int.tmod b a)+a)) a) w):=χ Tryz.func196
theorem TR {a w K}:gB (xK a w K)
 (let b:Bool->Prop:=λc=>(K c w)
 (cond (decide (a>=0)) (b (decide (a<4294967296))) (b false))):=χ Tryz.func197
theorem Vu {a b c d e f g h i j k w K}:gB (zH a b c d e f g h i j k w K)
 (Al w (.cells ⟨(gQ a b c d e f g h i j k)⟩ 40) λm l=>Ld .slice l (m.add 9) λn=>K (ο.wrap (20+(n.len:Int))) l):=χ Tryz.func198
theorem qK {c l w K}:gB (jI c l w K)
 (Al w (.cells ⟨alM⟩ 317) λe f=>(cond (decide ((c.len:Int)<1)) False (iF c 3 0 λi=>fM f (i.add 0) λo=>fM f (i.add 1) λp=>fM f (i.add 2) λq=>Al f (.cells ⟨alM⟩ 317) λb r=>ig [.int .i64 o,.int .i64 p,.int .i64 q] r b 0 λs=>iH (S:=Int×Unit) (λg a t=>(cond (decide (g.1<(c.len:Int))) (let m:b_:=λu=>(t ((ο.wrap (g.1+1)),()) u)
 iF c 3 g.1 λj=>fM a.drew (j.add 0) λv=>fM a.drew (j.add 1) λx=>fM a.drew (j.add 2) λy=>fM a.drew (b.add 0) λz=>fM a.drew (b.add 1) λA=>fM a.drew (b.add 2) λB=>jB υ [.one ν] l [(Value.agg ⟨[.int .i64 v,.int .i64 x,.int .i64 y]⟩),(Value.agg ⟨[.int .i64 z,.int .i64 A,.int .i64 B]⟩)] a.drew λC d=>∃n:Int,C=(Value.int .i64 n)/\
 (cond (decide (n<0)) (iF c 3 g.1 λk=>fM d (k.add 0) λD=>fM d (k.add 1) λE=>fM d (k.add 2) λF=>ig [.int .i64 D,.int .i64 E,.int .i64 F] d b 0 λG=>m G) (m d))) (fM a (b.add 0) λH=>fM a (b.add 1) λI=>fM a (b.add 2) λJ=>ig [.int .i64 H,.int .i64 I,.int .i64 J] a e 0 λh=>fM h (e.add 0) λL=>fM h (e.add 1) λM=>fM h (e.add 2) λN=>K L M N h))) (1,()) s))):=χ Tryz.func199 (fQ (fQ (fQ (.seq (fQ (.blk (.loop [(6,ν)] .leaf))) .leaf))))
theorem Gm {b c d e f g w K}:gB (yD b c d e f g w K)
 (Al w (.cells ⟨[.int .i64 b,.int .i64 c,.int .i64 d]⟩ 317) λh i=>Al i (.cells ⟨[.int .i64 e,.int .i64 f,.int .i64 g]⟩ 317) λj a=>fM a (h.add 1) λk=>fM a (j.add 1) λl=>qY k l a λm n=>K m n):=χ Tryz.func200
theorem LC {b c w K}:gB (qY b c w K)
 (lN b w λe f=>lN c f λd a=>(cond e (cond d (K 0 a) (K (-1) a)) (cond d (K 1 a) (cond (decide (b<c)) (K (-1) a) (cond (decide (b>c)) (K 1 a) (K 0 a)))))):=χ Tryz.func201
theorem Ug {b c w K}:gB (xQ b c w K)
 (iH (S:=Int×Int×Unit) (λa d e=>(cond (decide (a.2.1>=64)) (0<=(6:Int)/\
 e ((ο.wrap (a.1+1)),(jy .i64 a.2.1 6),()) d) (K a.1 d))) (0,(UE .i64 b c),()) w):=χ Tryz.func202 (fQ (fQ (.seq (fQ (.blk (.loop [(5,ν),(6,ν)] .leaf))) .leaf)))
theorem Kv {c b w K}:gB (nC c b w K)
 (Pt c λd=>fM w (d.add 449) λe=>xQ e b w λa f=>0<=(ο.wrap (6 * a))/\
 Pt c λg=>(0:Int)<=a/\a<(7:Int)/\
 (0:Int)<=(kT .i64 (jy .i64 b (ο.wrap (6 * a))) 63)/\(kT .i64 (jy .i64 b (ο.wrap (6 * a))) 63)<(64:Int)/\
 K (some ((g.add (Int.toNat a * 64)).add (Int.toNat (kT .i64 (jy .i64 b (ο.wrap (6 * a))) 63) * 1))) f.drew):=χ Tryz.func203
theorem pG {a g w K}:gB (iI a g w K)
 (jl a g w λh j=>(cond (h==(-1)) (K a j) (iH (S:=Int×Int×Unit) (λb d m=>(cond (decide (b.2.1<(a.len:Int))) (let k:Int->b_:=λn o=>(m (n,(ο.wrap (b.2.1+1)),()) o)
 iF a 3 b.2.1 λi=>fM d (i.add 0) λp=>fM d (i.add 1) λq=>fM d (i.add 2) λr=>Al d (.cells ⟨alM⟩ 317) λc s=>ig [.int .i64 p,.int .i64 q,.int .i64 r] s c 0 λf=>fM f (c.add 0) λt=>fM f (c.add 1) λu=>fM f (c.add 2) λv=>jB υ [.one .bool] g [(Value.agg ⟨[.int .i64 t,.int .i64 u,.int .i64 v]⟩)] f λx e=>∃l:Bool,x=(Value.bool l)/\
 (cond (!l) (fM e (c.add 0) λy=>fM e (c.add 1) λz=>fM e (c.add 2) λA=>iF a 3 b.1 λB=>ig [.int .i64 y,.int .i64 z,.int .i64 A] e B 0 λC=>k (ο.wrap (b.1+1)) C) (k b.1 e))) (kJ a 3 b.1 (a.len:Int) λD=>I7 [(Value.int .i64 0),(Value.int .i64 0),(Value.int .i64 0)] D d λE=>kJ a 3 0 b.1 λF=>K F E))) (h,(ο.wrap (h+1)),()) j))):=χ Tryz.func204 (fQ (fQ (fQ (.seq (fQ (.blk (.loop [(5,ν),(6,ν)] .leaf))) .leaf))))
theorem rJ {b w K}:gB (jM b w K)
 ((cond (Option.isNone b.a) (K ⟨none,0,0⟩ w) (Al w (.cells ⟨[]⟩ 317) λc d=>mW 317 3 24 [(Value.int .i64 0),(Value.int .i64 0),(Value.int .i64 0)] ⟨(some c),0,0⟩ b d λe f=>K e f))):=χ Tryz.func205
theorem II {b c d e w K}:gB (yX b c d e w K)
 (Al w (.cells ⟨[.int .i64 b,.int .i64 c,.int .i64 d]⟩ 317) λf a=>fM a.drew (f.add 1) λg=>Ld .ptr a.drew e λh=>Pt h λi=>fM a.drew (i.add 449) λj=>K (g !=j) a.drew):=χ Tryz.func206
theorem IJ {b c d e w K}:gB (yY b c d e w K)
 (Al w (.cells ⟨[.int .i64 b,.int .i64 c,.int .i64 d]⟩ 317) λf a=>fM a.drew (f.add 1) λg=>Ld .ptr a.drew e λh=>Pt h λi=>fM a.drew (i.add 449) λj=>K (g==j) a.drew):=χ Tryz.func207
theorem qB {a b w K}:gB (iW a b w K)
 (yL (IntKind.u64.wrap (a.len:Int)) w λc d=>iV a 0 (a.len:Int) c b d λe=>K e):=χ Tryz.func208
theorem IK {b c d e f g w K}:gB (uy b c d e f g w K)
 (Al w (.cells ⟨[.int .i64 b,.int .i64 c,.int .i64 d]⟩ 317) λh i=>Al i (.cells ⟨[.int .i64 e,.int .i64 f,.int .i64 g]⟩ 317) λj a=>fM a (h.add 2) λk=>fM a (j.add 2) λl=>qY k l a λm n=>K m n):=χ Tryz.func209
theorem JO {a w K}:gB (mZ a w K)
 (let b:Bool->Prop:=λc=>(K c w)
 (cond (!(Option.isNone a)) (Pt a λd=>Ld .bool w (d.add 3) λe=>b e) (b false))):=χ Tryz.func210
theorem Ba {k l w K}:gB (jg k l w K)
 (iL (Value.pointer k)=true/\
 Al w (.cells ⟨[.pointer k]⟩ 149) λh u=>iL (Value.string l)=true/\
 Al u (.cells ⟨[.string l]⟩ 9) λr v=>Al v (.cells ⟨[.int .i64 0]⟩ 3) λe x=>Al x (.cells ⟨[.bool false]⟩ 4) λf b=>Ld .ptr b h λy=>Pt y λz=>Ld .slice b z λA=>(cond ((A.len:Int)==0) (St b e (.int .i64 0) λB=>St B f (.bool false) λm=>fM m e λC=>Ld .bool m f λD=>K C D m) (Ld .ptr b.drew h λs=>Ld .str b.drew r λE=>Ld .ptr b.drew h λF=>Pt F λG=>Ld .slice b.drew G λH=>GN E (H.len:Int) b.drew λI t=>t.cell? h=some (.pointer s)/\
 qZ s I t λJ a=>zn υ none [.one ν] J a (λc n d o=>d.heap[c]? =d.heap[c]? /\
 Ld .ptr (gG d c) h λL=>Pt L λM=>Ld .slice (gG d c) M λN=>iF N 3 n.1 λp=>Ld .str (gG d c) (p.add 0) λO=>fM (gG d c) (p.add 1) λP=>Ld .bool (gG d c) (p.add 2) λQ=>Al (gG d c) (.cells ⟨[.string (bs []),.int .i64 0,.bool false]⟩ 336) λq R=>ig [.string O,.int .i64 P,.bool Q] R q 0 λg=>Ld .bool g (q.add 2) λS=>(cond (!S) (St g e (.int .i64 n.1) λT=>St T f (.bool false) λU=>o .ret U) (Ld .str g q λV=>Ld .str g r λW=>(cond (strEq V W) (St g e (.int .i64 n.1) λX=>St X f (.bool true) λY=>o .ret Y) (o .normal g)))))
 (λZ=>St Z e (.int .i64 0) λaa=>St aa f (.bool false) λi=>i.heap[a.heap.size]? =some (.deferred (some []))/\
 fM (i.putObj a.heap.size (.deferred none)) e λab=>Ld .bool (i.putObj a.heap.size (.deferred none)) f λac=>K ab ac (i.putObj a.heap.size (.deferred none)))
 (λj=>j.heap[a.heap.size]? =some (.deferred (some []))/\
 fM (j.putObj a.heap.size (.deferred none)) e λad=>Ld .bool (j.putObj a.heap.size (.deferred none)) f λae=>K ad ae (j.putObj a.heap.size (.deferred none)))
 []))):=χ Tryz.func211 (fQ (fQ (.seq (fQ (.blk (.rng [.one ν] .leaf .leaf))) .leaf)))
theorem LH {a b w K}:gB (qZ a b w K)
 (iL (Value.pointer a)=true/\
 Al w (.cells ⟨[.pointer a]⟩ 149) λc d=>iL (Value.int .i64 b)=true/\
 Al d (.cells ⟨[.int .i64 b]⟩ 3) λe f=>K (Value.func (.func 263) #[] #[(Value.pointer (some c)),(Value.pointer (some e))]) f):=χ Tryz.func212
theorem acW {c a b w K}:gB (nY c a b w K)
 (gY c w λd f=>kQ a b f λg e=>(cond (!g) (K d e) (BK a b e λh i=>jr d h i λj k=>K j k))):=χ Tryz.func213
theorem rF {b d w K}:gB (jO b d w K)
 (iH (S:=Int×Unit) (λa c g=>(cond (decide (a.1<(b.len:Int))) (iF b 1 a.1 λh=>fM c h λi=>jB υ [.one .bool] d [(Value.int .i64 i)] c λj e=>∃f:Bool,j=(Value.bool f)/\
 (cond f (K a.1 e) (g ((ο.wrap (a.1+1)),()) e))) (K (-1) c))) (0,()) w):=χ Tryz.func214 (fQ (.seq (fQ (.blk (.loop [(8,ν)] .leaf))) .leaf))
theorem wS {a0 f0 f1 w K}:gB (G5 a0 f0 f1 w K)
 (Ld .ptr w f0 λi=>jG i w λj b=>(cond (!j) (K b) (Ld .ptr b.drew f0 λk=>Pt k λl=>Ld .map b.drew (l.add 2) λm=>fM b.drew f1 λn=>rP υ 3 .slice m (Value.int .i64 n) (Value.slice none 0 0) b.drew λo=>mM o b.drew λe p=>iH (S:=Int×Unit) (λd a q=>(cond (decide (d.1<(e.len:Int))) (iF e 1 d.1 λr=>fM a r λf=>Ld .ptr a f0 λs=>Pt s λt=>Ld .slice a t λu=>iF u 6 f λc=>fM a (c.add 0) λv=>fM a (c.add 1) λx=>fM a (c.add 2) λy=>fM a (c.add 3) λz=>fM a (c.add 4) λA=>jB υ [.one .bool] a0 [(Value.int .i64 f),(Value.agg ⟨[.int .i64 v,.int .i64 x,.int .i64 y,.int .i64 z,.int .i64 A]⟩)] a λB g=>∃h:Bool,B=(Value.bool h)/\
 (cond (!h) (K g) (q ((ο.wrap (d.1+1)),()) g))) (K a))) (0,()) p))):=χ Tryz.func215 (fQ (fQ (.blk (.loop [(17,ν)] .leaf))))
theorem VA {c d e f g h i j k l m n o p q r s t u v x y z A B C D E F G H I J L M N O w K}:gB (EP c d e f g h i j k l m n o p q r s t u v x y z A B C D E F G H I J L M N O w K)
 (Al w (.cells ⟨(jo c d e f g h i j k l m n o p q r s t u v x y z A B C D E F G H I J L M N)⟩ 28) λP Q=>iH (S:=Int×Unit) (λb a R=>Ld .slice a (P.add 17) λT=>(cond (decide (b.1<(T.len:Int))) (Ld .slice a (P.add 17) λU=>iF U 1 b.1 λV=>fM a V λW=>(cond (W==O) (K true a) (R ((ο.wrap (b.1+1)),()) a))) (K false a))) (0,()) Q):=χ Tryz.func217 (fQ (.seq (fQ (.blk (.loop [(5,ν)] .leaf))) .leaf))
theorem ZQ {c w K}:gB (Eu c w K)
 (iH (S:=fU×Int×Unit) (λa b e=>(cond (decide (a.2.1<(c.len:Int))) (iF c 1 a.2.1 λf=>fM b f λd=>0<=(32:Int)/\
 nY a.1 (kT .i64 (jy .i64 d 32) 4294967295) 4 b λg h=>nY g (kT .i64 d 4294967295) 4 h λi j=>e (i,(ο.wrap (a.2.1+1)),()) j) (Gv b a.1 λk=>K k b))) (⟨none,0,0⟩,0,()) w):=χ Tryz.func218 (fQ (fQ (.seq (fQ (.blk (.loop [(3,.slice),(8,ν)] .leaf))) .leaf)))
theorem Qq {a w K}:gB (Aq a w K)
 (Al w (.cells ⟨[.int .i64 1,.int .i64 6,.int .i64 17]⟩ 3) λb c=>iR ⟨(some b),3,3⟩ a c λd e=>K d e):=χ Tryz.func221
theorem uP {b d w K}:gB (kE b d w K)
 (iH (S:=Int×Unit) (λa c g=>(cond (decide (a.1<(b.len:Int))) (iF b 16 a.1 λh=>uH c h λi j k l m n o p q r s t u v x y=>jB υ [.one .bool] d [(Value.agg ⟨mY i j k l m n o p q r s t u v x y⟩)] c λz e=>∃f:Bool,z=(Value.bool f)/\
 (cond f (K a.1 e) (g ((ο.wrap (a.1+1)),()) e))) (K (-1) c))) (0,()) w):=χ Tryz.func222 (fQ (.seq (fQ (.blk (.loop [(8,ν)] .leaf))) .leaf))
theorem qJ {d e w K}:gB (jH d e w K)
 (iH (S:=Int×Unit) (λc a h=>(cond (decide (c.1<(d.len:Int))) (iF d 7 c.1 λb=>fM a (b.add 0) λi=>fM a (b.add 1) λj=>fM a (b.add 2) λk=>fM a (b.add 3) λl=>fM a (b.add 4) λm=>fM a (b.add 5) λn=>fM a (b.add 6) λo=>jB υ [.one .bool] e [(Value.agg ⟨[.int .i64 i,.int .i64 j,.int .i64 k,.int .i64 l,.int .i64 m,.int .i64 n,.int .i64 o]⟩)] a λp f=>∃g:Bool,p=(Value.bool g)/\
 (cond g (K c.1 f) (h ((ο.wrap (c.1+1)),()) f))) (K (-1) a))) (0,()) w):=χ Tryz.func223 (fQ (.seq (fQ (.blk (.loop [(8,ν)] .leaf))) .leaf))
theorem wJ {a0 f0 f1 w K}:gB (wO a0 f0 f1 w K)
 (Ld .slice w f0 λd=>iH (S:=Int×Unit) (λa b y=>(cond (decide (a.1<(d.len:Int))) (iF d 16 a.1 λz=>uH b z λA B C D E F G H I J L M N O P Q=>Al b (.cells ⟨(mY 0 0 0 0 0 0 0 0 0 0 0 0 0 0 0 0)⟩ 23) λe R=>ig (mY A B C D E F G H I J L M N O P Q) R e 0 λc=>Ld .any c f1 λT=>uH c e λU V W X Y Z aa ab ac ad ae af ag ah ai aj=>jB υ [.agg Rf] T [(Value.agg ⟨mY U V W X Y Z aa ab ac ad ae af ag ah ai aj⟩)] c λak al=>∃f:Int,∃g:Int,∃h:Int,∃i:Int,∃j:Int,∃k:Int,∃l:Int,∃m:Int,∃n:Int,∃o:Int,∃p:Int,∃q:Int,∃r:Int,∃s:Int,∃t:Int,∃u:Int,ak=(Value.agg ⟨mY f g h i j k l m n o p q r s t u⟩)/\
 jB υ [.one .bool] a0 [(Value.agg ⟨mY f g h i j k l m n o p q r s t u⟩)] al λam v=>∃x:Bool,am=(Value.bool x)/\
 (cond (!x) (K v) (y ((ο.wrap (a.1+1)),()) v))) (K b))) (0,()) w):=χ Tryz.func224 (fQ (.blk (.loop [(8,ν)] .leaf)))
theorem Dx {a0 f0 f1 w K}:gB (DT a0 f0 f1 w K)
 (Ld .slice w f0 λc=>iH (S:=Int×Unit) (λb a g=>(cond (decide (b.1<(c.len:Int))) (iF c 1 b.1 λh=>fM a h λi=>Ld .any a f1 λj=>jB υ [.one ν] j [(Value.int .i64 i)] a λk l=>∃d:Int,k=(Value.int .i64 d)/\
 jB υ [.one .bool] a0 [(Value.int .i64 d)] l λm e=>∃f:Bool,m=(Value.bool f)/\
 (cond (!f) (K e) (g ((ο.wrap (b.1+1)),()) e))) (K a))) (0,()) w):=χ Tryz.func225 (fQ (.blk (.loop [(8,ν)] .leaf)))
theorem tH {a0 f0 f1 w K}:gB (uf a0 f0 f1 w K)
 (Ld .slice w f0 λf=>iH (S:=Int×Unit) (λe a m=>(cond (decide (e.1<(f.len:Int))) (iF f 7 e.1 λd=>fM a (d.add 0) λn=>fM a (d.add 1) λo=>fM a (d.add 2) λp=>fM a (d.add 3) λq=>fM a (d.add 4) λr=>fM a (d.add 5) λs=>fM a (d.add 6) λt=>Al a (.cells ⟨alT⟩ 50) λc u=>ig [.int .i64 n,.int .i64 o,.int .i64 p,.int .i64 q,.int .i64 r,.int .i64 s,.int .i64 t] u c 0 λb=>Ld .any b f1 λv=>fM b (c.add 0) λx=>fM b (c.add 1) λy=>fM b (c.add 2) λz=>fM b (c.add 3) λA=>fM b (c.add 4) λB=>fM b (c.add 5) λC=>fM b (c.add 6) λD=>jB υ [.agg [ν,ν,ν,ν]] v [(Value.agg ⟨[.int .i64 x,.int .i64 y,.int .i64 z,.int .i64 A,.int .i64 B,.int .i64 C,.int .i64 D]⟩)] b λE F=>∃g:Int,∃h:Int,∃i:Int,∃j:Int,E=(Value.agg ⟨[.int .i64 g,.int .i64 h,.int .i64 i,.int .i64 j]⟩)/\
 jB υ [.one .bool] a0 [(Value.agg ⟨[.int .i64 g,.int .i64 h,.int .i64 i,.int .i64 j]⟩)] F λG k=>∃l:Bool,G=(Value.bool l)/\
 (cond (!l) (K k) (m ((ο.wrap (e.1+1)),()) k))) (K a))) (0,()) w):=χ Tryz.func226 (fQ (.blk (.loop [(8,ν)] .leaf)))
theorem tJ {a0 f0 f1 w K}:gB (ug a0 f0 f1 w K)
 (Ld .slice w f0 λf=>iH (S:=Int×Unit) (λe a l=>(cond (decide (e.1<(f.len:Int))) (iF f 7 e.1 λd=>fM a (d.add 0) λm=>fM a (d.add 1) λn=>fM a (d.add 2) λo=>fM a (d.add 3) λp=>fM a (d.add 4) λq=>fM a (d.add 5) λr=>fM a (d.add 6) λs=>Al a (.cells ⟨alT⟩ 50) λc t=>ig [.int .i64 m,.int .i64 n,.int .i64 o,.int .i64 p,.int .i64 q,.int .i64 r,.int .i64 s] t c 0 λb=>Ld .any b f1 λu=>fM b (c.add 0) λv=>fM b (c.add 1) λx=>fM b (c.add 2) λy=>fM b (c.add 3) λz=>fM b (c.add 4) λA=>fM b (c.add 5) λB=>fM b (c.add 6) λC=>jB υ [.agg [ν,ν,ν]] u [(Value.agg ⟨[.int .i64 v,.int .i64 x,.int .i64 y,.int .i64 z,.int .i64 A,.int .i64 B,.int .i64 C]⟩)] b λD E=>∃g:Int,∃h:Int,∃i:Int,D=(Value.agg ⟨[.int .i64 g,.int .i64 h,.int .i64 i]⟩)/\
 jB υ [.one .bool] a0 [(Value.agg ⟨[.int .i64 g,.int .i64 h,.int .i64 i]⟩)] E λF j=>∃k:Bool,F=(Value.bool k)/\
 (cond (!k) (K j) (l ((ο.wrap (e.1+1)),()) j))) (K a))) (0,()) w):=χ Tryz.func227 (fQ (.blk (.loop [(8,ν)] .leaf)))
theorem NG {d e b w K}:gB (wW d e b w K)
 (Al w (.cells ⟨[.int .i64 d,.int .i64 e]⟩ 258) λf g=>fM g (f.add 1) λa=>let h:Bool->b_:=λi j=>(K i j)
 lu b g.drew λk c=>(cond k (0<=(ο.wrap (32 - a))/\
 fM c f λl=>0<=(ο.wrap (32 - a))/\
 h ((jy .i64 b (ο.wrap (32 - a)))==(jy .i64 l (ο.wrap (32 - a)))) c) (h false c))):=χ Tryz.func228
theorem LG {b w K}:gB (vU b w K)
 (Pt b λl=>fM w.drew (l.add 1) λm=>Pt b λn=>Ld .slice w.drew n λo=>(cond (decide ((ο.wrap (2 * (ο.wrap (m+1))))<=(o.len:Int))) (K w.drew) (Pt b λp=>Ld .slice w.drew p λc=>Y6 336 3 32 [(Value.string (bs [])),(Value.int .i64 0),(Value.bool false)] (if (ο.wrap (2 * (c.len:Int)))>8 then (ο.wrap (2 * (c.len:Int))) else 8) (if (ο.wrap (2 * (c.len:Int)))>8 then (ο.wrap (2 * (c.len:Int))) else 8) w.drew λh q=>Pt b λr=>St q r (.slice h.a h.len h.cap) λs=>iH (S:=Int×Unit) (λi e t=>(cond (decide (i.1<(c.len:Int))) (let k:b_:=λu=>(t ((ο.wrap (i.1+1)),()) u)
 iF c 3 i.1 λj=>Ld .str e (j.add 0) λv=>fM e (j.add 1) λx=>Ld .bool e (j.add 2) λy=>Al e (.cells ⟨[.string (bs []),.int .i64 0,.bool false]⟩ 336) λd z=>ig [.string v,.int .i64 x,.bool y] z d 0 λg=>Ld .bool g (d.add 2) λA=>(cond A (Ld .str g d λB=>jg b B g λC L f=>Pt b λD=>Ld .slice f.drew D λE=>Ld .str f.drew (d.add 0) λF=>fM f.drew (d.add 1) λG=>Ld .bool f.drew (d.add 2) λH=>iF E 3 C λI=>ig [.string F,.int .i64 G,.bool H] f.drew I 0 λJ=>k J) (k g))) (K e))) (0,()) s))):=χ Tryz.func229 (fQ (fQ (fQ (fQ (.blk (.loop [(33,ν)] .leaf))))))
theorem yQ {a b w K}:gB (ru a b w K)
 (uM a b w λc d=>K (decide (c>=0)) d):=χ Tryz.func230
theorem ZO {a w K}:gB (Et a w K)
 (let b:Bool->Prop:=λc=>(K c w)
 (cond (decide (a>=1)) (b (decide (a<=4))) (b false))):=χ Tryz.func231
theorem aaP {a b c d e f g h i j k w K}:gB (Jb a b c d e f g h i j k w K)
 (Al w (.cells ⟨(gQ a b c d e f g h i j k)⟩ 40) λm l=>Ld .slice l (m.add 9) λn=>K (ο.wrap (20+(n.len:Int))) l):=χ Tryz.func232
theorem aaN {a w K}:gB (Ja a w K)
 (BU a w λb c=>EW b c λd e=>K d e):=χ Tryz.func233
theorem X_ {c a b w K}:gB (BL c a b w K)
 (let e:Bool->b_:=λh d=>((cond h (K ⟨none,0,0⟩ 1 d) (let f:Bool->Prop:=λi=>((cond i (K ⟨none,0,0⟩ 3 d) (Rk c 1 a (ο.wrap (a+b)) (ο.wrap (a+b)) λj=>K j 0 d)))
 (cond (decide ((c.len:Int)<b)) (f true) (f (decide (a>(ο.wrap ((c.len:Int) - b)))))))))
 Et b w λk g=>(cond (!k) (e true g) (e (decide (a<0)) g))):=χ Tryz.func234
theorem Yx {f w K}:gB (Hg f w K)
 (Al w (.cells ⟨ξ⟩ 40) λc j=>Ot f true j λe k l g m=>Al m (.cells ⟨alS⟩ 378) λd n=>ig [.slice e.a e.len e.cap,.int .i64 k,.int .i64 l] n d 0 λb=>(cond (g !=0) (ig ξ b c 0 λh=>iC h c λo p q r s t u v x y z=>K o p q r s t u v x y z g h) (Ld .slice b (d.add 0) λA=>fM b (d.add 1) λB=>fM b (d.add 2) λC=>u_ A B C b λD E F G H I J L M N O P=>ig (gQ D E F G H I J L M N O) P c 0 λi=>iC i c λQ R S T U V W X Y Z aa=>K Q R S T U V W X Y Z aa 0 i))):=χ Tryz.func235
theorem J5 {a b c d e f g h i j k l m n w K}:gB (jL a b c d e f g h i j k l m n w K)
 (Al w (.cells ⟨(nM a b c d e f g h i j k l m)⟩ 276) λp o=>Ld .slice o ((p.add 1).add 10) λq=>yw q n 2 o λr t s=>K r s):=χ Tryz.func236
theorem Z4 {d a b w K}:gB (Ry d a b w K)
 (BP d a b w λg h i j k l m n o p q r s e t=>Al t (.cells ⟨(nM ⟨none,0,0⟩ 0 0 0 0 0 0 0 false false ⟨none,0,0⟩ ⟨none,0,0⟩ 0)⟩ 276) λf u=>ig (nM g h i j k l m n o p q r s) u f 0 λc=>(cond (e !=0) (K ⟨none,0,0⟩ e c) (tX c f λv x y z A B C D E F G H I=>oK v x y z A B C D E F G H I 16 2 a b c λJ L=>K J 0 L))):=χ Tryz.func237
theorem Vl {d a b w K}:gB (ML d a b w K)
 (BP d a b w λg h i j k l m n o p q r s e t=>Al t (.cells ⟨(nM ⟨none,0,0⟩ 0 0 0 0 0 0 0 false false ⟨none,0,0⟩ ⟨none,0,0⟩ 0)⟩ 276) λf u=>ig (nM g h i j k l m n o p q r s) u f 0 λc=>(cond (e !=0) (K ⟨none,0,0⟩ e c) (tX c f λv x y z A B C D E F G H I=>oK v x y z A B C D E F G H I 12 0 a b c λJ L=>K J 0 L))):=χ Tryz.func238
theorem U9 {h i j b w K}:gB (Ew h i j b w K)
 (Al w (.cells ⟨[.int .i64 h,.int .i64 i,.int .i64 j,.slice b.a b.len b.cap]⟩ 84) λc k=>let e:Bool->b_:=λl d=>((cond l (K 1 d) (Ld .slice d (c.add 3) λm=>(cond (decide ((m.len:Int)>65527)) (K 6 d) (K 0 d)))))
 fM k c λn=>kQ n 1 k λo f=>(cond (!o) (e true f) (fM f (c.add 1) λp=>kQ p 1 f λq g=>(cond (!q) (e true g) (fM g (c.add 2) λr=>kQ r 4 g λs t=>e (!s) t))))):=χ Tryz.func239
theorem acX {e f c a w K}:gB (yx e f c a w K)
 (kQ c a w λl g=>(cond (!l) (K ⟨none,0,0⟩ 1 g) (gY e g λh m=>BL h f a m λn i j=>(cond (i !=0) (K ⟨none,0,0⟩ i j) (BK c a j λo p=>qR o p λk q=>iH (S:=Int×Unit) (λb d r=>(cond (decide (b.1<(k.len:Int))) (iF k 1 b.1 λs=>Ld (.int .u8) d s λt=>iF n 1 b.1 λu=>St d u (.int .u8 t) λv=>r ((ο.wrap (b.1+1)),()) v) (K h 0 d))) (0,()) q))))):=χ Tryz.func240 (fQ (fQ (fQ (fQ (fQ (.seq (fQ (.blk (.loop [(36,ν)] .leaf))) .leaf))))))
theorem acY {a w K}:gB (G6 a w K)
 (Ja a w λb c=>K (ο.wrap (65535 - b)) c):=χ Tryz.func241
theorem Ig {b w K}:gB (Es b w K)
 (iL (Value.slice b.a b.len b.cap)=true/\
 Al w (.cells ⟨[.slice b.a b.len b.cap]⟩ 38) λc d=>K (Value.func (.func 275) #[] #[(Value.pointer (some c))]) d):=χ Tryz.func242
theorem VF {a b c d w K}:gB (sZ a b c d w K)
 (zX a 4 w λe f=>nY ⟨none,0,0⟩ e 4 f λg h=>zX b 4 h λi j=>nY g i 4 j λk l=>zX c 1 l λm n=>nY k m 2 n λo p=>zX d 2 p λq r=>nY o q 2 r λs t=>K s t):=χ Tryz.func243
theorem Uf {a0 a1 f0 w K}:gB (UU a0 a1 f0 w K)
 (Ld .slice w f0 λa=>yw a a0 a1 w λb d c=>K b c):=χ Tryz.func244
theorem FT {a w K}:gB (AP a w K)
 (K ((kT .i64 a 6)==2) w):=χ Tryz.func245
theorem Ue {a b w K}:gB (Dq a b w K)
 (let c:Bool->Prop:=λd=>((cond d (kU 1 2 b w λe f=>K e f) (cond (a==1) (kU 1 3 b w λg h=>K g h) (cond (a==2) (kU 3 2 b w λi j=>K i j) (K a w)))))
 (cond (a==0) (c (a==0)) (c (a==6)))):=χ Tryz.func246
theorem QA {a b w K}:gB (AQ a b w K)
 ((cond (a==3) (kU 4 5 b w λc d=>K c d) (cond (a==4) (kU 4 6 b w λe f=>K e f) (cond (a==5) (kU 6 5 b w λg h=>K g h) (K a w))))):=χ Tryz.func247
theorem LU {a b c w K}:gB (vY a b c w K)
 (iL (Value.pointer a)=true/\
 Al w (.cells ⟨[.pointer a]⟩ 61) λd e=>iL (Value.int .i64 b)=true/\
 Al e (.cells ⟨[.int .i64 b]⟩ 3) λf g=>iL (Value.int .i64 c)=true/\
 Al g (.cells ⟨[.int .i64 c]⟩ 3) λh i=>K (Value.func (.func 278) #[] #[(Value.pointer (some d)),(Value.pointer (some f)),(Value.pointer (some h))]) i):=χ Tryz.func248
theorem Qn {a b w K}:gB (Ai a b w K)
 (let c:Bool->b_:=λf g=>(K f g)
 lN a w λh d=>(cond h (lN b d λi e=>(cond (!i) (c true e) (c (decide (a<b)) e))) (c (decide (a<b)) d))):=χ Tryz.func249
theorem Ko {a w K}:gB (qm a w K)
 (K (a !=a) w):=χ Tryz.func250
theorem Gn {b c d e w K}:gB (yE b c d e w K)
 (Al w (.cells ⟨[.int .i64 b,.int .i64 c,.int .i64 d]⟩ 317) λf a=>fM a f λg=>fM a e λh=>K (g==h) a):=χ Tryz.func253
theorem Yi {d c a w K}:gB (GZ d c a w K)
 (let e:Bool->Prop:=λg=>((cond g (K 0 1 w) (cond (decide (c>(ο.wrap ((d.len:Int) - a)))) (K 0 3 w) (iH (S:=Int×Int×Unit) (λb f h=>(cond (decide (b.2.1<a)) (iF d 1 (ο.wrap (c+b.2.1)) λi=>Ld (.int .u8) f i λj=>h ((ο.wrap ((ο.wrap (b.1 * 256))+(ο.wrap j))),(ο.wrap (b.2.1+1)),()) f) (K b.1 0 f))) (0,0,()) w))))
 (cond (decide (a<1)) (e true) (cond (decide (a>4)) (e true) (e (decide (c<0)))))):=χ Tryz.func254 (fQ (fQ (fQ (fQ (.seq (fQ (.blk (.loop [(8,ν),(9,ν)] .leaf))) .leaf)))))
theorem Yk {b w K}:gB (BQ b w K)
 (iH (S:=Int×Int×Unit) (λa c d=>(cond (decide (a.2.1<b)) (d ((ο.wrap (a.1 * 256)),(ο.wrap (a.2.1+1)),()) c) (K a.1 c))) (1,0,()) w):=χ Tryz.func255 (fQ (fQ (.seq (fQ (.blk (.loop [(3,ν),(4,ν)] .leaf))) .leaf)))
theorem Vq {a b w K}:gB (EJ a b w K)
 ((cond (decide ((ο.wrap (b+1))<(a.len:Int))) (iF a 1 b λc=>Ld (.int .u8) w.drew c λd=>iF a 1 (ο.wrap (b+1)) λe=>Ld (.int .u8) w.drew e λf=>K (ο.wrap ((ο.wrap ((ο.wrap d) * 256))+(ο.wrap f))) w.drew) (iF a 1 b λg=>Ld (.int .u8) w g λh=>K (ο.wrap ((ο.wrap h) * 256)) w))):=χ Tryz.func256
theorem Vr {b w K}:gB (EK b w K)
 ((cond (decide (b<0)) (K 0 w) (iH (S:=Int×Unit) (λa c d=>(cond (decide (a.1>65535)) ((65536:Int)≠0/\
 (65536:Int)≠0/\
 d ((ο.wrap ((Int.tmod a.1 65536)+(ο.wrap (Int.tdiv a.1 65536)))),()) c) (K a.1 c))) (b,()) w))):=χ Tryz.func257 (fQ (fQ (.seq (.blk (.loop [(0,ν)] .leaf)) .leaf)))
theorem D7 {a w K}:gB (lN a w K)
 (K (a !=a) w):=χ Tryz.func258
theorem pO {c e w K}:gB (jl c e w K)
 (iH (S:=Int×Unit) (λb a h=>(cond (decide (b.1<(c.len:Int))) (iF c 3 b.1 λd=>fM a (d.add 0) λi=>fM a (d.add 1) λj=>fM a (d.add 2) λk=>jB υ [.one .bool] e [(Value.agg ⟨[.int .i64 i,.int .i64 j,.int .i64 k]⟩)] a λl f=>∃g:Bool,l=(Value.bool g)/\
 (cond g (K b.1 f) (h ((ο.wrap (b.1+1)),()) f))) (K (-1) a))) (0,()) w):=χ Tryz.func259 (fQ (.seq (fQ (.blk (.loop [(8,ν)] .leaf))) .leaf))
theorem uG {b m n o c w K}:gB (iV b m n o c w K)
 (iH (S:=Int×Int×Int×Bool×Bool×Unit) (λa g h=>(cond (decide ((ο.wrap (a.2.1 - a.1))<=12)) (jv b a.1 a.2.1 c g λD=>K D) (cond (a.2.2.1==0) (uq b a.1 a.2.1 c g λE=>K E) (let p:Int->b_:=λf F=>(rH b a.1 a.2.1 c F λq r s=>let t:Int->Int->b_:=λi G u=>(let v:b_:=λd=>(let x:Bool->b_:=λH y=>((cond H (qw b a.1 a.2.1 i c y λI J=>h (I,a.2.1,f,a.2.2.2.1,a.2.2.2.2.1,()) J) (sV b a.1 a.2.1 i c y λe z A=>(8:Int)≠0/\
 (cond (decide ((ο.wrap (e - a.1))<(ο.wrap (a.2.1 - e)))) (iV b a.1 e f c A λL=>h ((ο.wrap (e+1)),a.2.1,f,(decide ((ο.wrap (e - a.1))>=(ο.wrap (Int.tdiv (ο.wrap (a.2.1 - a.1)) 8)))),z,()) L) (iV b (ο.wrap (e+1)) a.2.1 f c A λM=>h (a.1,e,f,(decide ((ο.wrap (a.2.1 - e))>=(ο.wrap (Int.tdiv (ο.wrap (a.2.1 - a.1)) 8)))),z,()) M)))))
 (cond (decide (a.1>0)) (iF b 3 (ο.wrap (a.1 - 1)) λj=>fM d.drew (j.add 0) λN=>fM d.drew (j.add 1) λO=>fM d.drew (j.add 2) λP=>iF b 3 i λk=>fM d.drew (k.add 0) λQ=>fM d.drew (k.add 1) λR=>fM d.drew (k.add 2) λT=>jB υ [.one ν] c [(Value.agg ⟨[.int .i64 N,.int .i64 O,.int .i64 P]⟩),(Value.agg ⟨[.int .i64 Q,.int .i64 R,.int .i64 T]⟩)] d.drew λU V=>∃B:Int,U=(Value.int .i64 B)/\
 x (!(decide (B<0))) V) (x false d.drew)))
 let l:Bool->Prop:=λW=>((cond W (nS b a.1 a.2.1 c u λX C=>(cond X (K C) (v C))) (v u)))
 (cond a.2.2.2.1 (cond a.2.2.2.2.1 (l (G==1)) (l false)) (l false)))
 (cond (r==2) (qU b a.1 a.2.1 c s λY=>t (ο.wrap ((ο.wrap (a.2.1 - 1)) - (ο.wrap (q - a.1)))) 1 Y) (t q r s)))
 (cond (!a.2.2.2.1) (qH b a.1 a.2.1 c g λZ=>p (ο.wrap (a.2.2.1 - 1)) Z) (p a.2.2.1 g)))))) (m,n,o,true,true,()) w):=χ Tryz.func260 (fQ (fQ (.blk (.loop [(1,ν),(2,ν),(3,ν),(10,.bool),(11,.bool)] .leaf))))
theorem OY {a w K}:gB (yL a w K)
 (vV a w λb c=>K b c):=χ Tryz.func261
theorem Ya {b c w K}:gB (GN b c w K)
 (iH (S:=Int×Int×Unit) (λa d e=>(cond (decide (a.2.1<(b.size:Int))) (adK b a.2.1 λf=>e ((IntKind.u32.wrap ((UE .u32 a.1 (IntKind.u32.wrap f)) * 16777619)),(ο.wrap (a.2.1+1)),()) d) ((IntKind.u32.wrap c)≠0/\
 K (ο.wrap (Int.tmod a.1 (IntKind.u32.wrap c))) d))) (2166136261,0,()) w):=χ Tryz.func262 (fQ (fQ (.seq (fQ (.blk (.loop [(5,(.int .u32)),(9,ν)] .leaf))) .leaf)))
theorem Ij {a0 f0 f1 w K}:gB (JB a0 f0 f1 w K)
 (Ld .ptr w f0 λf=>Pt f λg=>Ld .slice w g λh=>iH (S:=Int×Unit) (λb a i=>(cond (decide (b.1<(h.len:Int))) (fM a.drew f1 λj=>Ld .ptr a.drew f0 λk=>Pt k λl=>Ld .slice a.drew l λc=>(c.len:Int)≠0/\
 jB υ [.one .bool] a0 [(Value.int .i64 (Int.tmod (ο.wrap (j+b.1)) (c.len:Int)))] a.drew λm d=>∃e:Bool,m=(Value.bool e)/\
 (cond (!e) (K d) (i ((ο.wrap (b.1+1)),()) d))) (K a))) (0,()) w):=χ Tryz.func263 (fQ (.blk (.loop [(10,ν)] .leaf)))
theorem pU {b i w K}:gB (jr b i w K)
 (iL (Value.slice b.a b.len b.cap)=true/\
 Al w (.cells ⟨[.slice b.a b.len b.cap]⟩ 38) λf c=>zn υ none [.one (.int .u8)] i c (λd k e l=>e.heap[d]? =e.heap[d]? /\
 Ld .slice (gG e d) f λm=>Al (gG e d) (.cells ⟨[.int .u8 k.1]⟩ 5) λn o=>mW 5 1 1 [(Value.int .u8 0)] m ⟨(some n),1,1⟩ o λg p=>St p f (.slice g.a g.len g.cap) λq=>l .normal q)
 (λh=>Ld .slice h f λr=>h.heap[c.heap.size]? =some (.deferred (some []))/\
 K r (h.putObj c.heap.size (.deferred none)))
 (λj=>j.heap[c.heap.size]? =some (.deferred (some []))/\
 K ⟨none,0,0⟩ (j.putObj c.heap.size (.deferred none)))
 []):=χ Tryz.func264 (fQ (.seq (fQ (.blk (.rng [.one (.int .u8)] .leaf .leaf))) .leaf))
theorem X9 {a b w K}:gB (BK a b w K)
 (iL (Value.int .i64 a)=true/\
 Al w (.cells ⟨[.int .i64 a]⟩ 3) λc d=>iL (Value.int .i64 b)=true/\
 Al d (.cells ⟨[.int .i64 b]⟩ 3) λe f=>K (Value.func (.func 292) #[] #[(Value.pointer (some e)),(Value.pointer (some c))]) f):=χ Tryz.func265
theorem BI {c d w K}:gB (uM c d w K)
 (iH (S:=Int×Unit) (λa b e=>(cond (decide (a.1<(c.len:Int))) (iF c 1 a.1 λf=>Ld .bool b f λg=>(cond ((d:Bool)==g) (K a.1 b) (e ((ο.wrap (a.1+1)),()) b))) (K (-1) b))) (0,()) w):=χ Tryz.func267 (fQ (.seq (fQ (.blk (.loop [(8,ν)] .leaf))) .leaf))
theorem Z_ {b w K}:gB (EW b w K)
 (iH (S:=Int×Unit) (λa c d=>(cond (decide (a.1>65535)) (0<=(16:Int)/\
 d ((ο.wrap ((kT .i64 a.1 65535)+(jy .i64 a.1 16))),()) c) (K a.1 c))) ((if (0:Int)>b then 0 else b),()) w):=χ Tryz.func268 (fQ (fQ (.seq (.blk (.loop [(0,ν)] .leaf)) .leaf)))
theorem Yp {f w K}:gB (BU f w K)
 (Al w (.cells ⟨[.int .i64 0]⟩ 3) λb h=>St h b (.int .i64 0) λi=>iH (S:=(Int×Unit)×List Nat) (λa c j=>(cond (decide (a.1.1<(f.len:Int))) (iF f 1 a.1.1 λk=>Ld .slice c k λl=>Es l c λm g=>zn υ none [.one ν,.one ν] m g (λd n e o=>e.heap[d]? =e.heap[d]? /\
 fM (gG e d) b λp=>St (gG e d) b (Value.int .i64 (ο.wrap (p+n.2.1))) λq=>o .normal q)
 (λr=>j (((ο.wrap (a.1.1+1)),()),(g.heap.size::a.2)) r)
 (λs=>vP (g.heap.size::a.2) s λt=>K 0 t)
 []) (fM c b λu=>vP a.2 c λv=>K u v))) ((0,()),[]) i):=χ Tryz.func269 (fQ (fQ (.seq (fQ (.blk (.loop [(10,ν)] (fQ (fQ (.seq (.blk (fQ (fQ (.blk (.rng [.one ν,.one ν] .leaf .leaf))))) .leaf)))))) .leaf)))
theorem aaR {e p w K}:gB (Ot e p w K)
 (Al w (.cells ⟨alS⟩ 378) λb m=>(cond (decide ((e.len:Int)<20)) (ig alS m b 0 λg=>Ld .slice g (b.add 0) λx=>fM g (b.add 1) λy=>fM g (b.add 2) λz=>K x y z 3 g) (iF e 1 0 λA=>Ld (.int .u8) m A λB=>Al m (.cells ⟨alS⟩ 378) λc C=>ig [.slice e.a e.len e.cap,.int .i64 (ο.wrap ((ο.wrap (kT .u8 B 15)) * 4)),.int .i64 0] C c 0 λh=>Ld .slice h (c.add 0) λD=>fM h (c.add 1) λE=>fM h (c.add 2) λF=>gV D E F 2 2 h λG H=>St H (c.add 2) (.int .i64 G) λd=>let q:Bool->Prop:=λI=>((cond I (ig alS d b 0 λi=>Ld .slice i (b.add 0) λJ=>fM i (b.add 1) λL=>fM i (b.add 2) λM=>K J L M 4 i) (let n:Bool->Prop:=λN=>((cond N (ig alS d b 0 λj=>Ld .slice j (b.add 0) λO=>fM j (b.add 1) λP=>fM j (b.add 2) λQ=>K O P Q 3 j) (let r:Bool->b_:=λR f=>((cond R (ig alS f b 0 λk=>Ld .slice k (b.add 0) λS=>fM k (b.add 1) λT=>fM k (b.add 2) λU=>K S T U 4 k) (Ld .slice f (c.add 0) λo=>fM f (c.add 1) λV=>fM f (c.add 2) λW=>ig [.slice o.a o.len o.cap,.int .i64 V,.int .i64 W] f b 0 λl=>Ld .slice l (b.add 0) λX=>fM l (b.add 1) λY=>fM l (b.add 2) λZ=>K X Y Z 0 l)))
 fM d (c.add 2) λs=>fM d (c.add 1) λt=>(cond (decide (s<t)) (r (decide (s<t)) d) (Ld .slice d (c.add 0) λaa=>fM d (c.add 1) λab=>fM d (c.add 2) λac=>gV aa ab ac 6 2 d λad ae=>r ((kT .i64 ad 32768) !=0) ae)))))
 fM d (c.add 1) λu=>(cond (decide (u>(e.len:Int))) (n (decide (u>(e.len:Int)))) (fM d (c.add 2) λaf=>(cond (decide (af>(e.len:Int))) (n (!p)) (n false)))))))
 iF e 1 0 λag=>Ld (.int .u8) d ag λv=>0<=(4:Int)/\
 (cond ((jy .u8 v 4) !=4) (q ((jy .u8 v 4) !=4)) (fM d (c.add 1) λah=>q (decide (ah<20))))))):=χ Tryz.func270
theorem Kq {Y A1 A2 w K}:gB (u_ Y A1 A2 w K)
 (Al w (.cells ⟨[.slice Y.a Y.len Y.cap,.int .i64 A1,.int .i64 A2]⟩ 378) λb w2=>Al w2 (.cells ⟨ξ⟩ 40) λa5 Z=>Ld .slice Z (b.add 0) λx6=>fM Z (b.add 1) λx7=>fM Z (b.add 2) λx8=>gV x6 x7 x8 6 2 Z λr9 l=>let O:Addr->b_:=λT aG=>(St aG (T.add 2) (.int .i64 (ο.wrap ((kT .i64 r9 8191) * 8))) λaH=>St aH (T.add 7) (.bool ((kT .i64 r9 16384) !=0)) λaI=>St aI (T.add 8) (.bool ((kT .i64 r9 8192) !=0)) λah=>Ld .slice ah b λaJ=>fM ah (b.add 1) λaK=>kJ aJ 1 20 aK λaL=>gY aL ah λai aM=>St aM (T.add 9) (.slice ai.a ai.len ai.cap) λV=>Ld .slice V b λaN=>fM V (b.add 1) λaO=>fM V (b.add 2) λao=>Ld .slice V b λap=>kJ aN 1 aO (if (ap.len:Int)<ao then (ap.len:Int) else ao) λaP=>gY aP V λaj aQ=>St aQ (T.add 10) (.slice aj.a aj.len aj.cap) λaq=>iC aq T λaR aS aT aU aV aW aX aY aZ a0 a1=>ig (gQ aR aS aT aU aV aW aX aY aZ a0 a1) aq a5 0 λar=>iC ar a5 λa2 a4 a6 a7 a8 a9 ba bb bc bd be=>K a2 a4 a6 a7 a8 a9 ba bb bc bd be ar)
 Ld .slice l.drew (b.add 0) λJ=>fM l.drew (b.add 1) λL=>fM l.drew (b.add 2) λM=>Ld .slice l.drew (b.add 0) λC=>fM l.drew (b.add 1) λD=>fM l.drew (b.add 2) λE=>Ld .slice l.drew (b.add 0) λu=>fM l.drew (b.add 1) λv=>fM l.drew (b.add 2) λx=>Ld .slice l.drew (b.add 0) λi=>fM l.drew (b.add 1) λj=>fM l.drew (b.add 2) λk=>Ld .slice l.drew (b.add 0) λf=>fM l.drew (b.add 1) λg=>fM l.drew (b.add 2) λh=>Ld .slice l.drew (b.add 0) λc=>fM l.drew (b.add 1) λd=>fM l.drew (b.add 2) λe=>(gV J L M 1 1 l.drew λU t=>Cs t b 0 c/\
 Ci t b 1 d/\
 Ci t b 2 e/\
 Cs t b 0 f/\
 Ci t b 1 g/\
 Ci t b 2 h/\
 Cs t b 0 i/\
 Ci t b 1 j/\
 Ci t b 2 k/\
 Cs t b 0 u/\
 Ci t b 1 v/\
 Ci t b 2 x/\
 Cs t b 0 C/\
 Ci t b 1 D/\
 Ci t b 2 E/\
 (gV C D E 4 2 t λW z=>Cs z b 0 c/\
 Ci z b 1 d/\
 Ci z b 2 e/\
 Cs z b 0 f/\
 Ci z b 1 g/\
 Ci z b 2 h/\
 Cs z b 0 i/\
 Ci z b 1 j/\
 Ci z b 2 k/\
 Cs z b 0 u/\
 Ci z b 1 v/\
 Ci z b 2 x/\
 (gV u v x 8 1 z λaa F=>Cs F b 0 c/\
 Ci F b 1 d/\
 Ci F b 2 e/\
 Cs F b 0 f/\
 Ci F b 1 g/\
 Ci F b 2 h/\
 Cs F b 0 i/\
 Ci F b 1 j/\
 Ci F b 2 k/\
 (gV i j k 9 1 F λak N=>Cs N b 0 c/\
 Ci N b 1 d/\
 Ci N b 2 e/\
 Cs N b 0 f/\
 Ci N b 1 g/\
 Ci N b 2 h/\
 (gV f g h 12 4 N λau X=>Cs X b 0 c/\
 Ci X b 1 d/\
 Ci X b 2 e/\
 (gV c d e 16 4 X λbf bg=>Al bg (.cells ⟨ξ⟩ 40) λav m=>Cs m b 0 c/\
 Ci m b 1 d/\
 Ci m b 2 e/\
 Cs m b 0 f/\
 Ci m b 1 g/\
 Ci m b 2 h/\
 Cs m b 0 i/\
 Ci m b 1 j/\
 Ci m b 2 k/\
 Cs m b 0 u/\
 Ci m b 1 v/\
 Ci m b 2 x/\
 Cs m b 0 C/\
 Ci m b 1 D/\
 Ci m b 2 E/\
 Cs m b 0 J/\
 Ci m b 1 L/\
 Ci m b 2 M/\
 ig (gQ U W 0 aa ak au bf false false ⟨none,0,0⟩ ⟨none,0,0⟩) m av 0 λbh=>O av bh)/\
 (Al X (.cells ⟨ξ⟩ 40) λaw n=>Cs n b 0 c/\
 Ci n b 1 d/\
 Ci n b 2 e/\
 Cs n b 0 f/\
 Ci n b 1 g/\
 Ci n b 2 h/\
 Cs n b 0 i/\
 Ci n b 1 j/\
 Ci n b 2 k/\
 Cs n b 0 u/\
 Ci n b 1 v/\
 Ci n b 2 x/\
 Cs n b 0 C/\
 Ci n b 1 D/\
 Ci n b 2 E/\
 Cs n b 0 J/\
 Ci n b 1 L/\
 Ci n b 2 M/\
 gV c d e 16 4 n λbi bj=>ig (gQ U W 0 aa ak au bi false false ⟨none,0,0⟩ ⟨none,0,0⟩) bj aw 0 λbk=>O aw bk))/\
 (Al N (.cells ⟨ξ⟩ 40) λax o=>Cs o b 0 c/\
 Ci o b 1 d/\
 Ci o b 2 e/\
 Cs o b 0 f/\
 Ci o b 1 g/\
 Ci o b 2 h/\
 Cs o b 0 i/\
 Ci o b 1 j/\
 Ci o b 2 k/\
 Cs o b 0 u/\
 Ci o b 1 v/\
 Ci o b 2 x/\
 Cs o b 0 C/\
 Ci o b 1 D/\
 Ci o b 2 E/\
 Cs o b 0 J/\
 Ci o b 1 L/\
 Ci o b 2 M/\
 gV f g h 12 4 o λbl ab=>Cs ab b 0 c/\
 Ci ab b 1 d/\
 Ci ab b 2 e/\
 gV c d e 16 4 ab λbm bn=>ig (gQ U W 0 aa ak bl bm false false ⟨none,0,0⟩ ⟨none,0,0⟩) bn ax 0 λbo=>O ax bo))/\
 (Al F (.cells ⟨ξ⟩ 40) λay p=>Cs p b 0 c/\
 Ci p b 1 d/\
 Ci p b 2 e/\
 Cs p b 0 f/\
 Ci p b 1 g/\
 Ci p b 2 h/\
 Cs p b 0 i/\
 Ci p b 1 j/\
 Ci p b 2 k/\
 Cs p b 0 u/\
 Ci p b 1 v/\
 Ci p b 2 x/\
 Cs p b 0 C/\
 Ci p b 1 D/\
 Ci p b 2 E/\
 Cs p b 0 J/\
 Ci p b 1 L/\
 Ci p b 2 M/\
 gV i j k 9 1 p λbp P=>Cs P b 0 c/\
 Ci P b 1 d/\
 Ci P b 2 e/\
 Cs P b 0 f/\
 Ci P b 1 g/\
 Ci P b 2 h/\
 gV f g h 12 4 P λbq ac=>Cs ac b 0 c/\
 Ci ac b 1 d/\
 Ci ac b 2 e/\
 gV c d e 16 4 ac λbr bs=>ig (gQ U W 0 aa bp bq br false false ⟨none,0,0⟩ ⟨none,0,0⟩) bs ay 0 λbt=>O ay bt))/\
 (Al z (.cells ⟨ξ⟩ 40) λaz q=>Cs q b 0 c/\
 Ci q b 1 d/\
 Ci q b 2 e/\
 Cs q b 0 f/\
 Ci q b 1 g/\
 Ci q b 2 h/\
 Cs q b 0 i/\
 Ci q b 1 j/\
 Ci q b 2 k/\
 Cs q b 0 u/\
 Ci q b 1 v/\
 Ci q b 2 x/\
 Cs q b 0 C/\
 Ci q b 1 D/\
 Ci q b 2 E/\
 Cs q b 0 J/\
 Ci q b 1 L/\
 Ci q b 2 M/\
 gV u v x 8 1 q λbu G=>Cs G b 0 c/\
 Ci G b 1 d/\
 Ci G b 2 e/\
 Cs G b 0 f/\
 Ci G b 1 g/\
 Ci G b 2 h/\
 Cs G b 0 i/\
 Ci G b 1 j/\
 Ci G b 2 k/\
 gV i j k 9 1 G λbv Q=>Cs Q b 0 c/\
 Ci Q b 1 d/\
 Ci Q b 2 e/\
 Cs Q b 0 f/\
 Ci Q b 1 g/\
 Ci Q b 2 h/\
 gV f g h 12 4 Q λbw ad=>Cs ad b 0 c/\
 Ci ad b 1 d/\
 Ci ad b 2 e/\
 gV c d e 16 4 ad λbx bz=>ig (gQ U W 0 bu bv bw bx false false ⟨none,0,0⟩ ⟨none,0,0⟩) bz az 0 λbA=>O az bA))/\
 (Al t (.cells ⟨ξ⟩ 40) λaA r=>Cs r b 0 c/\
 Ci r b 1 d/\
 Ci r b 2 e/\
 Cs r b 0 f/\
 Ci r b 1 g/\
 Ci r b 2 h/\
 Cs r b 0 i/\
 Ci r b 1 j/\
 Ci r b 2 k/\
 Cs r b 0 u/\
 Ci r b 1 v/\
 Ci r b 2 x/\
 Cs r b 0 C/\
 Ci r b 1 D/\
 Ci r b 2 E/\
 Cs r b 0 J/\
 Ci r b 1 L/\
 Ci r b 2 M/\
 gV C D E 4 2 r λbB A=>Cs A b 0 c/\
 Ci A b 1 d/\
 Ci A b 2 e/\
 Cs A b 0 f/\
 Ci A b 1 g/\
 Ci A b 2 h/\
 Cs A b 0 i/\
 Ci A b 1 j/\
 Ci A b 2 k/\
 Cs A b 0 u/\
 Ci A b 1 v/\
 Ci A b 2 x/\
 gV u v x 8 1 A λbC H=>Cs H b 0 c/\
 Ci H b 1 d/\
 Ci H b 2 e/\
 Cs H b 0 f/\
 Ci H b 1 g/\
 Ci H b 2 h/\
 Cs H b 0 i/\
 Ci H b 1 j/\
 Ci H b 2 k/\
 gV i j k 9 1 H λbD R=>Cs R b 0 c/\
 Ci R b 1 d/\
 Ci R b 2 e/\
 Cs R b 0 f/\
 Ci R b 1 g/\
 Ci R b 2 h/\
 gV f g h 12 4 R λbE ae=>Cs ae b 0 c/\
 Ci ae b 1 d/\
 Ci ae b 2 e/\
 gV c d e 16 4 ae λbF bG=>ig (gQ U bB 0 bC bD bE bF false false ⟨none,0,0⟩ ⟨none,0,0⟩) bG aA 0 λbH=>O aA bH))/\
 (Al l.drew (.cells ⟨ξ⟩ 40) λaB s=>Cs s b 0 c/\
 Ci s b 1 d/\
 Ci s b 2 e/\
 Cs s b 0 f/\
 Ci s b 1 g/\
 Ci s b 2 h/\
 Cs s b 0 i/\
 Ci s b 1 j/\
 Ci s b 2 k/\
 Cs s b 0 u/\
 Ci s b 1 v/\
 Ci s b 2 x/\
 Cs s b 0 C/\
 Ci s b 1 D/\
 Ci s b 2 E/\
 Cs s b 0 J/\
 Ci s b 1 L/\
 Ci s b 2 M/\
 gV J L M 1 1 s λbI y=>Cs y b 0 c/\
 Ci y b 1 d/\
 Ci y b 2 e/\
 Cs y b 0 f/\
 Ci y b 1 g/\
 Ci y b 2 h/\
 Cs y b 0 i/\
 Ci y b 1 j/\
 Ci y b 2 k/\
 Cs y b 0 u/\
 Ci y b 1 v/\
 Ci y b 2 x/\
 Cs y b 0 C/\
 Ci y b 1 D/\
 Ci y b 2 E/\
 gV C D E 4 2 y λbJ B=>Cs B b 0 c/\
 Ci B b 1 d/\
 Ci B b 2 e/\
 Cs B b 0 f/\
 Ci B b 1 g/\
 Ci B b 2 h/\
 Cs B b 0 i/\
 Ci B b 1 j/\
 Ci B b 2 k/\
 Cs B b 0 u/\
 Ci B b 1 v/\
 Ci B b 2 x/\
 gV u v x 8 1 B λbK I=>Cs I b 0 c/\
 Ci I b 1 d/\
 Ci I b 2 e/\
 Cs I b 0 f/\
 Ci I b 1 g/\
 Ci I b 2 h/\
 Cs I b 0 i/\
 Ci I b 1 j/\
 Ci I b 2 k/\
 gV i j k 9 1 I λbL S=>Cs S b 0 c/\
 Ci S b 1 d/\
 Ci S b 2 e/\
 Cs S b 0 f/\
 Ci S b 1 g/\
 Ci S b 2 h/\
 gV f g h 12 4 S λbM af=>Cs af b 0 c/\
 Ci af b 1 d/\
 Ci af b 2 e/\
 gV c d e 16 4 af λbN bO=>ig (gQ bI bJ 0 bK bL bM bN false false ⟨none,0,0⟩ ⟨none,0,0⟩) bO aB 0 λbP=>O aB bP)):=χ Tryz.func271
theorem Yh {b c d w K}:gB (BP b c d w K)
 (Al w (.cells ⟨(nM ⟨none,0,0⟩ 0 0 0 0 0 0 0 false false ⟨none,0,0⟩ ⟨none,0,0⟩ 0)⟩ 276) λa m=>xJ b m λn o p q r s t u v x y z A B e C=>Al C (.cells ⟨ξ⟩ 40) λD E=>Al E (.cells ⟨alM⟩ 89) λF G=>ig (gQ n o p q r s t u v x y) G D 0 λH=>ig [.int .i64 z,.int .i64 A,.int .i64 B] H F 0 λf=>(cond (e !=0) (ig (nM ⟨none,0,0⟩ 0 0 0 0 0 0 0 false false ⟨none,0,0⟩ ⟨none,0,0⟩ 0) f a 0 λg=>tX g a λI J L M N O P Q R S T U V=>K I J L M N O P Q R S T U V e g) (let h:Bool->b_:=λW i=>((cond W (ig (nM ⟨none,0,0⟩ 0 0 0 0 0 0 0 false false ⟨none,0,0⟩ ⟨none,0,0⟩ 0) i a 0 λj=>tX j a λX Y Z aa ab ac ad ae af ag ah ai aj=>K X Y Z aa ab ac ad ae af ag ah ai aj 1 j) (vZ b i λak al am an ao ap aq ar au av aw ax ay az aA=>ig (nM ak al am an ao ap aq ar au av aw ax ay) aA a 0 λk=>tX k a λaB aC aD aE aF aG aH aI aJ aK aL aM aN=>K aB aC aD aE aF aG aH aI aJ aK aL aM aN az k)))
 lu c f λaO l=>(cond (!aO) (h true l) (kQ d 2 l λaP aQ=>h (!aP) aQ))))):=χ Tryz.func272
theorem Iy {A B C D E F G H I J L M N O P Q R w K}:gB (oK A B C D E F G H I J L M N O P Q R w K)
 (Al w (.cells ⟨(nM A B C D E F G H I J L M N)⟩ 276) λc j=>let S:Int->Prop:=λW=>(Ld .slice j c λX=>uT X O Q 4 j λY k l Z=>Al Z (.cells ⟨alV⟩ 401) λe aa=>ig [.int .i64 Y,.slice k.a k.len k.cap,.slice l.a l.len l.cap] aa e 0 λm=>Ld .slice m c λab=>fM m (c.add 12) λac=>uT ab (ο.wrap (ac+W)) R 2 m λad n o ae=>Al ae (.cells ⟨alV⟩ 401) λd af=>ig [.int .i64 ad,.slice n.a n.len n.cap,.slice o.a o.len o.cap] af d 0 λf=>Ld .slice f c λag=>fM f (e.add 0) λah=>Ld .slice f (e.add 1) λp=>Ld .slice f (e.add 2) λq=>Al f (.cells ⟨[.int .i64 ah,.slice p.a p.len p.cap,.slice q.a q.len q.cap]⟩ 401) λai aj=>wo ag 10 ⟨(some ai),1,1⟩ aj λg T=>tX T c λak al am an ao ap aq ar au av aw ax ay=>r_ ak al am an ao ap aq ar au av aw ax ay T λh b=>(cond (h==(-1)) (fM b.drew d λaz=>kJ g 1 az (g.len:Int) λaA=>Ld .slice b.drew (d.add 2) λaB=>Ac 1 aA aB b.drew λaW aC=>K g aC) (fM b (c.add 12) λi=>fM b ((c.add 1).add 4) λaD=>(cond (aD==1) (fM b (d.add 0) λaE=>Ld .slice b (d.add 1) λr=>Ld .slice b (d.add 2) λs=>Al b (.cells ⟨[.int .i64 aE,.slice r.a r.len r.cap,.slice s.a s.len s.cap]⟩ 401) λaF aG=>wo g (ο.wrap (h+i)) ⟨(some aF),1,1⟩ aG λaH aI=>K aH aI) (fM b (e.add 0) λaJ=>Ld .slice b (e.add 1) λt=>Ld .slice b (e.add 2) λu=>fM b (d.add 0) λaK=>Ld .slice b (d.add 1) λv=>Ld .slice b (d.add 2) λx=>Al b (.cells ⟨[.int .i64 aJ,.slice t.a t.len t.cap,.slice u.a u.len u.cap,.int .i64 aK,.slice v.a v.len v.cap,.slice x.a x.len x.cap]⟩ 401) λaL aM=>wo g (ο.wrap (h+i)) ⟨(some aL),2,2⟩ aM λy aN=>let U:fU->b_:=λaO aP=>(K aO aP)
 yw y (ο.wrap (h+i)) 2 aN λaQ aX z=>let V:Bool->Prop:=λaR=>((cond aR (yx y (ο.wrap (h+i)) 65535 2 z λaS aY aT=>U aS aT) (U y z)))
 (cond (aQ==0) (fM z ((c.add 1).add 4) λaU=>V (aU==17)) (V false)))))))
 fM j ((c.add 1).add 4) λaV=>(cond (aV==1) (S 4) (S P))):=χ Tryz.func273
theorem FH {a w K}:gB (qR a w K)
 (jr ⟨none,0,0⟩ a w λb c=>K b c):=χ Tryz.func274
theorem U7 {a0 f0 w K}:gB (Xn a0 f0 w K)
 (iH (S:=Int×Unit) (λb a g=>Ld .slice a f0 λh=>(cond (decide (b.1<(h.len:Int))) (Ld .slice a f0 λi=>iF i 1 b.1 λj=>Ld (.int .u8) a j λc=>0<=(8:Int)/\
 let d:Int->Prop:=λk=>(jB υ [.one .bool] a0 [(Value.int .i64 b.1),(Value.int .i64 k)] a λl e=>∃f:Bool,l=(Value.bool f)/\
 (cond (!f) (K e) (g ((ο.wrap (b.1+2)),()) e)))
 Ld .slice a f0 λm=>(cond (decide ((ο.wrap (b.1+1))<(m.len:Int))) (Ld .slice a f0 λn=>iF n 1 (ο.wrap (b.1+1)) λo=>Ld (.int .u8) a o λp=>d (orI .i64 (Ky .i64 (ο.wrap c) 8) (ο.wrap p))) (d (Ky .i64 (ο.wrap c) 8)))) (K a))) (0,()) w):=χ Tryz.func275 (fQ (.blk (.loop [(3,ν)] .leaf)))
theorem aaO {b a w K}:gB (zX b a w K)
 (0<=(ο.wrap (8 * a))/\
 K (kT .i64 b (ο.wrap ((Ky .i64 1 (ο.wrap (8 * a))) - 1))) w):=χ Tryz.func276
theorem O7 {b c d w K}:gB (kU b c d w K)
 (Al w (.cells ⟨[.int .i64 b,.int .i64 c]⟩ 384) λe a=>(cond d (fM a e λf=>K f a) (fM a (e.add 1) λg=>K g a))):=χ Tryz.func277
theorem Iq {a0 f0 f1 f2 w K}:gB (JC a0 f0 f1 f2 w K)
 (iL a0=true/\
 Al w (.cells ⟨[a0]⟩ 81) λn o=>let p:Bool->b_:=λz g=>((cond z (K g) (fM g f2 λA=>St g f2 (.int .i64 (kT .i64 A 65535)) λd=>let q:Bool->b_:=λB e=>((cond B (K e) (Ld .ptr e f0 λC=>fM e f1 λD=>fM e f2 λE=>sQ C D E e λr F=>iH (S:=(Int×Unit)×List Nat) (λc h G=>(cond (decide (c.1.1<(r.len:Int))) (iF r 1 c.1.1 λH=>Ld .any h H λI=>Al h (.cells ⟨[.int .i64 0]⟩ 3) λs J=>St J s (.int .i64 c.1.1) λi=>zn υ none [.one ν] I i (λa j b k=>b.heap[a]? =b.heap[a]? /\
 let t:Bool->Prop:=λL=>(let l:Bool->Prop:=λM=>((cond M (k .normal (gG b a)) (Ld .any (gG b a) n λN=>jB υ [.one .bool] N [(Value.int .i64 j.1)] (gG b a) λO u=>∃v:Bool,O=(Value.bool v)/\
 (cond (!v) (k .ret u) (k .normal u)))))
 fM (gG b a) f2 λP=>(cond (j.1==P) (l true) (cond L (fM (gG b a) f1 λQ=>l (Q !=1)) (l false))))
 fM (gG b a) s λR=>(cond (R==1) (fM (gG b a) f2 λT=>t (decide (j.1>=T))) (t false)))
 (λU=>G (((ο.wrap (c.1.1+1)),()),(i.heap.size::c.2)) U)
 (λV=>vP (i.heap.size::c.2) V λW=>K W)
 [(3,(λam=>False))]) (vP c.2 h λX=>K X))) ((0,()),[]) F)))
 Ld .ptr d.drew f0 λY=>Pt Y λx=>fM d.drew (x.add 0) λZ=>fM d.drew (x.add 1) λaa=>fM d.drew f2 λab=>yM Z aa ab d.drew λac f=>(cond ac (Ld .any f n λad=>fM f f2 λae=>jB υ [.one .bool] ad [(Value.int .i64 ae)] f λaf ag=>∃y:Bool,af=(Value.bool y)/\
 q (!y) ag) (q false f)))))
 Ld .ptr o f0 λah=>jT ah o λai m=>(cond (!ai) (p true m) (fM m f1 λaj=>sU aj m λak al=>p (!ak) al))):=χ Tryz.func278 (fQ (fQ (fQ (fQ (fQ (.blk (.loop [(36,ν)] (fQ (fQ (.seq (.blk (fQ (fQ (.blk (.rng [.one ν] .leaf .leaf))))) .leaf))))))))))
theorem O1 {c d a w K}:gB (yM c d a w K)
 (Al w (.cells ⟨[.int .i64 c,.int .i64 d]⟩ 139) λe b=>let f:Bool->Prop:=λg=>(K g b)
 fM b e λh=>(cond (decide (h<=a)) (fM b (e.add 1) λi=>f (decide (a<=i))) (f false))):=χ Tryz.func279
theorem Cj {y a1 h w K}:gB (sQ y a1 h w K)
 ((cond (a1==1) (Pt y λa4=>fM w.drew (a4.add 0) λx5=>fM w.drew (a4.add 1) λx6=>Pt y λa7=>fM w.drew a7 λx8=>rX x5 x6 x8 1 w.drew λr9 cC=>Og [r9]/\
 Al cC (.cells ⟨[r9]⟩ 246) λcD cE=>K ⟨(some cD),1,1⟩ cE) (Px (S:=(Addr×Addr×Unit)×θ) (λe=>fM e.2.drew (e.1.1.add 0) λbC=>fM e.2.drew (e.1.1.add 1) λbD=>fM e.2.drew (e.1.1.add 0) λcF=>fM e.2.drew (e.1.1.add 1) λcG=>fM e.2.drew (e.1.1.add 0) λaM=>fM e.2.drew (e.1.1.add 1) λaN=>fM e.2.drew (e.1.1.add 0) λa3=>fM e.2.drew (e.1.1.add 1) λa5=>fM e.2.drew (e.1.2.1.add 0) λD=>fM e.2.drew (e.1.2.1.add 1) λE=>fM e.2.drew (e.1.2.1.add 0) λT=>fM e.2.drew (e.1.2.1.add 1) λU=>Pt y λj=>fM e.2.drew (j.add 0) λt=>fM e.2.drew (j.add 1) λu=>Pt y λl=>fM e.2.drew (l.add 0) λz=>fM e.2.drew (l.add 1) λA=>sS cF cG h e.2.drew λbE k=>Ci k l 0 z/\
 Ci k l 1 A/\
 Ci k j 0 t/\
 Ci k j 1 u/\
 Ci k e.1.2.1 0 T/\
 Ci k e.1.2.1 1 U/\
 Ci k e.1.2.1 0 D/\
 Ci k e.1.2.1 1 E/\
 Ci k e.1.1 0 a3/\
 Ci k e.1.1 1 a5/\
 Ci k e.1.1 0 aM/\
 Ci k e.1.1 1 aN/\
 Ci k e.1.1 0 bC/\
 Ci k e.1.1 1 bD/\
 rX bC bD (if bE>(ο.wrap (h+2)) then bE else (ο.wrap (h+2))) 2 k λbF m=>Ci m l 0 z/\
 Ci m l 1 A/\
 Ci m j 0 t/\
 Ci m j 1 u/\
 Ci m e.1.2.1 0 T/\
 Ci m e.1.2.1 1 U/\
 Ci m e.1.2.1 0 D/\
 Ci m e.1.2.1 1 E/\
 Ci m e.1.1 0 a3/\
 Ci m e.1.1 1 a5/\
 Ci m e.1.1 0 aM/\
 Ci m e.1.1 1 aN/\
 sS a3 a5 h m λcH p=>Ci p l 0 z/\
 Ci p l 1 A/\
 Ci p j 0 t/\
 Ci p j 1 u/\
 Ci p e.1.2.1 0 T/\
 Ci p e.1.2.1 1 U/\
 Ci p e.1.2.1 0 D/\
 Ci p e.1.2.1 1 E/\
 Ci p e.1.1 0 aM/\
 Ci p e.1.1 1 aN/\
 rX aM aN cH 2 p λbG s=>Ci s l 0 z/\
 Ci s l 1 A/\
 Ci s j 0 t/\
 Ci s j 1 u/\
 Ci s e.1.2.1 0 T/\
 Ci s e.1.2.1 1 U/\
 Ci s e.1.2.1 0 D/\
 Ci s e.1.2.1 1 E/\
 sS T U h s λcI B=>Ci B l 0 z/\
 Ci B l 1 A/\
 Ci B j 0 t/\
 Ci B j 1 u/\
 Ci B e.1.2.1 0 D/\
 Ci B e.1.2.1 1 E/\
 rX D E cI 2 B λbH V=>Ci V l 0 z/\
 Ci V l 1 A/\
 Ci V j 0 t/\
 Ci V j 1 u/\
 sS z A (ο.wrap (h+1)) V λcJ a6=>Ci a6 j 0 t/\
 Ci a6 j 1 u/\
 rX t u cJ 2 a6 λbI cK=>Og [bF,bG,bH,bI]/\
 Al cK (.cells ⟨[bF,bG,bH,bI]⟩ 246) λcL cM=>K ⟨(some cL),4,4⟩ cM) λi=>Pt y λd=>fM w.drew (d.add 0) λf=>fM w.drew (d.add 1) λg=>Pt y λa=>fM w.drew (a.add 0) λb=>fM w.drew (a.add 1) λc=>(kM h w.drew λW X C=>Ci C a 0 b/\
 Ci C a 1 c/\
 Ci C d 0 f/\
 Ci C d 1 g/\
 (gy f g W X C λn o Y=>Ci Y a 0 b/\
 Ci Y a 1 c/\
 (iK h Y λZ aa ab=>Ci ab a 0 b/\
 Ci ab a 1 c/\
 (gy b c Z aa ab λbJ bK bL=>(Al bL (.cells ⟨alL⟩ 139) λbM ac=>Ci ac a 0 b/\
 Ci ac a 1 c/\
 Ci ac d 0 f/\
 Ci ac d 1 g/\
 Al ac (.cells ⟨alL⟩ 139) λbN ad=>Ci ad a 0 b/\
 Ci ad a 1 c/\
 Ci ad d 0 f/\
 Ci ad d 1 g/\
 ig [.int .i64 n,.int .i64 o] ad bM 0 λcN=>ig [.int .i64 bJ,.int .i64 bK] cN bN 0 λcO=>i ((bM,bN,()),cO))/\
 (Al bL (.cells ⟨alL⟩ 139) λbO ae=>Ci ae a 0 b/\
 Ci ae a 1 c/\
 Ci ae d 0 f/\
 Ci ae d 1 g/\
 Al ae (.cells ⟨alL⟩ 139) λbP af=>Ci af a 0 b/\
 Ci af a 1 c/\
 Ci af d 0 f/\
 Ci af d 1 g/\
 ig [.int .i64 n,.int .i64 o] af bP 0 λcP=>ig [.int .i64 bJ,.int .i64 bK] cP bO 0 λcQ=>i ((bP,bO,()),cQ)))/\
 (Al ab (.cells ⟨alL⟩ 139) λaO F=>Ci F a 0 b/\
 Ci F a 1 c/\
 Ci F d 0 f/\
 Ci F d 1 g/\
 (gy b c Z aa F λcR cS cT=>Al cT (.cells ⟨alL⟩ 139) λbQ ag=>Ci ag a 0 b/\
 Ci ag a 1 c/\
 Ci ag d 0 f/\
 Ci ag d 1 g/\
 ig [.int .i64 n,.int .i64 o] ag aO 0 λcU=>ig [.int .i64 cR,.int .i64 cS] cU bQ 0 λcV=>i ((aO,bQ,()),cV))/\
 (Al F (.cells ⟨alL⟩ 139) λbR ah=>Ci ah a 0 b/\
 Ci ah a 1 c/\
 Ci ah d 0 f/\
 Ci ah d 1 g/\
 gy b c Z aa ah λcW cX cY=>ig [.int .i64 n,.int .i64 o] cY aO 0 λcZ=>ig [.int .i64 cW,.int .i64 cX] cZ bR 0 λc0=>i ((aO,bR,()),c0)))/\
 (Al ab (.cells ⟨alL⟩ 139) λaP G=>Ci G a 0 b/\
 Ci G a 1 c/\
 Ci G d 0 f/\
 Ci G d 1 g/\
 (gy b c Z aa G λc1 c2 c3=>Al c3 (.cells ⟨alL⟩ 139) λbS ai=>Ci ai a 0 b/\
 Ci ai a 1 c/\
 Ci ai d 0 f/\
 Ci ai d 1 g/\
 ig [.int .i64 n,.int .i64 o] ai bS 0 λc4=>ig [.int .i64 c1,.int .i64 c2] c4 aP 0 λc5=>i ((bS,aP,()),c5))/\
 (Al G (.cells ⟨alL⟩ 139) λbT aj=>Ci aj a 0 b/\
 Ci aj a 1 c/\
 Ci aj d 0 f/\
 Ci aj d 1 g/\
 gy b c Z aa aj λc6 c7 c8=>ig [.int .i64 n,.int .i64 o] c8 bT 0 λc9=>ig [.int .i64 c6,.int .i64 c7] c9 aP 0 λda=>i ((bT,aP,()),da))))/\
 (Al Y (.cells ⟨alL⟩ 139) λH I=>Ci I a 0 b/\
 Ci I a 1 c/\
 Ci I d 0 f/\
 Ci I d 1 g/\
 (iK h I λbU bV aQ=>Ci aQ a 0 b/\
 Ci aQ a 1 c/\
 (gy b c bU bV aQ λdb dc dd=>Al dd (.cells ⟨alL⟩ 139) λbW ak=>Ci ak a 0 b/\
 Ci ak a 1 c/\
 Ci ak d 0 f/\
 Ci ak d 1 g/\
 ig [.int .i64 n,.int .i64 o] ak H 0 λde=>ig [.int .i64 db,.int .i64 dc] de bW 0 λdf=>i ((H,bW,()),df))/\
 (Al aQ (.cells ⟨alL⟩ 139) λbX al=>Ci al a 0 b/\
 Ci al a 1 c/\
 Ci al d 0 f/\
 Ci al d 1 g/\
 gy b c bU bV al λdg dh di=>ig [.int .i64 n,.int .i64 o] di H 0 λdj=>ig [.int .i64 dg,.int .i64 dh] dj bX 0 λdk=>i ((H,bX,()),dk)))/\
 (Al I (.cells ⟨alL⟩ 139) λbY am=>Ci am a 0 b/\
 Ci am a 1 c/\
 Ci am d 0 f/\
 Ci am d 1 g/\
 iK h am λdl dm a8=>Ci a8 a 0 b/\
 Ci a8 a 1 c/\
 gy b c dl dm a8 λdn dp dq=>ig [.int .i64 n,.int .i64 o] dq H 0 λdr=>ig [.int .i64 dn,.int .i64 dp] dr bY 0 λds=>i ((H,bY,()),ds)))/\
 (Al Y (.cells ⟨alL⟩ 139) λJ L=>Ci L a 0 b/\
 Ci L a 1 c/\
 Ci L d 0 f/\
 Ci L d 1 g/\
 (iK h L λbZ b0 aR=>Ci aR a 0 b/\
 Ci aR a 1 c/\
 (gy b c bZ b0 aR λdt du dv=>Al dv (.cells ⟨alL⟩ 139) λb1 an=>Ci an a 0 b/\
 Ci an a 1 c/\
 Ci an d 0 f/\
 Ci an d 1 g/\
 ig [.int .i64 n,.int .i64 o] an b1 0 λdw=>ig [.int .i64 dt,.int .i64 du] dw J 0 λdx=>i ((b1,J,()),dx))/\
 (Al aR (.cells ⟨alL⟩ 139) λb2 ao=>Ci ao a 0 b/\
 Ci ao a 1 c/\
 Ci ao d 0 f/\
 Ci ao d 1 g/\
 gy b c bZ b0 ao λdy dz dA=>ig [.int .i64 n,.int .i64 o] dA b2 0 λdB=>ig [.int .i64 dy,.int .i64 dz] dB J 0 λdC=>i ((b2,J,()),dC)))/\
 (Al L (.cells ⟨alL⟩ 139) λb3 ap=>Ci ap a 0 b/\
 Ci ap a 1 c/\
 Ci ap d 0 f/\
 Ci ap d 1 g/\
 iK h ap λdD dE a9=>Ci a9 a 0 b/\
 Ci a9 a 1 c/\
 gy b c dD dE a9 λdF dG dH=>ig [.int .i64 n,.int .i64 o] dH b3 0 λdI=>ig [.int .i64 dF,.int .i64 dG] dI J 0 λdJ=>i ((b3,J,()),dJ))))/\
 (Al C (.cells ⟨alL⟩ 139) λv M=>Ci M a 0 b/\
 Ci M a 1 c/\
 Ci M d 0 f/\
 Ci M d 1 g/\
 (gy f g W X M λba bb aS=>Ci aS a 0 b/\
 Ci aS a 1 c/\
 (iK h aS λb4 b5 aT=>Ci aT a 0 b/\
 Ci aT a 1 c/\
 (gy b c b4 b5 aT λdK dL dM=>Al dM (.cells ⟨alL⟩ 139) λb6 aq=>Ci aq a 0 b/\
 Ci aq a 1 c/\
 Ci aq d 0 f/\
 Ci aq d 1 g/\
 ig [.int .i64 ba,.int .i64 bb] aq v 0 λdN=>ig [.int .i64 dK,.int .i64 dL] dN b6 0 λdO=>i ((v,b6,()),dO))/\
 (Al aT (.cells ⟨alL⟩ 139) λb7 ar=>Ci ar a 0 b/\
 Ci ar a 1 c/\
 Ci ar d 0 f/\
 Ci ar d 1 g/\
 gy b c b4 b5 ar λdP dQ dR=>ig [.int .i64 ba,.int .i64 bb] dR v 0 λdS=>ig [.int .i64 dP,.int .i64 dQ] dS b7 0 λdT=>i ((v,b7,()),dT)))/\
 (Al aS (.cells ⟨alL⟩ 139) λb8 au=>Ci au a 0 b/\
 Ci au a 1 c/\
 Ci au d 0 f/\
 Ci au d 1 g/\
 iK h au λdU dV bc=>Ci bc a 0 b/\
 Ci bc a 1 c/\
 gy b c dU dV bc λdW dX dY=>ig [.int .i64 ba,.int .i64 bb] dY v 0 λdZ=>ig [.int .i64 dW,.int .i64 dX] dZ b8 0 λd0=>i ((v,b8,()),d0)))/\
 (Al M (.cells ⟨alL⟩ 139) λb9 av=>Ci av a 0 b/\
 Ci av a 1 c/\
 Ci av d 0 f/\
 Ci av d 1 g/\
 gy f g W X av λd1 d2 bd=>Ci bd a 0 b/\
 Ci bd a 1 c/\
 iK h bd λd3 d4 be=>Ci be a 0 b/\
 Ci be a 1 c/\
 gy b c d3 d4 be λd5 d6 d7=>ig [.int .i64 d1,.int .i64 d2] d7 v 0 λd8=>ig [.int .i64 d5,.int .i64 d6] d8 b9 0 λd9=>i ((v,b9,()),d9)))/\
 (Al C (.cells ⟨alL⟩ 139) λx N=>Ci N a 0 b/\
 Ci N a 1 c/\
 Ci N d 0 f/\
 Ci N d 1 g/\
 (gy f g W X N λbf bg aU=>Ci aU a 0 b/\
 Ci aU a 1 c/\
 (iK h aU λca cb aV=>Ci aV a 0 b/\
 Ci aV a 1 c/\
 (gy b c ca cb aV λea eb ec=>Al ec (.cells ⟨alL⟩ 139) λcc aw=>Ci aw a 0 b/\
 Ci aw a 1 c/\
 Ci aw d 0 f/\
 Ci aw d 1 g/\
 ig [.int .i64 bf,.int .i64 bg] aw cc 0 λed=>ig [.int .i64 ea,.int .i64 eb] ed x 0 λee=>i ((cc,x,()),ee))/\
 (Al aV (.cells ⟨alL⟩ 139) λcd ax=>Ci ax a 0 b/\
 Ci ax a 1 c/\
 Ci ax d 0 f/\
 Ci ax d 1 g/\
 gy b c ca cb ax λef eg eh=>ig [.int .i64 bf,.int .i64 bg] eh cd 0 λei=>ig [.int .i64 ef,.int .i64 eg] ei x 0 λej=>i ((cd,x,()),ej)))/\
 (Al aU (.cells ⟨alL⟩ 139) λce ay=>Ci ay a 0 b/\
 Ci ay a 1 c/\
 Ci ay d 0 f/\
 Ci ay d 1 g/\
 iK h ay λek el bh=>Ci bh a 0 b/\
 Ci bh a 1 c/\
 gy b c ek el bh λem en eo=>ig [.int .i64 bf,.int .i64 bg] eo ce 0 λep=>ig [.int .i64 em,.int .i64 en] ep x 0 λeq=>i ((ce,x,()),eq)))/\
 (Al N (.cells ⟨alL⟩ 139) λcf az=>Ci az a 0 b/\
 Ci az a 1 c/\
 Ci az d 0 f/\
 Ci az d 1 g/\
 gy f g W X az λer es bi=>Ci bi a 0 b/\
 Ci bi a 1 c/\
 iK h bi λet eu bj=>Ci bj a 0 b/\
 Ci bj a 1 c/\
 gy b c et eu bj λev ew ex=>ig [.int .i64 er,.int .i64 es] ex cf 0 λey=>ig [.int .i64 ev,.int .i64 ew] ey x 0 λez=>i ((cf,x,()),ez))))/\
 (Al w.drew (.cells ⟨alL⟩ 139) λq O=>Ci O a 0 b/\
 Ci O a 1 c/\
 Ci O d 0 f/\
 Ci O d 1 g/\
 (kM h O λcg ch P=>Ci P a 0 b/\
 Ci P a 1 c/\
 Ci P d 0 f/\
 Ci P d 1 g/\
 (gy f g cg ch P λbk bl aW=>Ci aW a 0 b/\
 Ci aW a 1 c/\
 (iK h aW λci cj aX=>Ci aX a 0 b/\
 Ci aX a 1 c/\
 (gy b c ci cj aX λeA eB eC=>Al eC (.cells ⟨alL⟩ 139) λck aA=>Ci aA a 0 b/\
 Ci aA a 1 c/\
 Ci aA d 0 f/\
 Ci aA d 1 g/\
 ig [.int .i64 bk,.int .i64 bl] aA q 0 λeD=>ig [.int .i64 eA,.int .i64 eB] eD ck 0 λeE=>i ((q,ck,()),eE))/\
 (Al aX (.cells ⟨alL⟩ 139) λcl aB=>Ci aB a 0 b/\
 Ci aB a 1 c/\
 Ci aB d 0 f/\
 Ci aB d 1 g/\
 gy b c ci cj aB λeF eG eH=>ig [.int .i64 bk,.int .i64 bl] eH q 0 λeI=>ig [.int .i64 eF,.int .i64 eG] eI cl 0 λeJ=>i ((q,cl,()),eJ)))/\
 (Al aW (.cells ⟨alL⟩ 139) λcm aC=>Ci aC a 0 b/\
 Ci aC a 1 c/\
 Ci aC d 0 f/\
 Ci aC d 1 g/\
 iK h aC λeK eL bm=>Ci bm a 0 b/\
 Ci bm a 1 c/\
 gy b c eK eL bm λeM eN eO=>ig [.int .i64 bk,.int .i64 bl] eO q 0 λeP=>ig [.int .i64 eM,.int .i64 eN] eP cm 0 λeQ=>i ((q,cm,()),eQ)))/\
 (Al P (.cells ⟨alL⟩ 139) λcn aD=>Ci aD a 0 b/\
 Ci aD a 1 c/\
 Ci aD d 0 f/\
 Ci aD d 1 g/\
 gy f g cg ch aD λeR eS bn=>Ci bn a 0 b/\
 Ci bn a 1 c/\
 iK h bn λeT eU bo=>Ci bo a 0 b/\
 Ci bo a 1 c/\
 gy b c eT eU bo λeV eW eX=>ig [.int .i64 eR,.int .i64 eS] eX q 0 λeY=>ig [.int .i64 eV,.int .i64 eW] eY cn 0 λeZ=>i ((q,cn,()),eZ)))/\
 (Al O (.cells ⟨alL⟩ 139) λco aE=>Ci aE a 0 b/\
 Ci aE a 1 c/\
 Ci aE d 0 f/\
 Ci aE d 1 g/\
 kM h aE λe0 e1 aF=>Ci aF a 0 b/\
 Ci aF a 1 c/\
 Ci aF d 0 f/\
 Ci aF d 1 g/\
 gy f g e0 e1 aF λe2 e3 bp=>Ci bp a 0 b/\
 Ci bp a 1 c/\
 iK h bp λe4 e5 bq=>Ci bq a 0 b/\
 Ci bq a 1 c/\
 gy b c e4 e5 bq λe6 e7 e8=>ig [.int .i64 e2,.int .i64 e3] e8 q 0 λe9=>ig [.int .i64 e6,.int .i64 e7] e9 co 0 λfa=>i ((q,co,()),fa)))/\
 (Al w.drew (.cells ⟨alL⟩ 139) λr Q=>Ci Q a 0 b/\
 Ci Q a 1 c/\
 Ci Q d 0 f/\
 Ci Q d 1 g/\
 (kM h Q λcp cq R=>Ci R a 0 b/\
 Ci R a 1 c/\
 Ci R d 0 f/\
 Ci R d 1 g/\
 (gy f g cp cq R λbr bs aY=>Ci aY a 0 b/\
 Ci aY a 1 c/\
 (iK h aY λcr cs aZ=>Ci aZ a 0 b/\
 Ci aZ a 1 c/\
 (gy b c cr cs aZ λfb fc fd=>Al fd (.cells ⟨alL⟩ 139) λct aG=>Ci aG a 0 b/\
 Ci aG a 1 c/\
 Ci aG d 0 f/\
 Ci aG d 1 g/\
 ig [.int .i64 br,.int .i64 bs] aG ct 0 λfe=>ig [.int .i64 fb,.int .i64 fc] fe r 0 λff=>i ((ct,r,()),ff))/\
 (Al aZ (.cells ⟨alL⟩ 139) λcu aH=>Ci aH a 0 b/\
 Ci aH a 1 c/\
 Ci aH d 0 f/\
 Ci aH d 1 g/\
 gy b c cr cs aH λfg fh fi=>ig [.int .i64 br,.int .i64 bs] fi cu 0 λfj=>ig [.int .i64 fg,.int .i64 fh] fj r 0 λfk=>i ((cu,r,()),fk)))/\
 (Al aY (.cells ⟨alL⟩ 139) λcv aI=>Ci aI a 0 b/\
 Ci aI a 1 c/\
 Ci aI d 0 f/\
 Ci aI d 1 g/\
 iK h aI λfl fm bt=>Ci bt a 0 b/\
 Ci bt a 1 c/\
 gy b c fl fm bt λfn fo fp=>ig [.int .i64 br,.int .i64 bs] fp cv 0 λfq=>ig [.int .i64 fn,.int .i64 fo] fq r 0 λfr=>i ((cv,r,()),fr)))/\
 (Al R (.cells ⟨alL⟩ 139) λcw aJ=>Ci aJ a 0 b/\
 Ci aJ a 1 c/\
 Ci aJ d 0 f/\
 Ci aJ d 1 g/\
 gy f g cp cq aJ λfs ft bu=>Ci bu a 0 b/\
 Ci bu a 1 c/\
 iK h bu λfu fv bv=>Ci bv a 0 b/\
 Ci bv a 1 c/\
 gy b c fu fv bv λfw fx fy=>ig [.int .i64 fs,.int .i64 ft] fy cw 0 λfz=>ig [.int .i64 fw,.int .i64 fx] fz r 0 λfA=>i ((cw,r,()),fA)))/\
 (Al Q (.cells ⟨alL⟩ 139) λcx aK=>Ci aK a 0 b/\
 Ci aK a 1 c/\
 Ci aK d 0 f/\
 Ci aK d 1 g/\
 kM h aK λfB fC aL=>Ci aL a 0 b/\
 Ci aL a 1 c/\
 Ci aL d 0 f/\
 Ci aL d 1 g/\
 gy f g fB fC aL λfD fE bw=>Ci bw a 0 b/\
 Ci bw a 1 c/\
 iK h bw λfF fG bx=>Ci bx a 0 b/\
 Ci bx a 1 c/\
 gy b c fF fG bx λfH fI fJ=>ig [.int .i64 fD,.int .i64 fE] fJ cx 0 λfK=>ig [.int .i64 fH,.int .i64 fI] fK r 0 λfL=>i ((cx,r,()),fL)))))):=χ Tryz.func280 (fQ (fQ (.join [(7,.addr),(8,.addr)] .leaf .leaf)))
theorem qC {d e k l w K}:gB (jv d e k l w K)
 (iH (S:=Int×Unit) (λf m p=>(cond (decide (f.1<k)) (iH (S:=Int×Unit) (λa b q=>let n:Bool->b_:=λr c=>((cond r (iF d 3 (ο.wrap (a.1 - 1)) λg=>fM c.drew (g.add 0) λs=>fM c.drew (g.add 1) λt=>fM c.drew (g.add 2) λu=>iF d 3 a.1 λh=>fM c.drew (h.add 0) λv=>fM c.drew (h.add 1) λx=>fM c.drew (h.add 2) λy=>iF d 3 a.1 λz=>ig [.int .i64 s,.int .i64 t,.int .i64 u] c.drew z 0 λA=>iF d 3 (ο.wrap (a.1 - 1)) λB=>ig [.int .i64 v,.int .i64 x,.int .i64 y] A B 0 λC=>q ((ο.wrap (a.1 - 1)),()) C) (p ((ο.wrap (f.1+1)),()) c)))
 (cond (decide (a.1>e)) (iF d 3 a.1 λi=>fM b.drew (i.add 0) λD=>fM b.drew (i.add 1) λE=>fM b.drew (i.add 2) λF=>iF d 3 (ο.wrap (a.1 - 1)) λj=>fM b.drew (j.add 0) λG=>fM b.drew (j.add 1) λH=>fM b.drew (j.add 2) λI=>jB υ [.one ν] l [(Value.agg ⟨[.int .i64 D,.int .i64 E,.int .i64 F]⟩),(Value.agg ⟨[.int .i64 G,.int .i64 H,.int .i64 I]⟩)] b.drew λJ L=>∃o:Int,J=(Value.int .i64 o)/\
 n (decide (o<0)) L) (n false b.drew))) (f.1,()) m) (K m))) ((ο.wrap (e+1)),()) w):=χ Tryz.func282 (fQ (.blk (.loop [(8,ν)] (fQ (.seq (.blk (fQ (.blk (.loop [(9,ν)] .leaf)))) .leaf)))))
theorem LK {a w K}:gB (vV a w K)
 (let d:Int->Int->Prop:=λb e=>(let f:Int->Int->Prop:=λc g=>(let h:Int->Int->Prop:=λi j=>(adK (bs [0,1,2,2,3,3,3,3,4,4,4,4,4,4,4,4,5,5,5,5,5,5,5,5,5,5,5,5,5,5,5,5,6,6,6,6,6,6,6,6,6,6,6,6,6,6,6,6,6,6,6,6,6,6,6,6,6,6,6,6,6,6,6,6,7,7,7,7,7,7,7,7,7,7,7,7,7,7,7,7,7,7,7,7,7,7,7,7,7,7,7,7,7,7,7,7,7,7,7,7,7,7,7,7,7,7,7,7,7,7,7,7,7,7,7,7,7,7,7,7,7,7,7,7,7,7,7,7,8,8,8,8,8,8,8,8,8,8,8,8,8,8,8,8,8,8,8,8,8,8,8,8,8,8,8,8,8,8,8,8,8,8,8,8,8,8,8,8,8,8,8,8,8,8,8,8,8,8,8,8,8,8,8,8,8,8,8,8,8,8,8,8,8,8,8,8,8,8,8,8,8,8,8,8,8,8,8,8,8,8,8,8,8,8,8,8,8,8,8,8,8,8,8,8,8,8,8,8,8,8,8,8,8,8,8,8,8,8,8,8,8,8,8,8,8,8,8,8,8,8,8,8,8,8,8,8]) (IntKind.u8.wrap i) λk=>K (ο.wrap (j+(ο.wrap k))) w)
 (cond (decide (c>=256)) (0<=(8:Int)/\
 h (jy .u64 c 8) (ο.wrap (g+8))) (h c g)))
 (cond (decide (b>=65536)) (0<=(16:Int)/\
 f (jy .u64 b 16) (ο.wrap (e+16))) (f b e)))
 (cond (decide (a>=4294967296)) (0<=(32:Int)/\
 d (jy .u64 a 32) 32) (d a 0))):=χ Tryz.func291
theorem Tj {a0 f0 f1 w K}:gB (UQ a0 f0 f1 w K)
 (fM w f0 λe=>iH (S:=Int×Unit) (λa b f=>(cond (decide (a.1>=0)) (fM b f1 λg=>0<=(ο.wrap (8 * a.1))/\
 jB υ [.one .bool] a0 [(Value.int .u8 (IntKind.u8.wrap (jy .i64 g (ο.wrap (8 * a.1)))))] b λh c=>∃d:Bool,h=(Value.bool d)/\
 (cond (!d) (K c) (f ((ο.wrap (a.1 - 1)),()) c))) (K b))) ((ο.wrap (e - 1)),()) w):=χ Tryz.func292 (fQ (.blk (.loop [(4,ν)] .leaf)))
theorem O8 {b c d e f w K}:gB (gV b c d e f w K)
 (Al w (.cells ⟨[.slice b.a b.len b.cap,.int .i64 c,.int .i64 d]⟩ 378) λh g=>Ld .slice g h λi=>yw i e f g λj l k=>K j k):=χ Tryz.func293
theorem O5 {h b i e w K}:gB (uT h b i e w K)
 (Al w (.cells ⟨alV⟩ 401) λc j=>kJ h 1 b (ο.wrap (b+e)) λk=>gY k j λf l=>nY ⟨none,0,0⟩ i e l λg m=>ig [.int .i64 b,.slice f.a f.len f.cap,.slice g.a g.len g.cap] m c 0 λd=>fM d (c.add 0) λn=>Ld .slice d (c.add 1) λo=>Ld .slice d (c.add 2) λp=>K n o p d):=χ Tryz.func294
theorem Vo {f g h w K}:gB (wo f g h w K)
 (gY f w λi p=>iH (S:=fU×fU×Int×Unit) (λb d q=>(cond (decide (b.2.2.1<(h.len:Int))) (iF h 3 b.2.2.1 λj=>fM d (j.add 0) λr=>Ld .slice d (j.add 1) λk=>Ld .slice d (j.add 2) λl=>Al d (.cells ⟨alV⟩ 401) λc s=>ig [.int .i64 r,.slice k.a k.len k.cap,.slice l.a l.len l.cap] s c 0 λm=>fM m.drew c λt=>kJ i 1 t (i.len:Int) λu=>Ld .slice m.drew (c.add 2) λv=>Ac 1 u v m.drew λH n=>Ld .slice n.drew (c.add 1) λx=>Ld .slice n.drew (c.add 2) λe=>mW 5 1 1 [(Value.int .u8 0)] b.1 x n.drew λy o=>o.cell? (c.add 2)=some (.slice e.a e.len e.cap)/\
 mW 5 1 1 [(Value.int .u8 0)] b.2.1 e o λz A=>q (y,z,(ο.wrap (b.2.2.1+1)),()) A) (yw f g 2 d λB I C=>EU B b.1 b.2.1 C λD E=>yx i g D 2 E λF J G=>K F G))) (⟨none,0,0⟩,⟨none,0,0⟩,0,()) p):=χ Tryz.func295 (fQ (fQ (fQ (.seq (fQ (.blk (.loop [(8,.slice),(9,.slice),(18,ν)] .leaf))) .leaf))))
theorem Gj {f g h i j k l m n o p q r w K}:gB (r_ f g h i j k l m n o p q r w K)
 (Al w (.cells ⟨(nM f g h i j k l m n o p q r)⟩ 276) λc b=>Al b (.map #[] 0) λR t=>oP υ 3 (some b.heap.size) (Value.int .i64 17) (Value.int .i64 6) t λu=>oP υ 3 (some b.heap.size) (Value.int .i64 6) (Value.int .i64 16) u λv=>oP υ 3 (some b.heap.size) (Value.int .i64 1) (Value.int .i64 2) v λa=>fM a ((c.add 1).add 4) λx=>rP υ 3 ν (some b.heap.size) (Value.int .i64 x) (Value.int .i64 0) a λd=>let e:Bool->b_:=λy s=>((cond y (K (-1) s) (K d s)))
 Ld .slice a ((c.add 1).add 10) λz=>(cond (decide ((ο.wrap (d+2))>(z.len:Int))) (e true a) (fM a ((c.add 1).add 4) λA=>(cond (A==17) (tX a c λB C D E F G H I J L M N O=>jL B C D E F G H I J L M N O d a λP Q=>e (P==0) Q) (e false a))))):=χ Tryz.func296
theorem Yf {c d a b w K}:gB (rX c d a b w K)
 (Al w (.cells ⟨[.int .i64 c,.int .i64 d]⟩ 139) λe f=>iL (Value.int .i64 a)=true/\
 Al f (.cells ⟨[.int .i64 a]⟩ 3) λg h=>iL (Value.int .i64 b)=true/\
 Al h (.cells ⟨[.int .i64 b]⟩ 3) λi j=>K (Value.func (.func 309) #[] #[(Value.pointer (some g)),(Value.pointer (some e)),(Value.pointer (some i))]) j):=χ Tryz.func297
theorem NS {d e f g w K}:gB (gy d e f g w K)
 (Al w (.cells ⟨[.int .i64 d,.int .i64 e]⟩ 139) λh n=>Al n (.cells ⟨[.int .i64 f,.int .i64 g]⟩ 139) λi o=>Al o (.cells ⟨alL⟩ 139) λb a=>fM a h λj=>fM a i λk=>fM a (h.add 1) λl=>fM a (i.add 1) λm=>ig [.int .i64 (if k>j then k else j),.int .i64 (if m<l then m else l)] a b 0 λc=>fM c (b.add 0) λp=>fM c (b.add 1) λq=>K p q c):=χ Tryz.func298
theorem Vg {d w K}:gB (kM d w K)
 (Al w (.cells ⟨alL⟩ 139) λa e=>(cond (decide (d<1024)) (ig [.int .i64 0,.int .i64 1023] e a 0 λb=>fM b (a.add 0) λf=>fM b (a.add 1) λg=>K f g b) (ig [.int .i64 1024,.int .i64 65535] e a 0 λc=>fM c (a.add 0) λh=>fM c (a.add 1) λi=>K h i c))):=χ Tryz.func299
theorem Vh {d w K}:gB (iK d w K)
 (Al w (.cells ⟨alL⟩ 139) λa e=>(cond (decide (d<1024)) (kM 1024 e λf g h=>ig [.int .i64 f,.int .i64 g] h a 0 λb=>fM b (a.add 0) λi=>fM b (a.add 1) λj=>K i j b) (kM 0 e λk l m=>ig [.int .i64 k,.int .i64 l] m a 0 λc=>fM c (a.add 0) λn=>fM c (a.add 1) λo=>K n o c))):=χ Tryz.func300
theorem Vf {b c d w K}:gB (sS b c d w K)
 (Al w (.cells ⟨[.int .i64 b,.int .i64 c]⟩ 139) λe a=>fM a e λf=>fM a e λg=>K (ο.wrap (f+(kT .i64 (UE .i64 g d) 1))) a):=χ Tryz.func301
theorem VD {c h d w K}:gB (EU c h d w K)
 (let i:Bool->Prop:=λm=>((cond m (K 0 w) (Al w (.cells ⟨[.slice d.a d.len d.cap]⟩ 38) λn o=>BU ⟨(some n),1,1⟩ o λp q=>Al q (.cells ⟨[.int .i64 0]⟩ 3) λe r=>St r e (.int .i64 (ο.wrap ((ο.wrap (65535 - c))+p))) λs=>Es h s λt b=>zn υ none [.one ν,.one ν] t b (λf u g v=>g.heap[f]? =g.heap[f]? /\
 fM (gG g f) e λx=>St (gG g f) e (Value.int .i64 (ο.wrap (x+(ο.wrap (65535 - u.2.1))))) λy=>v .normal y)
 (λj=>fM j e λz=>EW z j λA k=>k.heap[b.heap.size]? =some (.deferred (some []))/\
 K (ο.wrap (65535 - A)) (k.putObj b.heap.size (.deferred none)))
 (λl=>l.heap[b.heap.size]? =some (.deferred (some []))/\
 K 0 (l.putObj b.heap.size (.deferred none)))
 [])))
 (cond (decide (c<0)) (i true) (i (decide (c>65535))))):=χ Tryz.func308 (fQ (fQ (fQ (.seq (fQ (.blk (.rng [.one ν,.one ν] .leaf .leaf))) .leaf))))
theorem TL {a0 f0 f1 f2 w K}:gB (UR a0 f0 f1 f2 w K)
 (fM w f0 λe=>iH (S:=Int×Unit) (λa b f=>fM b (f1.add 1) λg=>(cond (decide (a.1<=g)) (jB υ [.one .bool] a0 [(Value.int .i64 a.1)] b λh c=>∃d:Bool,h=(Value.bool d)/\
 (cond (!d) (K c) (fM c f2 λi=>f ((ο.wrap (a.1+i)),()) c))) (K b))) (e,()) w):=χ Tryz.func309 (fQ (.blk (.loop [(5,ν)] .leaf)))
end Go.Proofs
