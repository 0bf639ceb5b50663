import Derived.Test.YtcmnjlhbgjhbcaaGreatDoorW3
import Derived.Test.YtcmnjlhbgjhbcaaGreatDoorProg
import Derived.KernelRfl
set_option maxRecDepth 100000
set_option maxHeartbeats 4000000
namespace Go.Proofs
open Gp
abbrev eF:=Ld (.int .i64)
abbrev eH (T:Type):=Int->Int->Int->Int->Int->Int->Int->Int->T
abbrev eX (x:CY):CY:= .seq .leaf x
theorem iE:ET Tryz.prog:=ET.alo (by kernel_rfl) (by kernel_rfl)
@[reducible] def jo (e f g h i j k l m n o p q r s t:Int) (b c:eY) (u v w x y z A B C D E F G H I J K:Int) (d:eY):List Value:= .int .u8 e:: .int .u8 f:: .int .u8 g:: .int .u8 h:: .int .u8 i:: .int .u8 j:: .int .u8 k:: .int .u8 l:: .int .u8 m:: .int .u8 n:: .int .u8 o:: .int .u8 p:: .int .u8 q:: .int .u8 r:: .int .u8 s:: .int .u8 t:: .slice b.a b.len b.cap:: .slice c.a c.len c.cap:: .int .i64 u:: .int .i64 v:: .int .i64 w:: .int .i64 x:: .int .i64 y:: .int .i64 z:: .int .i64 A:: .int .i64 B:: .int .i64 C:: .int .i64 D:: .int .i64 E:: .int .i64 F:: .int .i64 G:: .int .i64 H:: .int .i64 I:: .int .i64 J:: .int .i64 K:: .slice d.a d.len d.cap::[]
@[reducible] def rX (w:World) (a:Addr) (K:eH (eH (eY->eY->Int->Int->Int->Int->Int->Int->Int->Int->Int->Int->Int->Int->Int->Int->Int->Int->Int->eY->Prop))):Prop:=Ld (.int .u8) w (a.add 0) λb=>Ld (.int .u8) w (a.add 1) λc=>Ld (.int .u8) w (a.add 2) λd=>Ld (.int .u8) w (a.add 3) λe=>Ld (.int .u8) w (a.add 4) λf=>Ld (.int .u8) w (a.add 5) λg=>Ld (.int .u8) w (a.add 6) λh=>Ld (.int .u8) w (a.add 7) λi=>Ld (.int .u8) w (a.add 8) λj=>Ld (.int .u8) w (a.add 9) λk=>Ld (.int .u8) w (a.add 10) λl=>Ld (.int .u8) w (a.add 11) λm=>Ld (.int .u8) w (a.add 12) λn=>Ld (.int .u8) w (a.add 13) λo=>Ld (.int .u8) w (a.add 14) λp=>Ld (.int .u8) w (a.add 15) λq=>Ld .slice w (a.add 16) λr=>Ld .slice w (a.add 17) λs=>Ld (.int .i64) w (a.add 18) λt=>Ld (.int .i64) w (a.add 19) λu=>Ld (.int .i64) w (a.add 20) λv=>Ld (.int .i64) w (a.add 21) λx=>Ld (.int .i64) w (a.add 22) λy=>Ld (.int .i64) w (a.add 23) λz=>Ld (.int .i64) w (a.add 24) λA=>Ld (.int .i64) w (a.add 25) λB=>Ld (.int .i64) w (a.add 26) λC=>Ld (.int .i64) w (a.add 27) λD=>Ld (.int .i64) w (a.add 28) λE=>Ld (.int .i64) w (a.add 29) λF=>Ld (.int .i64) w (a.add 30) λG=>Ld (.int .i64) w (a.add 31) λH=>Ld (.int .i64) w (a.add 32) λI=>Ld (.int .i64) w (a.add 33) λJ=>Ld (.int .i64) w (a.add 34) λL=>Ld .slice w (a.add 35) λM=>K b c d e f g h i j k l m n o p q r s t u v x y z A B C D E F G H I J L M
@[reducible] def ami (e f:eG) (g h i j k l m n o p q r s t u v:Int) (b c:eY) (w x y z A B C D E F G H I J K L M:Int) (d:eY) (N O:eG) (P Q:Int):List Value:= .pointer e:: .pointer f:: .int .u8 g:: .int .u8 h:: .int .u8 i:: .int .u8 j:: .int .u8 k:: .int .u8 l:: .int .u8 m:: .int .u8 n:: .int .u8 o:: .int .u8 p:: .int .u8 q:: .int .u8 r:: .int .u8 s:: .int .u8 t:: .int .u8 u:: .int .u8 v:: .slice b.a b.len b.cap:: .slice c.a c.len c.cap:: .int .i64 w:: .int .i64 x:: .int .i64 y:: .int .i64 z:: .int .i64 A:: .int .i64 B:: .int .i64 C:: .int .i64 D:: .int .i64 E:: .int .i64 F:: .int .i64 G:: .int .i64 H:: .int .i64 I:: .int .i64 J:: .int .i64 K:: .int .i64 L:: .int .i64 M:: .slice d.a d.len d.cap:: .pointer N:: .pointer O:: .int .i64 P:: .int .i64 Q::[]
abbrev CZ:List Kind:=(.int .i64)::(.int .i64)::(.int .i64)::(.int .i64)::(.int .i64)::(.int .i64)::(.int .i64):: .bool:: .bool:: .slice:: .slice::[]
@[reducible] def fG (d e f g h i j:Int) (k l:Bool) (b c:eY):List Value:= .int .i64 d:: .int .i64 e:: .int .i64 f:: .int .i64 g:: .int .i64 h:: .int .i64 i:: .int .i64 j:: .bool k:: .bool l:: .slice b.a b.len b.cap:: .slice c.a c.len c.cap::[]
@[reducible] def gI (w:World) (a:Addr) (K:Int->Int->Int->Int->Int->Int->Int->Bool->Bool->eY->eY->Prop):Prop:=Ld (.int .i64) w (a.add 0) λb=>Ld (.int .i64) w (a.add 1) λc=>Ld (.int .i64) w (a.add 2) λd=>Ld (.int .i64) w (a.add 3) λe=>Ld (.int .i64) w (a.add 4) λf=>Ld (.int .i64) w (a.add 5) λg=>Ld (.int .i64) w (a.add 6) λh=>Ld .bool w (a.add 7) λi=>Ld .bool w (a.add 8) λj=>Ld .slice w (a.add 9) λk=>Ld .slice w (a.add 10) λl=>K b c d e f g h i j k l
abbrev abz:List Kind:=(.int .u8)::(.int .u8)::(.int .u8)::(.int .u8)::(.int .u8)::(.int .u8)::(.int .u8)::(.int .u8)::(.int .u8)::(.int .u8)::(.int .u8)::(.int .u8)::(.int .u8)::(.int .u8)::(.int .u8)::(.int .u8)::[]
@[reducible] def nK (a b c d e f g h i j k l m n o p:Int):List Value:= .int .u8 a:: .int .u8 b:: .int .u8 c:: .int .u8 d:: .int .u8 e:: .int .u8 f:: .int .u8 g:: .int .u8 h:: .int .u8 i:: .int .u8 j:: .int .u8 k:: .int .u8 l:: .int .u8 m:: .int .u8 n:: .int .u8 o:: .int .u8 p::[]
@[reducible] def uT (w:World) (a:Addr) (K:eH (eH (Prop))):Prop:=Ld (.int .u8) w (a.add 0) λb=>Ld (.int .u8) w (a.add 1) λc=>Ld (.int .u8) w (a.add 2) λd=>Ld (.int .u8) w (a.add 3) λe=>Ld (.int .u8) w (a.add 4) λf=>Ld (.int .u8) w (a.add 5) λg=>Ld (.int .u8) w (a.add 6) λh=>Ld (.int .u8) w (a.add 7) λi=>Ld (.int .u8) w (a.add 8) λj=>Ld (.int .u8) w (a.add 9) λk=>Ld (.int .u8) w (a.add 10) λl=>Ld (.int .u8) w (a.add 11) λm=>Ld (.int .u8) w (a.add 12) λn=>Ld (.int .u8) w (a.add 13) λo=>Ld (.int .u8) w (a.add 14) λp=>Ld (.int .u8) w (a.add 15) λq=>K b c d e f g h i j k l m n o p q
@[reducible] def akg (e f g h i:eG) (j k l m n o p q r s t u v w x y:Int) (b c:eY) (z A B C D E F G H I J K L M N O P:Int) (d:eY) (Q:Int):List Value:= .pointer e:: .pointer f:: .pointer g:: .pointer h:: .pointer i:: .int .u8 j:: .int .u8 k:: .int .u8 l:: .int .u8 m:: .int .u8 n:: .int .u8 o:: .int .u8 p:: .int .u8 q:: .int .u8 r:: .int .u8 s:: .int .u8 t:: .int .u8 u:: .int .u8 v:: .int .u8 w:: .int .u8 x:: .int .u8 y:: .slice b.a b.len b.cap:: .slice c.a c.len c.cap:: .int .i64 z:: .int .i64 A:: .int .i64 B:: .int .i64 C:: .int .i64 D:: .int .i64 E:: .int .i64 F:: .int .i64 G:: .int .i64 H:: .int .i64 I:: .int .i64 J:: .int .i64 K:: .int .i64 L:: .int .i64 M:: .int .i64 N:: .int .i64 O:: .int .i64 P:: .slice d.a d.len d.cap:: .int .i64 Q::[]
@[reducible] def akh (a b c d e f g:Int) (h i:Bool):List Value:= .int .i64 a:: .int .i64 b:: .int .i64 c:: .int .i64 d:: .int .i64 e:: .int .i64 f:: .int .i64 g:: .bool h:: .bool i::[]
@[reducible] def anY (w:World) (a:Addr) (K:Int->Int->Int->Int->Int->Int->Int->Bool->Bool->Prop):Prop:=Ld (.int .i64) w (a.add 0) λb=>Ld (.int .i64) w (a.add 1) λc=>Ld (.int .i64) w (a.add 2) λd=>Ld (.int .i64) w (a.add 3) λe=>Ld (.int .i64) w (a.add 4) λf=>Ld (.int .i64) w (a.add 5) λg=>Ld (.int .i64) w (a.add 6) λh=>Ld .bool w (a.add 7) λi=>Ld .bool w (a.add 8) λj=>K b c d e f g h i j
@[reducible] def amj (a b c d e f g h i j k l m n o p q r s t u v w x y z A B C D E F G H I J K L M N O P Q R S T U V W X Y Z aa ab ac ad ae:Int):List Value:= .int .i64 a:: .int .i64 b:: .int .i64 c:: .int .i64 d:: .int .i64 e:: .int .i64 f:: .int .i64 g:: .int .i64 h:: .int .i64 i:: .int .i64 j:: .int .i64 k:: .int .i64 l:: .int .i64 m:: .int .i64 n:: .int .i64 o:: .int .i64 p:: .int .i64 q:: .int .i64 r:: .int .i64 s:: .int .i64 t:: .int .i64 u:: .int .i64 v:: .int .i64 w:: .int .i64 x:: .int .i64 y:: .int .i64 z:: .int .i64 A:: .int .i64 B:: .int .i64 C:: .int .i64 D:: .int .i64 E:: .int .i64 F:: .int .i64 G:: .int .i64 H:: .int .i64 I:: .int .i64 J:: .int .i64 K:: .int .i64 L:: .int .i64 M:: .int .i64 N:: .int .i64 O:: .int .i64 P:: .int .i64 Q:: .int .i64 R:: .int .i64 S:: .int .i64 T:: .int .i64 U:: .int .i64 V:: .int .i64 W:: .int .i64 X:: .int .i64 Y:: .int .i64 Z:: .int .i64 aa:: .int .i64 ab:: .int .i64 ac:: .int .i64 ad:: .int .i64 ae::[]
abbrev ame:List Kind:=(.int .i64)::(.int .i64)::(.int .i64)::(.int .i64)::(.int .i64)::(.int .i64)::(.int .i64)::(.int .i64):: .slice:: .slice::[]
@[reducible] def xG (d e f g h i j k:Int) (b c:eY):List Value:= .int .i64 d:: .int .i64 e:: .int .i64 f:: .int .i64 g:: .int .i64 h:: .int .i64 i:: .int .i64 j:: .int .i64 k:: .slice b.a b.len b.cap:: .slice c.a c.len c.cap::[]
@[reducible] def Ip (w:World) (a:Addr) (K:Int->Int->Int->Int->Int->Int->Int->Int->eY->eY->Prop):Prop:=Ld (.int .i64) w (a.add 0) λb=>Ld (.int .i64) w (a.add 1) λc=>Ld (.int .i64) w (a.add 2) λd=>Ld (.int .i64) w (a.add 3) λe=>Ld (.int .i64) w (a.add 4) λf=>Ld (.int .i64) w (a.add 5) λg=>Ld (.int .i64) w (a.add 6) λh=>Ld (.int .i64) w (a.add 7) λi=>Ld .slice w (a.add 8) λj=>Ld .slice w (a.add 9) λk=>K b c d e f g h i j k
@[reducible] def akf (a b c d e f g h i j k l m n o p q r s t:Int):List Value:= .int .i64 a:: .int .i64 b:: .int .i64 c:: .int .i64 d:: .int .i64 e:: .int .i64 f:: .int .i64 g:: .int .i64 h:: .int .i64 i:: .int .i64 j:: .int .i64 k:: .int .i64 l:: .int .i64 m:: .int .i64 n:: .int .i64 o:: .int .i64 p:: .int .i64 q:: .int .i64 r:: .int .i64 s:: .int .i64 t::[]
abbrev amf:List Kind:= .slice::(.int .i64)::(.int .i64)::(.int .i64)::(.int .i64)::(.int .i64)::(.int .i64)::(.int .i64):: .bool:: .bool:: .slice:: .slice::(.int .i64)::[]
@[reducible] def zU (b:eY) (e f g h i j k:Int) (l m:Bool) (c d:eY) (n:Int):List Value:= .slice b.a b.len b.cap:: .int .i64 e:: .int .i64 f:: .int .i64 g:: .int .i64 h:: .int .i64 i:: .int .i64 j:: .int .i64 k:: .bool l:: .bool m:: .slice c.a c.len c.cap:: .slice d.a d.len d.cap:: .int .i64 n::[]
@[reducible] def EP (w:World) (a:Addr) (K:eY->Int->Int->Int->Int->Int->Int->Int->Bool->Bool->eY->eY->Int->Prop):Prop:=Ld .slice w (a.add 0) λb=>Ld (.int .i64) w (a.add 1) λc=>Ld (.int .i64) w (a.add 2) λd=>Ld (.int .i64) w (a.add 3) λe=>Ld (.int .i64) w (a.add 4) λf=>Ld (.int .i64) w (a.add 5) λg=>Ld (.int .i64) w (a.add 6) λh=>Ld (.int .i64) w (a.add 7) λi=>Ld .bool w (a.add 8) λj=>Ld .bool w (a.add 9) λk=>Ld .slice w (a.add 10) λl=>Ld .slice w (a.add 11) λm=>Ld (.int .i64) w (a.add 12) λn=>K b c d e f g h i j k l m n
def Aa (c d e f g h i j k l m n o p q r:Int) (s t:eY) (u v x y z A B C D E F G H I J L M:Int) (N b:eY) (w:World) (K:Bool->b_):Prop:=
 fA Tryz.prog 3 [.agg ⟨jo c d e f g h i j k l m n o p q r s t u v x y z A B C D E F G H I J L M N⟩,.slice b.a b.len b.cap] [.one .bool] w K
def Ce (a b c d e f g h i j k l m n o p:Int) (q r:eY) (s t u v x y z A B C D E F G H I J:Int) (L:eY) (w:World) (K:Bool->b_):Prop:=
 fA Tryz.prog 4 [.agg ⟨jo a b c d e f g h i j k l m n o p q r s t u v x y z A B C D E F G H I J L⟩] [.one .bool] w K
def xR (b:eY) (c d:Int) (w:World) (K:Bool->b_):Prop:=
 fA Tryz.prog 5 [.slice b.a b.len b.cap,.int .i64 c,.int .i64 d] [.one .bool] w K
theorem V9 {a b c w K d}:xR a b c w K->(∀e w,K e w->d e w)->xR a b c w d:=fA.mono
def pF (w:World) (K:Bool->b_):Prop:=
 fA Tryz.prog 6 [] [.one .bool] w K
theorem Fg {w K a}:pF w K->(∀b w,K b w->a b w)->pF w a:=fA.mono
def zV (a b c d e f g h i j k l m n o p:Int) (q r:eY) (s t u v x y z A B C D E F G H I J:Int) (L:eY) (w:World) (K:(eG)->Int->b_):Prop:=
 fA Tryz.prog 7 [.agg ⟨jo a b c d e f g h i j k l m n o p q r s t u v x y z A B C D E F G H I J L⟩] [.one .ptr,.one (.int .i64)] w K
theorem Yj {a b c d e f g h i j k l m n o p q r s t u v x y z A B C D E F G H I J L w K M}:zV a b c d e f g h i j k l m n o p q r s t u v x y z A B C D E F G H I J L w K->(∀N O w,K N O w->M N O w)->zV a b c d e f g h i j k l m n o p q r s t u v x y z A B C D E F G H I J L w M:=fA.mono
def yI (c:eG) (b:eY) (w:World) (K:eY->Int->b_):Prop:=
 fA Tryz.prog 8 [.pointer c,.slice b.a b.len b.cap] [.one .slice,.one (.int .i64)] w K
def n_ (a:eG) (w:World) (K:Int->eY->eY->Int->Int->Int->eY->b_):Prop:=
 fA Tryz.prog 9 [.pointer a] [.agg [(.int .i64),.slice,.slice,(.int .i64),(.int .i64),(.int .i64),.slice]] w K
theorem KG {a w K b}:n_ a w K->(∀c d e f g h i w,K c d e f g h i w->b c d e f g h i w)->n_ a w b:=fA.mono
def sF (a b c d e f g h i j k l m n o p:Int) (q r:eY) (s t u v x y z A B C D E F G H I J:Int) (L:eY) (w:World) (K:Bool->b_):Prop:=
 fA Tryz.prog 10 [.agg ⟨jo a b c d e f g h i j k l m n o p q r s t u v x y z A B C D E F G H I J L⟩] [.one .bool] w K
theorem Qk {a b c d e f g h i j k l m n o p q r s t u v x y z A B C D E F G H I J L w K M}:sF a b c d e f g h i j k l m n o p q r s t u v x y z A B C D E F G H I J L w K->(∀N w,K N w->M N w)->sF a b c d e f g h i j k l m n o p q r s t u v x y z A B C D E F G H I J L w M:=fA.mono
def sG (a b c d e f g h i j k l m n o p:Int) (q r:eY) (s t u v x y z A B C D E F G H I J:Int) (L:eY) (w:World) (K:Int->b_):Prop:=
 fA Tryz.prog 11 [.agg ⟨jo a b c d e f g h i j k l m n o p q r s t u v x y z A B C D E F G H I J L⟩] [.one (.int .i64)] w K
theorem Ql {a b c d e f g h i j k l m n o p q r s t u v x y z A B C D E F G H I J L w K M}:sG a b c d e f g h i j k l m n o p q r s t u v x y z A B C D E F G H I J L w K->(∀N w,K N w->M N w)->sG a b c d e f g h i j k l m n o p q r s t u v x y z A B C D E F G H I J L w M:=fA.mono
def nM (b:eY) (c:Value) (w:World) (K:Bool->b_):Prop:=
 fA Tryz.prog 12 [.slice b.a b.len b.cap,c] [.one .bool] w K
def TK (b:eY) (c:Addr) (w:World) (K:Bool->b_):Prop:=
 fA Tryz.prog 13 [.slice b.a b.len b.cap,(.pointer (some c))] [.one .bool] w K
def Jc (a b c d e f g h i j k l m n o p:Int) (q r:eY) (s t u v x y z A B C D E F G H I J:Int) (L:eY) (w:World) (K:(eG)->Int->b_):Prop:=
 fA Tryz.prog 18 [.agg ⟨jo a b c d e f g h i j k l m n o p q r s t u v x y z A B C D E F G H I J L⟩] [.one .ptr,.one (.int .i64)] w K
def uY (w:World) (K:(eG)->b_):Prop:=
 fA Tryz.prog 19 [] [.one .ptr] w K
theorem TN {w K a}:uY w K->(∀b w,K b w->a b w)->uY w a:=fA.mono
def ug (a b c:Int) (w:World) (K:(eG)->Int->b_):Prop:=
 fA Tryz.prog 20 [.int .i64 a,.int .i64 b,.int .i64 c] [.one .ptr,.one (.int .i64)] w K
theorem Fe {a b c w K d}:ug a b c w K->(∀e f w,K e f w->d e f w)->ug a b c w d:=fA.mono
def kG (a:eG) (w:World) (K:Bool->b_):Prop:=
 fA Tryz.prog 21 [.pointer a] [.one .bool] w K
theorem Ap {a w K b}:kG a w K->(∀c w,K c w->b c w)->kG a w b:=fA.mono
def wL (b:eY) (w:World) (K:Int->Int->Int->Int->Int->Int->Int->Bool->Bool->eY->eY->Int->b_):Prop:=
 fA Tryz.prog 22 [.slice b.a b.len b.cap] [.agg CZ,.one (.int .i64)] w K
theorem N7 {a w K b}:wL a w K->(∀c d e f g h i j k l m n w,K c d e f g h i j k l m n w->b c d e f g h i j k l m n w)->wL a w b:=fA.mono
def ji (a:eG) (b:Int) (w:World) (K:eY->Int->b_):Prop:=
 fA Tryz.prog 23 [.pointer a,.int .i64 b] [.one .slice,.one (.int .i64)] w K
theorem BF {a b w K c}:ji a b w K->(∀d e w,K d e w->c d e w)->ji a b w c:=fA.mono
def mQ (a:eG) (b:Int) (w:World) (K:Bool->b_):Prop:=
 fA Tryz.prog 24 [.pointer a,.int .i64 b] [.one .bool] w K
theorem Ji {a b w K c}:mQ a b w K->(∀d w,K d w->c d w)->mQ a b w c:=fA.mono
def uV (a:eG) (b c d e f g h i:Int) (j k:Bool) (l m:eY) (w:World) (K:Int->Int->Int->Int->Int->Int->Int->Bool->Bool->eY->eY->Int->Bool->b_):Prop:=
 fA Tryz.prog 25 [.pointer a,.int .i64 b,.agg ⟨fG c d e f g h i j k l m⟩] [.agg CZ,.one (.int .i64),.one .bool] w K
def rG (a:eG) (b c d e f g h:Int) (i j:Bool) (k l:eY) (m:Bool) (w:World) (K:eY->Int->b_):Prop:=
 fA Tryz.prog 26 [.pointer a,.agg ⟨fG b c d e f g h i j k l⟩,.bool m] [.one .slice,.one (.int .i64)] w K
def uh (a:eG) (w:World) (K:Int->eY->eY->Int->Int->Int->eY->b_):Prop:=
 fA Tryz.prog 27 [.pointer a] [.agg [(.int .i64),.slice,.slice,(.int .i64),(.int .i64),(.int .i64),.slice]] w K
def jD (a:eG) (w:World) (K:Int->b_):Prop:=
 fA Tryz.prog 28 [.pointer a] [.one (.int .i64)] w K
theorem rO {a w K b}:jD a w K->(∀c w,K c w->b c w)->jD a w b:=fA.mono
def jO (a:eG) (w:World) (K:Int->b_):Prop:=
 fA Tryz.prog 29 [.pointer a] [.one (.int .i64)] w K
theorem uq {a w K b}:jO a w K->(∀c w,K c w->b c w)->jO a w b:=fA.mono
def j_ (a:eG) (w:World) (K:eY->b_):Prop:=
 fA Tryz.prog 30 [.pointer a] [.one .slice] w K
theorem EG {a w K b}:j_ a w K->(∀c w,K c w->b c w)->j_ a w b:=fA.mono
def o7 (a b c d e f g h i j k l m n o p:Int) (q r:eY) (s t u v x y z A B C D E F G H I J:Int) (L:eY) (w:World) (K:Bool->b_):Prop:=
 fA Tryz.prog 31 [.agg ⟨jo a b c d e f g h i j k l m n o p q r s t u v x y z A B C D E F G H I J L⟩] [.one .bool] w K
theorem MV {a b c d e f g h i j k l m n o p q r s t u v x y z A B C D E F G H I J L w K M}:o7 a b c d e f g h i j k l m n o p q r s t u v x y z A B C D E F G H I J L w K->(∀N w,K N w->M N w)->o7 a b c d e f g h i j k l m n o p q r s t u v x y z A B C D E F G H I J L w M:=fA.mono
def sH (a b c d e f g h i j k l m n o p:Int) (q r:eY) (s t u v x y z A B C D E F G H I J:Int) (L:eY) (w:World) (K:Bool->b_):Prop:=
 fA Tryz.prog 32 [.agg ⟨jo a b c d e f g h i j k l m n o p q r s t u v x y z A B C D E F G H I J L⟩] [.one .bool] w K
theorem Qm {a b c d e f g h i j k l m n o p q r s t u v x y z A B C D E F G H I J L w K M}:sH a b c d e f g h i j k l m n o p q r s t u v x y z A B C D E F G H I J L w K->(∀N w,K N w->M N w)->sH a b c d e f g h i j k l m n o p q r s t u v x y z A B C D E F G H I J L w M:=fA.mono
def sJ (a b c d e f g h i j k l m n o p:Int) (q r:eY) (s t u v x y z A B C D E F G H I J:Int) (L:eY) (w:World) (K:Bool->b_):Prop:=
 fA Tryz.prog 33 [.agg ⟨jo a b c d e f g h i j k l m n o p q r s t u v x y z A B C D E F G H I J L⟩] [.one .bool] w K
theorem Qn {a b c d e f g h i j k l m n o p q r s t u v x y z A B C D E F G H I J L w K M}:sJ a b c d e f g h i j k l m n o p q r s t u v x y z A B C D E F G H I J L w K->(∀N w,K N w->M N w)->sJ a b c d e f g h i j k l m n o p q r s t u v x y z A B C D E F G H I J L w M:=fA.mono
def o9 (b:eY) (c:Value) (w:World) (K:Int->b_):Prop:=
 fA Tryz.prog 34 [.slice b.a b.len b.cap,c] [.one (.int .i64)] w K
def qw (a b c d e f g h i j k l m n o p:Int) (q r:eY) (s t u v x y z A B C D E F G H I J:Int) (L:eY) (w:World) (K:Int->b_):Prop:=
 fA Tryz.prog 45 [.agg ⟨jo a b c d e f g h i j k l m n o p q r s t u v x y z A B C D E F G H I J L⟩] [.one (.int .i64)] w K
theorem OT {a b c d e f g h i j k l m n o p q r s t u v x y z A B C D E F G H I J L w K M}:qw a b c d e f g h i j k l m n o p q r s t u v x y z A B C D E F G H I J L w K->(∀N w,K N w->M N w)->qw a b c d e f g h i j k l m n o p q r s t u v x y z A B C D E F G H I J L w M:=fA.mono
def Ad (b:eY) (c d:Int) (w:World) (K:(eG)->Int->b_):Prop:=
 fA Tryz.prog 46 [.slice b.a b.len b.cap,.int .i64 c,.int .i64 d] [.one .ptr,.one (.int .i64)] w K
theorem Yn {a b c w K d}:Ad a b c w K->(∀e f w,K e f w->d e f w)->Ad a b c w d:=fA.mono
def xX (a b:Int) (w:World) (K:(eG)->Int->b_):Prop:=
 fA Tryz.prog 47 [.int .i64 a,.int .i64 b] [.one .ptr,.one (.int .i64)] w K
theorem V_ {a b w K c}:xX a b w K->(∀d e w,K d e w->c d e w)->xX a b w c:=fA.mono
def zX (a:Int) (w:World) (K:(eG)->Int->b_):Prop:=
 fA Tryz.prog 48 [.int .i64 a] [.one .ptr,.one (.int .i64)] w K
theorem Yk {a w K b}:zX a w K->(∀c d w,K c d w->b c d w)->zX a w b:=fA.mono
def sK (a:Int) (w:World) (K:(eG)->Int->b_):Prop:=
 fA Tryz.prog 49 [.int .i64 a] [.one .ptr,.one (.int .i64)] w K
theorem Qo {a w K b}:sK a w K->(∀c d w,K c d w->b c d w)->sK a w b:=fA.mono
def yg (a:Int) (w:World) (K:(eG)->Int->b_):Prop:=
 fA Tryz.prog 50 [.int .i64 a] [.one .ptr,.one (.int .i64)] w K
theorem Wn {a w K b}:yg a w K->(∀c d w,K c d w->b c d w)->yg a w b:=fA.mono
def Ky (a:eG) (b c d e f g h:Int) (w:World) (K:Int->b_):Prop:=
 fA Tryz.prog 51 [.pointer a,(.agg ⟨[.int .i64 b,.int .i64 c,.int .i64 d,.int .i64 e,.int .i64 f,.int .i64 g,.int .i64 h]⟩)] [.one (.int .i64)] w K
def VW (a b c:Int) (w:World) (K:Bool->b_):Prop:=
 fA Tryz.prog 52 [.int .i64 a,.int .i64 b,.int .i64 c] [.one .bool] w K
def zA (b:eY) (c:Bool) (w:World) (K:eY->Int->Int->Int->b_):Prop:=
 fA Tryz.prog 53 [.slice b.a b.len b.cap,.bool c] [.agg [.slice,(.int .i64),(.int .i64)],.one (.int .i64)] w K
theorem Qq {a b w K c}:zA a b w K->(∀d e f g w,K d e f g w->c d e f g w)->zA a b w c:=fA.mono
def oL (b:eY) (w:World) (K:Bool->b_):Prop:=
 fA Tryz.prog 54 [.slice b.a b.len b.cap] [.one .bool] w K
theorem zh {a w K b}:oL a w K->(∀c w,K c w->b c w)->oL a w b:=fA.mono
def jY (b:eY) (c d:Int) (w:World) (K:Int->Int->Int->Int->Int->Int->Int->Bool->Bool->eY->eY->b_):Prop:=
 fA Tryz.prog 55 [(.agg ⟨[.slice b.a b.len b.cap,.int .i64 c,.int .i64 d]⟩)] [.agg CZ] w K
theorem yQ {a b c w K d}:jY a b c w K->(∀e f g h i j k l m n o w,K e f g h i j k l m n o w->d e f g h i j k l m n o w)->jY a b c w d:=fA.mono
def ni (a b c d e f g:Int) (h i:Bool) (j k:eY) (w:World) (K:Int->b_):Prop:=
 fA Tryz.prog 56 [.agg ⟨fG a b c d e f g h i j k⟩] [.one (.int .i64)] w K
theorem uH {a b c d e f g h i j k w K l}:ni a b c d e f g h i j k w K->(∀m w,K m w->l m w)->ni a b c d e f g h i j k w l:=fA.mono
def jT (a:eG) (b:Int) (w:World) (K:Bool->b_):Prop:=
 fA Tryz.prog 57 [.pointer a,.int .i64 b] [.one .bool] w K
theorem yu {a b w K c}:jT a b w K->(∀d w,K d w->c d w)->jT a b w c:=fA.mono
def jm (a:eG) (w:World) (K:Bool->b_):Prop:=
 fA Tryz.prog 58 [.pointer a] [.one .bool] w K
theorem qE {a w K b}:jm a w K->(∀c w,K c w->b c w)->jm a w b:=fA.mono
def oZ (a:eG) (b:Int) (w:World) (K:Bool->b_):Prop:=
 fA Tryz.prog 59 [.pointer a,.int .i64 b] [.one .bool] w K
theorem MS {a b w K c}:oZ a b w K->(∀d w,K d w->c d w)->oZ a b w c:=fA.mono
def uj (a b c d e f g:Int) (h i:Bool) (j k:eY) (w:World) (K:Bool->b_):Prop:=
 fA Tryz.prog 60 [.agg ⟨fG a b c d e f g h i j k⟩] [.one .bool] w K
theorem Fh {a b c d e f g h i j k w K l}:uj a b c d e f g h i j k w K->(∀m w,K m w->l m w)->uj a b c d e f g h i j k w l:=fA.mono
def kY (c:eG) (d:ByteArray) (e:Int) (f:Bool) (b:eY) (g:ByteArray) (h:Int) (w:World) (K:ByteArray->eY->Bool->Int->b_):Prop:=
 fA Tryz.prog 61 [.pointer c,.string d,.int .i64 e,.bool f,.slice b.a b.len b.cap,.string g,.int .i64 h] [.one .str,.one .slice,.one .bool,.one (.int .i64)] w K
theorem BG {a b c d e f g w K h}:kY a b c d e f g w K->(∀i j k l w,K i j k l w->h i j k l w)->kY a b c d e f g w h:=fA.mono
def qh (a b c d e f g h:Int) (i j:Bool) (k l:eY) (w:World) (K:ByteArray->b_):Prop:=
 fA Tryz.prog 62 [.int .i64 a,.agg ⟨fG b c d e f g h i j k l⟩] [.one .str] w K
theorem OQ {a b c d e f g h i j k l w K m}:qh a b c d e f g h i j k l w K->(∀n w,K n w->m n w)->qh a b c d e f g h i j k l w m:=fA.mono
def mG (a b c d e f g:Int) (h i:Bool) (j k:eY) (w:World) (K:eY->b_):Prop:=
 fA Tryz.prog 63 [.agg ⟨fG a b c d e f g h i j k⟩] [.one .slice] w K
theorem xE {a b c d e f g h i j k w K l}:mG a b c d e f g h i j k w K->(∀m w,K m w->l m w)->mG a b c d e f g h i j k w l:=fA.mono
def rZ (a:Int) (w:World) (K:Int->b_):Prop:=
 fA Tryz.prog 64 [.int .i64 a] [.one (.int .i64)] w K
theorem Qh {a w K b}:rZ a w K->(∀c w,K c w->b c w)->rZ a w b:=fA.mono
def Jd (a b c d e f g:Int) (h i:Bool) (j k:eY) (w:World) (K:Int->Int->Int->Int->Int->Int->Int->Bool->Bool->eY->eY->Bool->b_):Prop:=
 fA Tryz.prog 65 [.agg ⟨fG a b c d e f g h i j k⟩] [.agg CZ,.one .bool] w K
def kL (c:eG) (d:Int) (b:eY) (w:World) (K:eY->Int->b_):Prop:=
 fA Tryz.prog 66 [.pointer c,.int .i64 d,.slice b.a b.len b.cap] [.one .slice,.one (.int .i64)] w K
theorem EZ {a b c w K d}:kL a b c w K->(∀e f w,K e f w->d e f w)->kL a b c w d:=fA.mono
def xJ (a b c d e f g:Int) (h i:Bool) (j k:eY) (l:Bool) (w:World) (K:eY->b_):Prop:=
 fA Tryz.prog 67 [.agg ⟨fG a b c d e f g h i j k⟩,.bool l] [.one .slice] w K
theorem VZ {a b c d e f g h i j k l w K m}:xJ a b c d e f g h i j k l w K->(∀n w,K n w->m n w)->xJ a b c d e f g h i j k l w m:=fA.mono
def qO (a:eG) (b c d e f g h:Int) (i j:Bool) (k l:eY) (w:World) (K:Int->Int->Int->Int->Int->Int->Int->Int->Bool->Bool->eY->eY->Int->b_):Prop:=
 fA Tryz.prog 68 [.pointer a,.agg ⟨fG b c d e f g h i j k l⟩] [.one (.int .i64),.agg CZ,.one (.int .i64)] w K
def MJ (a:eG) (b c d e f g h i:Int) (j k:Bool) (l m:eY) (w:World) (K:eY->b_):Prop:=
 fA Tryz.prog 69 [.pointer a,.int .i64 b,.agg ⟨fG c d e f g h i j k l m⟩] [.one .slice] w K
def He (a:eG) (b c d e f g h:Int) (i j:Bool) (k l:eY) (w:World) (K:Int->Int->Int->Int->Int->Int->Int->Bool->Bool->eY->eY->b_):Prop:=
 fA Tryz.prog 70 [.pointer a,.agg ⟨fG b c d e f g h i j k l⟩] [.agg CZ] w K
def jP (a:eG) (w:World) (K:Int->b_):Prop:=
 fA Tryz.prog 71 [.pointer a] [.one (.int .i64)] w K
theorem Ar {a w K b}:jP a w K->(∀c w,K c w->b c w)->jP a w b:=fA.mono
def Cc (a:eG) (w:World) (K:Value->b_):Prop:=
 fA Tryz.prog 72 [.pointer a] [.one .any] w K
def rM (a:eG) (w:World) (K:Value->b_):Prop:=
 fA Tryz.prog 73 [.pointer a] [.one .any] w K
def jE (a:eG) (w:World) (K:Bool->b_):Prop:=
 fA Tryz.prog 74 [.pointer a] [.one .bool] w K
theorem rP {a w K b}:jE a w K->(∀c w,K c w->b c w)->jE a w b:=fA.mono
def kZ (a:eG) (w:World) (K:Int->b_):Prop:=
 fA Tryz.prog 75 [.pointer a] [.one (.int .i64)] w K
theorem BH {a w K b}:kZ a w K->(∀c w,K c w->b c w)->kZ a w b:=fA.mono
def jk (b:eY) (w:World) (K:eY->b_):Prop:=
 fA Tryz.prog 76 [.slice b.a b.len b.cap] [.one .slice] w K
theorem uF {a w K b}:jk a w K->(∀c w,K c w->b c w)->jk a w b:=fA.mono
def gX (a b c:Int) (w:World) (K:Bool->b_):Prop:=
 fA Tryz.prog 77 [.int .i64 a,.int .i64 b,.int .i64 c] [.one .bool] w K
theorem Yp {a b c w K d}:gX a b c w K->(∀e w,K e w->d e w)->gX a b c w d:=fA.mono
def qQ (a b c d e f g h i j k l m n o p:Int) (w:World) (K:Bool->b_):Prop:=
 fA Tryz.prog 78 [.agg ⟨nK a b c d e f g h i j k l m n o p⟩] [.one .bool] w K
theorem Iz {a b c d e f g h i j k l m n o p w K q}:qQ a b c d e f g h i j k l m n o p w K->(∀r w,K r w->q r w)->qQ a b c d e f g h i j k l m n o p w q:=fA.mono
def qP (a:Int) (w:World) (K:Bool->b_):Prop:=
 fA Tryz.prog 79 [.int .i64 a] [.one .bool] w K
theorem Iy {a w K b}:qP a w K->(∀c w,K c w->b c w)->qP a w b:=fA.mono
def qC (a b c d e f g h i j k l m n o p:Int) (q r:eY) (s t u v x y z A B C D E F G H I J:Int) (L:eY) (M N O P Q R S:Int) (w:World) (K:Bool->b_):Prop:=
 fA Tryz.prog 80 [.agg ⟨jo a b c d e f g h i j k l m n o p q r s t u v x y z A B C D E F G H I J L⟩,(.agg ⟨[.int .i64 M,.int .i64 N,.int .i64 O,.int .i64 P,.int .i64 Q,.int .i64 R,.int .i64 S]⟩)] [.one .bool] w K
theorem OX {a b c d e f g h i j k l m n o p q r s t u v x y z A B C D E F G H I J L M N O P Q R S w K T}:qC a b c d e f g h i j k l m n o p q r s t u v x y z A B C D E F G H I J L M N O P Q R S w K->(∀U w,K U w->T U w)->qC a b c d e f g h i j k l m n o p q r s t u v x y z A B C D E F G H I J L M N O P Q R S w T:=fA.mono
def fQ (b:eY) (w:World) (K:eY->b_):Prop:=
 fA Tryz.prog 92 [.slice b.a b.len b.cap] [.one .slice] w K
theorem gu {a w K b}:fQ a w K->(∀c w,K c w->b c w)->fQ a w b:=fA.mono
def lu (b:eY) (c d:Int) (w:World) (K:eY->b_):Prop:=
 fA Tryz.prog 94 [.slice b.a b.len b.cap,.int .i64 c,.int .i64 d] [.one .slice] w K
theorem pG {a b c w K d}:lu a b c w K->(∀e w,K e w->d e w)->lu a b c w d:=fA.mono
def oW (a b c d e f g h i j k l m n o p:Int) (q r:eY) (s t u v x y z A B C D E F G H I J:Int) (L:eY) (w:World) (K:eY->b_):Prop:=
 fA Tryz.prog 103 [.agg ⟨jo a b c d e f g h i j k l m n o p q r s t u v x y z A B C D E F G H I J L⟩] [.one .slice] w K
theorem MR {a b c d e f g h i j k l m n o p q r s t u v x y z A B C D E F G H I J L w K M}:oW a b c d e f g h i j k l m n o p q r s t u v x y z A B C D E F G H I J L w K->(∀N w,K N w->M N w)->oW a b c d e f g h i j k l m n o p q r s t u v x y z A B C D E F G H I J L w M:=fA.mono
def iZ (a b c:Int) (w:World) (K:Bool->b_):Prop:=
 fA Tryz.prog 104 [(.agg ⟨[.int .i64 a,.int .i64 b,.int .i64 c]⟩)] [.one .bool] w K
theorem lM {a b c w K d}:iZ a b c w K->(∀e w,K e w->d e w)->iZ a b c w d:=fA.mono
def qA (a:Int) (w:World) (K:Bool->b_):Prop:=
 fA Tryz.prog 105 [.int .i64 a] [.one .bool] w K
theorem OW {a w K b}:qA a w K->(∀c w,K c w->b c w)->qA a w b:=fA.mono
def qx (a b c d e f g h i j k l m n o p:Int) (q r:eY) (s t u v x y z A B C D E F G H I J:Int) (L:eY) (w:World) (K:Bool->b_):Prop:=
 fA Tryz.prog 106 [.agg ⟨jo a b c d e f g h i j k l m n o p q r s t u v x y z A B C D E F G H I J L⟩] [.one .bool] w K
theorem OU {a b c d e f g h i j k l m n o p q r s t u v x y z A B C D E F G H I J L w K M}:qx a b c d e f g h i j k l m n o p q r s t u v x y z A B C D E F G H I J L w K->(∀N w,K N w->M N w)->qx a b c d e f g h i j k l m n o p q r s t u v x y z A B C D E F G H I J L w M:=fA.mono
def og (a b c d e f g h i j k l m n o p:Int) (q r:eY) (s t u v x y z A B C D E F G H I J:Int) (L:eY) (w:World) (K:Bool->b_):Prop:=
 fA Tryz.prog 107 [.agg ⟨jo a b c d e f g h i j k l m n o p q r s t u v x y z A B C D E F G H I J L⟩] [.one .bool] w K
theorem KI {a b c d e f g h i j k l m n o p q r s t u v x y z A B C D E F G H I J L w K M}:og a b c d e f g h i j k l m n o p q r s t u v x y z A B C D E F G H I J L w K->(∀N w,K N w->M N w)->og a b c d e f g h i j k l m n o p q r s t u v x y z A B C D E F G H I J L w M:=fA.mono
def ku (a:Int) (w:World) (K:Bool->b_):Prop:=
 fA Tryz.prog 108 [.int .i64 a] [.one .bool] w K
theorem qV {a w K b}:ku a w K->(∀c w,K c w->b c w)->ku a w b:=fA.mono
def gQ (b:eY) (c:Int) (w:World) (K:Bool->b_):Prop:=
 fA Tryz.prog 109 [.slice b.a b.len b.cap,.int .i64 c] [.one .bool] w K
theorem iO {a b w K c}:gQ a b w K->(∀d w,K d w->c d w)->gQ a b w c:=fA.mono
def uf (a:Int) (w:World) (K:(eG)->Int->b_):Prop:=
 fA Tryz.prog 110 [.int .i64 a] [.one .ptr,.one (.int .i64)] w K
theorem E_ {a w K b}:uf a w K->(∀c d w,K c d w->b c d w)->uf a w b:=fA.mono
def lC (a:eG) (b c d:Int) (w:World) (K:Int->Bool->b_):Prop:=
 fA Tryz.prog 113 [.pointer a,(.agg ⟨[.int .i64 b,.int .i64 c,.int .i64 d]⟩)] [.one (.int .i64),.one .bool] w K
theorem yJ {a b c d w K e}:lC a b c d w K->(∀f g w,K f g w->e f g w)->lC a b c d w e:=fA.mono
def fH (b:eY) (c d e f:Int) (w:World) (K:Int->b_):Prop:=
 fA Tryz.prog 119 [(.agg ⟨[.slice b.a b.len b.cap,.int .i64 c,.int .i64 d]⟩),.int .i64 e,.int .i64 f] [.one (.int .i64)] w K
theorem qW {a b c d e w K f}:fH a b c d e w K->(∀g w,K g w->f g w)->fH a b c d e w f:=fA.mono
def zy (b:eY) (w:World) (K:Int->b_):Prop:=
 fA Tryz.prog 120 [.slice b.a b.len b.cap] [.one (.int .i64)] w K
theorem Qp {a w K b}:zy a w K->(∀c w,K c w->b c w)->zy a w b:=fA.mono
def sO (b:eY) (w:World) (K:Bool->b_):Prop:=
 fA Tryz.prog 121 [.slice b.a b.len b.cap] [.one .bool] w K
theorem zC {a w K b}:sO a w K->(∀c w,K c w->b c w)->sO a w b:=fA.mono
def kH (a b:Int) (w:World) (K:Bool->b_):Prop:=
 fA Tryz.prog 122 [.int .i64 a,.int .i64 b] [.one .bool] w K
theorem ny {a b w K c}:kH a b w K->(∀d w,K d w->c d w)->kH a b w c:=fA.mono
def kT (a:Int) (w:World) (K:Bool->b_):Prop:=
 fA Tryz.prog 123 [.int .i64 a] [.one .bool] w K
theorem nC {a w K b}:kT a w K->(∀c w,K c w->b c w)->kT a w b:=fA.mono
def wM (a b c d e f g:Int) (h i:Bool) (j k:eY) (w:World) (K:Int->b_):Prop:=
 fA Tryz.prog 124 [.agg ⟨fG a b c d e f g h i j k⟩] [.one (.int .i64)] w K
theorem Jl {a b c d e f g h i j k w K l}:wM a b c d e f g h i j k w K->(∀m w,K m w->l m w)->wM a b c d e f g h i j k w l:=fA.mono
def kM (a:eG) (b:Int) (w:World) (K:Bool->b_):Prop:=
 fA Tryz.prog 125 [.pointer a,.int .i64 b] [.one .bool] w K
theorem E8 {a b w K c}:kM a b w K->(∀d w,K d w->c d w)->kM a b w c:=fA.mono
def mV (a:eG) (w:World) (K:Bool->b_):Prop:=
 fA Tryz.prog 126 [.pointer a] [.one .bool] w K
theorem Jj {a w K b}:mV a w K->(∀c w,K c w->b c w)->mV a w b:=fA.mono
def mP (a:eG) (b:ByteArray) (c:Int) (w:World) (K:(eG)->Int->b_):Prop:=
 fA Tryz.prog 127 [.pointer a,.string b,.int .i64 c] [.one .ptr,.one (.int .i64)] w K
theorem Jh {a b c w K d}:mP a b c w K->(∀e f w,K e f w->d e f w)->mP a b c w d:=fA.mono
def lI (c:eG) (d:Int) (b:eY) (w:World) (K:Int->b_):Prop:=
 fA Tryz.prog 128 [.pointer c,.int .i64 d,.slice b.a b.len b.cap] [.one (.int .i64)] w K
theorem Hw {a b c w K d}:lI a b c w K->(∀e w,K e w->d e w)->lI a b c w d:=fA.mono
def mM (c:eG) (d:Int) (e:Bool) (b:eY) (w:World) (K:Int->b_):Prop:=
 fA Tryz.prog 129 [.pointer c,.int .i64 d,.bool e,.slice b.a b.len b.cap] [.one (.int .i64)] w K
theorem Jf {a b c d w K e}:mM a b c d w K->(∀f w,K f w->e f w)->mM a b c d w e:=fA.mono
def lG (a:eG) (w:World) (K:eY->Bool->b_):Prop:=
 fA Tryz.prog 130 [.pointer a] [.one .slice,.one .bool] w K
theorem Ht {a w K b}:lG a w K->(∀c d w,K c d w->b c d w)->lG a w b:=fA.mono
def Ai (a b c d e f g:Int) (h i:Bool) (j k:eY) (w:World) (K:eY->Int->b_):Prop:=
 fA Tryz.prog 131 [.agg ⟨fG a b c d e f g h i j k⟩] [.one .slice,.one (.int .i64)] w K
theorem Yr {a b c d e f g h i j k w K l}:Ai a b c d e f g h i j k w K->(∀m n w,K m n w->l m n w)->Ai a b c d e f g h i j k w l:=fA.mono
def oK (c d e f:Int) (b:eY) (w:World) (K:Int->Int->Int->Int->Int->Int->Int->Bool->Bool->eY->eY->Int->b_):Prop:=
 fA Tryz.prog 132 [.int .i64 c,.int .i64 d,.int .i64 e,.int .i64 f,.slice b.a b.len b.cap] [.agg CZ,.one (.int .i64)] w K
theorem V3 {a b c d e w K f}:oK a b c d e w K->(∀g h i j k l m n o p q r w,K g h i j k l m n o p q r w->f g h i j k l m n o p q r w)->oK a b c d e w f:=fA.mono
def vw (a b c d e f g:Int) (h i:Bool) (j k:eY) (w:World) (K:Bool->b_):Prop:=
 fA Tryz.prog 133 [.agg ⟨fG a b c d e f g h i j k⟩] [.one .bool] w K
theorem TT {a b c d e f g h i j k w K l}:vw a b c d e f g h i j k w K->(∀m w,K m w->l m w)->vw a b c d e f g h i j k w l:=fA.mono
def DV (a b c d e f g:Int) (h i:Bool) (j k:eY) (w:World) (K:Int->Int->Int->eY->Bool->b_):Prop:=
 fA Tryz.prog 134 [.agg ⟨fG a b c d e f g h i j k⟩] [.agg [(.int .i64),(.int .i64),(.int .i64),.slice],.one .bool] w K
def pI (c:eG) (d e f g h i j:Int) (k l:Bool) (m n:eY) (o p q:Int) (b:eY) (w:World) (K:Int->Int->Int->Int->Int->Int->Int->Int->Bool->Bool->eY->eY->Int->b_):Prop:=
 fA Tryz.prog 135 [.pointer c,.agg ⟨fG d e f g h i j k l m n⟩,(.agg ⟨[.int .i64 o,.int .i64 p,.int .i64 q,.slice b.a b.len b.cap]⟩)] [.one (.int .i64),.agg CZ,.one (.int .i64)] w K
def Ae (a b c d e f g:Int) (h i:Bool) (j k:eY) (w:World) (K:Int->Int->Int->Int->b_):Prop:=
 fA Tryz.prog 136 [.agg ⟨fG a b c d e f g h i j k⟩] [.agg [(.int .i64),(.int .i64),(.int .i64)],.one (.int .i64)] w K
theorem Yo {a b c d e f g h i j k w K l}:Ae a b c d e f g h i j k w K->(∀m n o p w,K m n o p w->l m n o p w)->Ae a b c d e f g h i j k w l:=fA.mono
def Ac (a:Int) (w:World) (K:Int->b_):Prop:=
 fA Tryz.prog 137 [.int .i64 a] [.one (.int .i64)] w K
theorem Ym {a w K b}:Ac a w K->(∀c w,K c w->b c w)->Ac a w b:=fA.mono
def Iq (a:eG) (b:Int) (w:World) (K:Int->Int->Int->Int->Int->Int->Int->Bool->Bool->b_):Prop:=
 fA Tryz.prog 138 [.pointer a,.int .i64 b] [.agg [(.int .i64),(.int .i64),(.int .i64),(.int .i64),(.int .i64),(.int .i64),(.int .i64),.bool],.one .bool] w K
def Ja (a:eG) (b:Int) (c:Bool) (d:Int) (e:Bool) (f g h:Int) (w:World) (K:Int->Bool->Int->Bool->Int->Int->Int->b_):Prop:=
 fA Tryz.prog 139 [.pointer a,(.agg ⟨[.int .i64 b,.bool c,.int .i64 d,.bool e,.int .i64 f,.int .i64 g,.int .i64 h]⟩)] [.agg [(.int .i64),.bool,(.int .i64),.bool,(.int .i64),(.int .i64),(.int .i64)]] w K
def TJ (a b c:Int) (w:World) (K:Int->Int->b_):Prop:=
 fA Tryz.prog 140 [.int .i64 a,.int .i64 b,.int .i64 c] [.agg [(.int .i64),(.int .i64)]] w K
def Qg (c d e:Int) (b:eY) (w:World) (K:Bool->b_):Prop:=
 fA Tryz.prog 141 [.int .i64 c,(.agg ⟨[.int .i64 d,.int .i64 e]⟩),.slice b.a b.len b.cap] [.one .bool] w K
def Jb (a:eG) (b:Int) (w:World) (K:eY->b_):Prop:=
 fA Tryz.prog 142 [.pointer a,.int .i64 b] [.one .slice] w K
def Hl (a:eG) (b:Int) (c:Bool) (d:Int) (e:Bool) (f g h i j k l m n o:Int) (p q:Bool) (r s:eY) (w:World) (K:Int->b_):Prop:=
 fA Tryz.prog 143 [.pointer a,(.agg ⟨[.int .i64 b,.bool c,.int .i64 d,.bool e,.int .i64 f,.int .i64 g,.int .i64 h]⟩),.agg ⟨fG i j k l m n o p q r s⟩] [.one (.int .i64)] w K
def aak (a b c d e f g:Int) (h i:Bool) (j k:eY) (l m:Int) (w:World) (K:Int->Int->Int->Int->Int->Int->Int->Bool->Bool->eY->eY->Int->b_):Prop:=
 fA Tryz.prog 144 [.agg ⟨fG a b c d e f g h i j k⟩,.int .i64 l,.int .i64 m] [.agg CZ,.one (.int .i64)] w K
def kQ (a:eG) (w:World) (K:Bool->b_):Prop:=
 fA Tryz.prog 147 [.pointer a] [.one .bool] w K
theorem Fj {a w K b}:kQ a w K->(∀c w,K c w->b c w)->kQ a w b:=fA.mono
abbrev Eu:FuncId:=148
def OO (a:Value) (b:Addr) (w:World) (K:b_):Prop:=
 fA Tryz.prog 148 [a,(.pointer (some b))] [] w K
def l7 (a:eG) (w:World) (K:Bool->b_):Prop:=
 fA Tryz.prog 149 [.pointer a] [.one .bool] w K
theorem Dj {a w K b}:l7 a w K->(∀c w,K c w->b c w)->l7 a w b:=fA.mono
abbrev wE:FuncId:=150
def EF (a:Value) (b:Addr) (w:World) (K:b_):Prop:=
 fA Tryz.prog 150 [a,(.pointer (some b))] [] w K
def jW (a:eG) (w:World) (K:Bool->b_):Prop:=
 fA Tryz.prog 151 [.pointer a] [.one .bool] w K
theorem D6 {a w K b}:jW a w K->(∀c w,K c w->b c w)->jW a w b:=fA.mono
def kN (a:eG) (w:World) (K:Int->b_):Prop:=
 fA Tryz.prog 152 [.pointer a] [.one (.int .i64)] w K
theorem Fa {a w K b}:kN a w K->(∀c w,K c w->b c w)->kN a w b:=fA.mono
def vC (a b c d e f g h i j k l m n o p:Int) (q r:eY) (s t u v x y z A B C D E F G H I J:Int) (L:eY) (M:Int) (w:World) (K:Bool->b_):Prop:=
 fA Tryz.prog 153 [.agg ⟨jo a b c d e f g h i j k l m n o p q r s t u v x y z A B C D E F G H I J L⟩,.int .i64 M] [.one .bool] w K
theorem TU {a b c d e f g h i j k l m n o p q r s t u v x y z A B C D E F G H I J L M w K N}:vC a b c d e f g h i j k l m n o p q r s t u v x y z A B C D E F G H I J L M w K->(∀O w,K O w->N O w)->vC a b c d e f g h i j k l m n o p q r s t u v x y z A B C D E F G H I J L M w N:=fA.mono
def xK (b:eY) (c d:Int) (w:World) (K:Int->Int->b_):Prop:=
 fA Tryz.prog 154 [.slice b.a b.len b.cap,.int .i64 c,.int .i64 d] [.one (.int .i64),.one (.int .i64)] w K
theorem GH {a b c w K d}:xK a b c w K->(∀e f w,K e f w->d e f w)->xK a b c w d:=fA.mono
def iD (b:eY) (c:Value) (w:World) (K:eY->b_):Prop:=
 fA Tryz.prog 167 [.slice b.a b.len b.cap,c] [.one .slice] w K
theorem kE {a b w K c}:iD a b w K->(∀d w,K d w->c d w)->iD a b w c:=fA.mono
def qj (a b:Int) (w:World) (K:Value->b_):Prop:=
 fA Tryz.prog 168 [.int .i64 a,.int .i64 b] [.one .any] w K
theorem DZ {a b w K c}:qj a b w K->(∀d w,K d w->c d w)->qj a b w c:=fA.mono
abbrev Nc:FuncId:=176
def MK (a b c d e f g h i j k l m n o p:Int) (w:World) (K:Bool->b_):Prop:=
 fA Tryz.prog 176 [.agg ⟨nK a b c d e f g h i j k l m n o p⟩] [.one .bool] w K
def wJ (a b c d e f g h i j k l m n o p:Int) (w:World) (K:Bool->b_):Prop:=
 fA Tryz.prog 177 [.agg ⟨nK a b c d e f g h i j k l m n o p⟩] [.one .bool] w K
theorem NZ {a b c d e f g h i j k l m n o p w K q}:wJ a b c d e f g h i j k l m n o p w K->(∀r w,K r w->q r w)->wJ a b c d e f g h i j k l m n o p w q:=fA.mono
abbrev Nh:FuncId:=178
def ML (a:Int) (w:World) (K:Bool->b_):Prop:=
 fA Tryz.prog 178 [.int .i64 a] [.one .bool] w K
abbrev Nj:FuncId:=179
def MN (a b c d e f g:Int) (h:Addr) (w:World) (K:Bool->b_):Prop:=
 fA Tryz.prog 179 [(.agg ⟨[.int .i64 a,.int .i64 b,.int .i64 c,.int .i64 d,.int .i64 e,.int .i64 f,.int .i64 g]⟩),(.pointer (some h))] [.one .bool] w K
def sD (a b c d e f g h i j k l m n o p:Int) (q r:eY) (s t u v x y z A B C D E F G H I J:Int) (L:eY) (M N O P Q R S:Int) (w:World) (K:Bool->b_):Prop:=
 fA Tryz.prog 180 [.agg ⟨jo a b c d e f g h i j k l m n o p q r s t u v x y z A B C D E F G H I J L⟩,(.agg ⟨[.int .i64 M,.int .i64 N,.int .i64 O,.int .i64 P,.int .i64 Q,.int .i64 R,.int .i64 S]⟩)] [.one .bool] w K
theorem Qj {a b c d e f g h i j k l m n o p q r s t u v x y z A B C D E F G H I J L M N O P Q R S w K T}:sD a b c d e f g h i j k l m n o p q r s t u v x y z A B C D E F G H I J L M N O P Q R S w K->(∀U w,K U w->T U w)->sD a b c d e f g h i j k l m n o p q r s t u v x y z A B C D E F G H I J L M N O P Q R S w T:=fA.mono
def iw (b:eY) (c:Value) (w:World) (K:Bool->b_):Prop:=
 fA Tryz.prog 181 [.slice b.a b.len b.cap,c] [.one .bool] w K
theorem qF {a b w K c}:iw a b w K->(∀d w,K d w->c d w)->iw a b w c:=fA.mono
def iK (b:eY) (c:Value) (w:World) (K:Bool->b_):Prop:=
 fA Tryz.prog 182 [.slice b.a b.len b.cap,c] [.one .bool] w K
theorem oz {a b w K c}:iK a b w K->(∀d w,K d w->c d w)->iK a b w c:=fA.mono
def gU (b:eY) (c:Value) (w:World) (K:Bool->b_):Prop:=
 fA Tryz.prog 183 [.slice b.a b.len b.cap,c] [.one .bool] w K
theorem ou {a b w K c}:gU a b w K->(∀d w,K d w->c d w)->gU a b w c:=fA.mono
def iG (b:eY) (w:World) (K:eY->b_):Prop:=
 fA Tryz.prog 184 [.slice b.a b.len b.cap] [.one .slice] w K
theorem nN {a w K b}:iG a w K->(∀c w,K c w->b c w)->iG a w b:=fA.mono
abbrev Jv:FuncId:=185
def zZ (a b c d e f g:Int) (w:World) (K:Int->Int->Int->Int->b_):Prop:=
 fA Tryz.prog 185 [(.agg ⟨[.int .i64 a,.int .i64 b,.int .i64 c,.int .i64 d,.int .i64 e,.int .i64 f,.int .i64 g]⟩)] [.agg [(.int .i64),(.int .i64),(.int .i64),(.int .i64)]] w K
abbrev Jw:FuncId:=186
def z_ (a b c d e f g:Int) (w:World) (K:Int->Int->Int->b_):Prop:=
 fA Tryz.prog 186 [(.agg ⟨[.int .i64 a,.int .i64 b,.int .i64 c,.int .i64 d,.int .i64 e,.int .i64 f,.int .i64 g]⟩)] [.agg [(.int .i64),(.int .i64),(.int .i64)]] w K
def jK (a:Value) (w:World) (K:Bool->b_):Prop:=
 fA Tryz.prog 187 [a] [.one .bool] w K
theorem Dl {a w K b}:jK a w K->(∀c w,K c w->b c w)->jK a w b:=fA.mono
def iR (b:eY) (c:Value) (w:World) (K:Value->b_):Prop:=
 fA Tryz.prog 188 [.slice b.a b.len b.cap,c] [.one .any] w K
theorem wO {a b w K c}:iR a b w K->(∀d w,K d w->c d w)->iR a b w c:=fA.mono
abbrev Du:FuncId:=189
def uy (a b c d e f g h i j k l m n o p:Int) (w:World) (K:eH (eH (b_))):Prop:=
 fA Tryz.prog 189 [.agg ⟨nK a b c d e f g h i j k l m n o p⟩] [.agg abz] w K
def lD (a:Value) (w:World) (K:Bool->b_):Prop:=
 fA Tryz.prog 190 [a] [.one .bool] w K
theorem Hq {a w K b}:lD a w K->(∀c w,K c w->b c w)->lD a w b:=fA.mono
def jV (b:eY) (c:Value) (w:World) (K:Value->b_):Prop:=
 fA Tryz.prog 191 [.slice b.a b.len b.cap,c] [.one .any] w K
theorem D5 {a b w K c}:jV a b w K->(∀d w,K d w->c d w)->jV a b w c:=fA.mono
abbrev Hz:FuncId:=192
def Hf (a:Int) (w:World) (K:Int->b_):Prop:=
 fA Tryz.prog 192 [.int .i64 a] [.one (.int .i64)] w K
def jq (a:Value) (w:World) (K:Bool->b_):Prop:=
 fA Tryz.prog 193 [a] [.one .bool] w K
theorem A_ {a w K b}:jq a w K->(∀c w,K c w->b c w)->jq a w b:=fA.mono
def iH (b:eY) (c:Value) (w:World) (K:Value->b_):Prop:=
 fA Tryz.prog 194 [.slice b.a b.len b.cap,c] [.one .any] w K
theorem sS {a b w K c}:iH a b w K->(∀d w,K d w->c d w)->iH a b w c:=fA.mono
def jr (a:Value) (w:World) (K:Bool->b_):Prop:=
 fA Tryz.prog 195 [a] [.one .bool] w K
theorem Ba {a w K b}:jr a w K->(∀c w,K c w->b c w)->jr a w b:=fA.mono
def iI (b:eY) (c:Value) (w:World) (K:Value->b_):Prop:=
 fA Tryz.prog 196 [.slice b.a b.len b.cap,c] [.one .any] w K
theorem sU {a b w K c}:iI a b w K->(∀d w,K d w->c d w)->iI a b w c:=fA.mono
abbrev Jy:FuncId:=197
def I_ (a:Int) (b:Addr) (w:World) (K:Bool->b_):Prop:=
 fA Tryz.prog 197 [.int .i64 a,(.pointer (some b))] [.one .bool] w K
def DU (c:Int) (b:eY) (w:World) (K:Bool->b_):Prop:=
 fA Tryz.prog 198 [.int .i64 c,.slice b.a b.len b.cap] [.one .bool] w K
theorem NW {a0 a1 w K K'}:DU a0 a1 w K->(∀x0 w,K x0 w->K' x0 w)->DU a0 a1 w K':=fA.mono
def jl (b:eY) (c:Int) (w:World) (K:Int->b_):Prop:=
 fA Tryz.prog 199 [.slice b.a b.len b.cap,.int .i64 c] [.one (.int .i64)] w K
theorem uG {a b w K c}:jl a b w K->(∀d w,K d w->c d w)->jl a b w c:=fA.mono
def oq (a:eG) (b:ByteArray) (w:World) (K:Int->Bool->b_):Prop:=
 fA Tryz.prog 201 [.pointer a,.string b] [.one (.int .i64),.one .bool] w K
theorem KJ {a b w K c}:oq a b w K->(∀d e w,K d e w->c d e w)->oq a b w c:=fA.mono
def oV (a b c:Int) (w:World) (K:ByteArray->b_):Prop:=
 fA Tryz.prog 203 [(.agg ⟨[.int .i64 a,.int .i64 b,.int .i64 c]⟩)] [.one .str] w K
theorem MQ {a b c w K d}:oV a b c w K->(∀e w,K e w->d e w)->oV a b c w d:=fA.mono
def Ah (a:Int) (w:World) (K:Int->b_):Prop:=
 fA Tryz.prog 210 [.int .i64 a] [.one (.int .i64)] w K
theorem Yq {a w K b}:Ah a w K->(∀c w,K c w->b c w)->Ah a w b:=fA.mono
def xZ (b:eY) (w:World) (K:Int->b_):Prop:=
 fA Tryz.prog 211 [.slice b.a b.len b.cap] [.one (.int .i64)] w K
theorem Wi {a w K b}:xZ a w K->(∀c w,K c w->b c w)->xZ a w b:=fA.mono
def pU (b:eY) (c:Bool) (w:World) (K:Bool->b_):Prop:=
 fA Tryz.prog 212 [.slice b.a b.len b.cap,.bool c] [.one .bool] w K
def t_ (a:Int) (w:World) (K:Bool->b_):Prop:=
 fA Tryz.prog 213 [.int .i64 a] [.one .bool] w K
theorem E5 {a w K b}:t_ a w K->(∀c w,K c w->b c w)->t_ a w b:=fA.mono
def wK (a b c d e f g:Int) (h i:Bool) (j k:eY) (w:World) (K:Int->b_):Prop:=
 fA Tryz.prog 214 [.agg ⟨fG a b c d e f g h i j k⟩] [.one (.int .i64)] w K
theorem Jk {a b c d e f g h i j k w K l}:wK a b c d e f g h i j k w K->(∀m w,K m w->l m w)->wK a b c d e f g h i j k w l:=fA.mono
def xP (w:World) (K:(eG)->b_):Prop:=
 fA Tryz.prog 215 [] [.one .ptr] w K
theorem V7 {w K a}:xP w K->(∀b w,K b w->a b w)->xP w a:=fA.mono
def iM (a:eG) (w:World) (K:Bool->b_):Prop:=
 fA Tryz.prog 216 [.pointer a] [.one .bool] w K
theorem kD {a w K b}:iM a w K->(∀c w,K c w->b c w)->iM a w b:=fA.mono
def jM (c:eG) (d:Int) (e:Bool) (b:eY) (w:World) (K:Bool->b_):Prop:=
 fA Tryz.prog 217 [.pointer c,(.agg ⟨[.int .i64 d,.bool e,.slice b.a b.len b.cap]⟩)] [.one .bool] w K
theorem uo {a b c d w K e}:jM a b c d w K->(∀f w,K f w->e f w)->jM a b c d w e:=fA.mono
def xQ (c:Int) (d:Bool) (b:eY) (w:World) (K:Int->b_):Prop:=
 fA Tryz.prog 218 [(.agg ⟨[.int .i64 c,.bool d,.slice b.a b.len b.cap]⟩)] [.one (.int .i64)] w K
theorem V8 {a b c w K d}:xQ a b c w K->(∀e w,K e w->d e w)->xQ a b c w d:=fA.mono
def kP (c:eG) (d:Int) (e:Bool) (b:eY) (w:World) (K:Bool->b_):Prop:=
 fA Tryz.prog 219 [.pointer c,(.agg ⟨[.int .i64 d,.bool e,.slice b.a b.len b.cap]⟩)] [.one .bool] w K
theorem Fb {a b c d w K e}:kP a b c d w K->(∀f w,K f w->e f w)->kP a b c d w e:=fA.mono
def lJ (c:eG) (d:Int) (e:Bool) (b:eY) (w:World) (K:Bool->b_):Prop:=
 fA Tryz.prog 220 [.pointer c,(.agg ⟨[.int .i64 d,.bool e,.slice b.a b.len b.cap]⟩)] [.one .bool] w K
theorem Hy {a b c d w K e}:lJ a b c d w K->(∀f w,K f w->e f w)->lJ a b c d w e:=fA.mono
def gq (b:eY) (d:Int) (e:Bool) (c:eY) (f:Value) (w:World) (K:Int->Bool->b_):Prop:=
 fA Tryz.prog 221 [.slice b.a b.len b.cap,(.agg ⟨[.int .i64 d,.bool e,.slice c.a c.len c.cap]⟩),f] [.one (.int .i64),.one .bool] w K
theorem jQ {a b c d e w K f}:gq a b c d e w K->(∀g h w,K g h w->f g h w)->gq a b c d e w f:=fA.mono
def Ir (d:Int) (e:Bool) (b:eY) (f:Int) (g:Bool) (c:eY) (w:World) (K:Int->b_):Prop:=
 fA Tryz.prog 222 [(.agg ⟨[.int .i64 d,.bool e,.slice b.a b.len b.cap]⟩),(.agg ⟨[.int .i64 f,.bool g,.slice c.a c.len c.cap]⟩)] [.one (.int .i64)] w K
def g_ (b:eY) (d:Int) (c:eY) (w:World) (K:eY->b_):Prop:=
 fA Tryz.prog 223 [.slice b.a b.len b.cap,.int .i64 d,.slice c.a c.len c.cap] [.one .slice] w K
theorem pJ {a b c w K d}:g_ a b c w K->(∀e w,K e w->d e w)->g_ a b c w d:=fA.mono
def iq (c:Int) (d:Bool) (b:eY) (w:World) (K:Int->b_):Prop:=
 fA Tryz.prog 224 [(.agg ⟨[.int .i64 c,.bool d,.slice b.a b.len b.cap]⟩)] [.one (.int .i64)] w K
theorem jF {a b c w K d}:iq a b c w K->(∀e w,K e w->d e w)->iq a b c w d:=fA.mono
def lH (a:eG) (w:World) (K:Value->b_):Prop:=
 fA Tryz.prog 225 [.pointer a] [.one .any] w K
theorem Hu {a w K b}:lH a w K->(∀c w,K c w->b c w)->lH a w b:=fA.mono
def yc (a b c d e f g:Int) (h i:Bool) (j k:eY) (w:World) (K:eY->b_):Prop:=
 fA Tryz.prog 226 [.agg ⟨fG a b c d e f g h i j k⟩] [.one .slice] w K
theorem Wj {a b c d e f g h i j k w K l}:yc a b c d e f g h i j k w K->(∀m w,K m w->l m w)->yc a b c d e f g h i j k w l:=fA.mono
def Dc (b:eY) (c d e:Int) (w:World) (K:eY->Int->b_):Prop:=
 fA Tryz.prog 227 [.slice b.a b.len b.cap,.int .i64 c,.int .i64 d,.int .i64 e] [.one .slice,.one (.int .i64)] w K
theorem UO {a b c d w K e}:Dc a b c d w K->(∀f g w,K f g w->e f g w)->Dc a b c d w e:=fA.mono
def Di (b:eY) (w:World) (K:Int->b_):Prop:=
 fA Tryz.prog 228 [.slice b.a b.len b.cap] [.one (.int .i64)] w K
theorem UQ {a w K b}:Di a w K->(∀c w,K c w->b c w)->Di a w b:=fA.mono
def xM (b:eY) (w:World) (K:Int->Int->Int->Int->Int->Int->Int->Bool->Bool->eY->eY->Bool->b_):Prop:=
 fA Tryz.prog 229 [.slice b.a b.len b.cap] [.agg CZ,.one .bool] w K
theorem V5 {a w K b}:xM a w K->(∀c d e f g h i j k l m n w,K c d e f g h i j k l m n w->b c d e f g h i j k l m n w)->xM a w b:=fA.mono
def u_ (b:eY) (c d e f g h i:Int) (j k:Bool) (l m:eY) (w:World) (K:eY->b_):Prop:=
 fA Tryz.prog 230 [.slice b.a b.len b.cap,.agg ⟨fG c d e f g h i j k l m⟩] [.one .slice] w K
theorem TQ {a b c d e f g h i j k l w K m}:u_ a b c d e f g h i j k l w K->(∀n w,K n w->m n w)->u_ a b c d e f g h i j k l w m:=fA.mono
def vg (c d e:Int) (b:eY) (w:World) (K:eY->Int->b_):Prop:=
 fA Tryz.prog 231 [(.agg ⟨[.int .i64 c,.int .i64 d,.int .i64 e,.slice b.a b.len b.cap]⟩)] [.one .slice,.one (.int .i64)] w K
theorem TR {a b c d w K e}:vg a b c d w K->(∀f g w,K f g w->e f g w)->vg a b c d w e:=fA.mono
def yY (b:eY) (w:World) (K:Int->Int->Int->eY->Int->b_):Prop:=
 fA Tryz.prog 232 [.slice b.a b.len b.cap] [.agg [(.int .i64),(.int .i64),(.int .i64),.slice],.one (.int .i64)] w K
def oP (a:Int) (w:World) (K:Bool->b_):Prop:=
 fA Tryz.prog 233 [.int .i64 a] [.one .bool] w K
theorem Iu {a w K b}:oP a w K->(∀c w,K c w->b c w)->oP a w b:=fA.mono
def Ci (b:eY) (w:World) (K:Int->Int->Int->Int->Int->Int->Int->Bool->Bool->eY->eY->Int->Int->Int->Int->b_):Prop:=
 fA Tryz.prog 234 [.slice b.a b.len b.cap] [.agg CZ,.agg [(.int .i64),(.int .i64),(.int .i64)],.one (.int .i64)] w K
def Ye (c d e f g h i:Int) (j k:Bool) (l m:eY) (n o p:Int) (b:eY) (q:Bool) (r s:Int) (w:World) (K:Int->Int->Int->Int->Int->Int->Int->Bool->Bool->eY->eY->b_):Prop:=
 fA Tryz.prog 235 [.agg ⟨fG c d e f g h i j k l m⟩,(.agg ⟨[.int .i64 n,.int .i64 o,.int .i64 p,.slice b.a b.len b.cap]⟩),.bool q,.int .i64 r,.int .i64 s] [.agg CZ] w K
def Ag (a b c d e f g:Int) (h i:Bool) (j k:eY) (w:World) (K:Value->Int->b_):Prop:=
 fA Tryz.prog 236 [.agg ⟨fG a b c d e f g h i j k⟩] [.one .any,.one (.int .i64)] w K
def EX (c d:Int) (b:eY) (w:World) (K:Int->Int->Int->Int->Int->Int->Int->Int->eY->eY->Int->b_):Prop:=
 fA Tryz.prog 250 [.int .i64 c,.int .i64 d,.slice b.a b.len b.cap] [.agg ame,.one (.int .i64)] w K
def uw (b:eY) (c d:Int) (w:World) (K:eY->Int->b_):Prop:=
 fA Tryz.prog 253 [.slice b.a b.len b.cap,.int .i64 c,.int .i64 d] [.one .slice,.one (.int .i64)] w K
theorem KH {a b c w K d}:uw a b c w K->(∀e f w,K e f w->d e f w)->uw a b c w d:=fA.mono
def uD (b:eY) (w:World) (K:Int->Int->Int->Int->Int->Int->Int->Bool->Bool->eY->eY->Int->b_):Prop:=
 fA Tryz.prog 257 [.slice b.a b.len b.cap] [.agg CZ,.one (.int .i64)] w K
theorem KL {a w K b}:uD a w K->(∀c d e f g h i j k l m n w,K c d e f g h i j k l m n w->b c d e f g h i j k l m n w)->uD a w b:=fA.mono
abbrev IK:FuncId:=272
def TI (a:Value) (b c:Addr) (w:World) (K:b_):Prop:=
 fA Tryz.prog 272 [a,(.pointer (some b)),(.pointer (some c))] [] w K
def qy (a:Int) (w:World) (K:Bool->b_):Prop:=
 fA Tryz.prog 276 [.int .i64 a] [.one .bool] w K
theorem OV {a w K b}:qy a w K->(∀c w,K c w->b c w)->qy a w b:=fA.mono
def iJ (b:eY) (c:Value) (w:World) (K:Int->b_):Prop:=
 fA Tryz.prog 277 [.slice b.a b.len b.cap,c] [.one (.int .i64)] w K
theorem sV {a b w K c}:iJ a b w K->(∀d w,K d w->c d w)->iJ a b w c:=fA.mono
def jf (b:eY) (c:Value) (w:World) (K:Int->b_):Prop:=
 fA Tryz.prog 278 [.slice b.a b.len b.cap,c] [.one (.int .i64)] w K
theorem zf {a b w K c}:jf a b w K->(∀d w,K d w->c d w)->jf a b w c:=fA.mono
def gY (b:eY) (c:Value) (w:World) (K:Int->b_):Prop:=
 fA Tryz.prog 279 [.slice b.a b.len b.cap,c] [.one (.int .i64)] w K
theorem o_ {a b w K c}:gY a b w K->(∀d w,K d w->c d w)->gY a b w c:=fA.mono
abbrev wo:FuncId:=280
def vY (a:Value) (b c:Addr) (w:World) (K:b_):Prop:=
 fA Tryz.prog 280 [a,(.pointer (some b)),(.pointer (some c))] [] w K
abbrev Dt:FuncId:=281
def Df (a:Value) (b c:Addr) (w:World) (K:b_):Prop:=
 fA Tryz.prog 281 [a,(.pointer (some b)),(.pointer (some c))] [] w K
abbrev rQ:FuncId:=282
def rH (a:Value) (b c:Addr) (w:World) (K:b_):Prop:=
 fA Tryz.prog 282 [a,(.pointer (some b)),(.pointer (some c))] [] w K
abbrev rU:FuncId:=283
def rJ (a:Value) (b c:Addr) (w:World) (K:b_):Prop:=
 fA Tryz.prog 283 [a,(.pointer (some b)),(.pointer (some c))] [] w K
def kX (a b c:Int) (w:World) (K:Bool->b_):Prop:=
 fA Tryz.prog 284 [(.agg ⟨[.int .i64 a,.int .i64 b]⟩),.int .i64 c] [.one .bool] w K
theorem vH {a b c w K d}:kX a b c w K->(∀e w,K e w->d e w)->kX a b c w d:=fA.mono
def lF (a:eG) (w:World) (K:Bool->b_):Prop:=
 fA Tryz.prog 285 [.pointer a] [.one .bool] w K
theorem Hr {a w K b}:lF a w K->(∀c w,K c w->b c w)->lF a w b:=fA.mono
def jL (a:eG) (b:ByteArray) (w:World) (K:Int->Bool->b_):Prop:=
 fA Tryz.prog 286 [.pointer a,.string b] [.one (.int .i64),.one .bool] w K
theorem um {a b w K c}:jL a b w K->(∀d e w,K d e w->c d e w)->jL a b w c:=fA.mono
def zY (b:eY) (w:World) (K:ByteArray->b_):Prop:=
 fA Tryz.prog 287 [.slice b.a b.len b.cap] [.one .str] w K
theorem Yl {a w K b}:zY a w K->(∀c w,K c w->b c w)->zY a w b:=fA.mono
def I9 (b:eY) (w:World) (K:Value->b_):Prop:=
 fA Tryz.prog 289 [.slice b.a b.len b.cap] [.one .any] w K
def sN (b:eY) (c:Bool) (w:World) (K:Int->b_):Prop:=
 fA Tryz.prog 290 [.slice b.a b.len b.cap,.bool c] [.one (.int .i64)] w K
def gK (b:eY) (c:Value) (w:World) (K:Bool->b_):Prop:=
 fA Tryz.prog 291 [.slice b.a b.len b.cap,c] [.one .bool] w K
theorem nD {a b w K c}:gK a b w K->(∀d w,K d w->c d w)->gK a b w c:=fA.mono
def Dh (d:Int) (e:Bool) (b:eY) (f:Int) (g:Bool) (c:eY) (w:World) (K:Bool->b_):Prop:=
 fA Tryz.prog 292 [(.agg ⟨[.int .i64 d,.bool e,.slice b.a b.len b.cap]⟩),(.agg ⟨[.int .i64 f,.bool g,.slice c.a c.len c.cap]⟩)] [.one .bool] w K
def mO (a:eG) (w:World) (K:Int->b_):Prop:=
 fA Tryz.prog 293 [.pointer a] [.one (.int .i64)] w K
theorem Jg {a w K b}:mO a w K->(∀c w,K c w->b c w)->mO a w b:=fA.mono
def uX (b:eY) (w:World) (K:Int->b_):Prop:=
 fA Tryz.prog 294 [.slice b.a b.len b.cap] [.one (.int .i64)] w K
theorem TM {a w K b}:uX a w K->(∀c w,K c w->b c w)->uX a w b:=fA.mono
def kJ (a b:Int) (w:World) (K:Int->b_):Prop:=
 fA Tryz.prog 295 [.int .i64 a,.int .i64 b] [.one (.int .i64)] w K
theorem Aq {a b w K c}:kJ a b w K->(∀d w,K d w->c d w)->kJ a b w c:=fA.mono
def vF (b:eY) (c:Int) (w:World) (K:b_):Prop:=
 fA Tryz.prog 297 [.slice b.a b.len b.cap,.int .i64 c] [] w K
abbrev FM:FuncId:=298
def EW (a:Value) (b:Addr) (w:World) (K:b_):Prop:=
 fA Tryz.prog 298 [a,(.pointer (some b))] [] w K
def Aj (a b c d e f g:Int) (h i:Bool) (j k:eY) (w:World) (K:Int->b_):Prop:=
 fA Tryz.prog 299 [.agg ⟨fG a b c d e f g h i j k⟩] [.one (.int .i64)] w K
theorem Yt {a b c d e f g h i j k w K l}:Aj a b c d e f g h i j k w K->(∀m w,K m w->l m w)->Aj a b c d e f g h i j k w l:=fA.mono
def jX (a:Value) (w:World) (K:eY->b_):Prop:=
 fA Tryz.prog 300 [a] [.one .slice] w K
theorem D7 {a w K b}:jX a w K->(∀c w,K c w->b c w)->jX a w b:=fA.mono
def uZ (a b c d e f g:Int) (h i:Bool) (j k:eY) (w:World) (K:Bool->b_):Prop:=
 fA Tryz.prog 301 [.agg ⟨fG a b c d e f g h i j k⟩] [.one .bool] w K
theorem TP {a b c d e f g h i j k w K l}:uZ a b c d e f g h i j k w K->(∀m w,K m w->l m w)->uZ a b c d e f g h i j k w l:=fA.mono
def vk (c d e:Int) (b:eY) (w:World) (K:Int->b_):Prop:=
 fA Tryz.prog 302 [(.agg ⟨[.int .i64 c,.int .i64 d,.int .i64 e,.slice b.a b.len b.cap]⟩)] [.one (.int .i64)] w K
theorem TS {a b c d w K e}:vk a b c d w K->(∀f w,K f w->e f w)->vk a b c d w e:=fA.mono
def wI (c:Int) (b:eY) (w:World) (K:Bool->b_):Prop:=
 fA Tryz.prog 303 [.int .i64 c,.slice b.a b.len b.cap] [.one .bool] w K
theorem NY {a b w K c}:wI a b w K->(∀d w,K d w->c d w)->wI a b w c:=fA.mono
def DX (b:eY) (w:World) (K:eY->Int->Int->Int->Int->Int->Int->Int->Bool->Bool->eY->eY->Int->Int->b_):Prop:=
 fA Tryz.prog 304 [.slice b.a b.len b.cap] [.agg amf,.one (.int .i64)] w K
def qB (a:eY) (b c d e f g h:Int) (i j:Bool) (k l:eY) (m:Int) (w:World) (K:Int->Int->Int->Int->b_):Prop:=
 fA Tryz.prog 305 [.agg ⟨zU a b c d e f g h i j k l m⟩] [.agg [(.int .i64),(.int .i64),(.int .i64)],.one (.int .i64)] w K
def EY (c d:Int) (b:eY) (w:World) (K:Int->Int->Bool->eY->Int->b_):Prop:=
 fA Tryz.prog 307 [.int .i64 c,.int .i64 d,.slice b.a b.len b.cap] [.agg [(.int .i64),(.int .i64),.bool,.slice],.one (.int .i64)] w K
def qN (a:Int) (w:World) (K:Bool->b_):Prop:=
 fA Tryz.prog 308 [.int .i64 a] [.one .bool] w K
theorem Iw {a w K b}:qN a w K->(∀c w,K c w->b c w)->qN a w b:=fA.mono
def qR (a b c d:Int) (w:World) (K:eY->b_):Prop:=
 fA Tryz.prog 318 [.int .i64 a,.int .i64 b,.int .i64 c,.int .i64 d] [.one .slice] w K
theorem IB {a b c d w K e}:qR a b c d w K->(∀f w,K f w->e f w)->qR a b c d w e:=fA.mono
def TL (a b:Int) (c:Addr) (w:World) (K:Int->b_):Prop:=
 fA Tryz.prog 319 [.int .i64 a,.int .i64 b,(.pointer (some c))] [.one (.int .i64)] w K
def mJ (a:eG) (b:Int) (w:World) (K:Value->b_):Prop:=
 fA Tryz.prog 335 [.pointer a,.int .i64 b] [.one .any] w K
theorem Je {a b w K c}:mJ a b w K->(∀d w,K d w->c d w)->mJ a b w c:=fA.mono
def xO (a:ByteArray) (b:Int) (w:World) (K:Int->b_):Prop:=
 fA Tryz.prog 336 [.string a,.int .i64 b] [.one (.int .i64)] w K
theorem V6 {a b w K c}:xO a b w K->(∀d w,K d w->c d w)->xO a b w c:=fA.mono
abbrev Xb:FuncId:=337
def VU (a:Value) (b:Addr) (w:World) (K:b_):Prop:=
 fA Tryz.prog 337 [a,(.pointer (some b))] [] w K
def gV (b:eY) (c:Value) (w:World) (K:Int->b_):Prop:=
 fA Tryz.prog 338 [.slice b.a b.len b.cap,c] [.one (.int .i64)] w K
theorem oI {a b w K c}:gV a b w K->(∀d w,K d w->c d w)->gV a b w c:=fA.mono
def r_ (b c:eY) (w:World) (K:Bool->b_):Prop:=
 fA Tryz.prog 339 [.slice b.a b.len b.cap,.slice c.a c.len c.cap] [.one .bool] w K
theorem Qi {a b w K c}:r_ a b w K->(∀d w,K d w->c d w)->r_ a b w c:=fA.mono
def mg (a:Int) (w:World) (K:Bool->b_):Prop:=
 fA Tryz.prog 340 [.int .i64 a] [.one .bool] w K
theorem Dk {a w K b}:mg a w K->(∀c w,K c w->b c w)->mg a w b:=fA.mono
def jd (a:eY) (b c d e f g h:Int) (i j:Bool) (k l:eY) (m n:Int) (w:World) (K:Int->b_):Prop:=
 fA Tryz.prog 342 [.agg ⟨zU a b c d e f g h i j k l m⟩,.int .i64 n] [.one (.int .i64)] w K
theorem nX {a b c d e f g h i j k l m n w K o}:jd a b c d e f g h i j k l m n w K->(∀p w,K p w->o p w)->jd a b c d e f g h i j k l m n w o:=fA.mono
def uz (a b:Int) (w:World) (K:Int->b_):Prop:=
 fA Tryz.prog 348 [.int .i64 a,.int .i64 b] [.one (.int .i64)] w K
theorem D8 {a b w K c}:uz a b w K->(∀d w,K d w->c d w)->uz a b w c:=fA.mono
abbrev yT:FuncId:=359
def Hg (a:Value) (b c:Addr) (w:World) (K:b_):Prop:=
 fA Tryz.prog 359 [a,(.pointer (some b)),(.pointer (some c))] [] w K
theorem Ii {o p q r s t u v x y z A B C D E F G H I J L M N O P Q R T U V W X Y Z aa b w K}:fU (Aa o p q r s t u v x y z A B C D E F G H I J L M N O P Q R T U V W X Y Z aa b w K)
 (Al w (.cells ⟨(jo o p q r s t u v x y z A B C D E F G H I J L M N O P Q R T U V W X Y Z aa)⟩ 28) λd w3=>let e:Bool->b_:=λj6 f=>((cond j6 (pF f λr8 w9=>K r8 w9) (rX f d λao ap aq ar au av aw ax ay az aA aB aC aD aE aF aG aH aI aJ aK aL aM aN aO aP aQ aR aS aT aU aV aW aX aY aZ=>zV ao ap aq ar au av aw ax ay az aA aB aC aD aE aF aG aH aI aJ aK aL aM aN aO aP aQ aR aS aT aU aV aW aX aY aZ f λg a0 ac=>let ad:Bool->Prop:=λa2=>((cond a2 (K false ac) (iQ (S:=Int×Unit) (λh i a3=>(cond (decide (h.1<(b.len:Int))) (iP b 1 h.1 λa5=>Ld .slice i a5 λa6=>yI g a6 i λj a7 a8=>iQ (S:=Int×Unit) (λk c a9=>(cond (decide (k.1<(j.len:Int))) (iP j 2 k.1 λae=>eF c (ae.add 0) λba=>Ld .slice c (ae.add 1) λl=>Al c (.cells ⟨[.int .i64 0,.slice none 0 0]⟩ 42) λaf bb=>iL [.int .i64 ba,.slice l.a l.len l.cap] bb af 0 λm=>let ag:Bool->Prop:=λbc=>((cond bc (K false m) (a9 ((IntKind.i64.wrap (k.1+1)),()) m)))
 eF m af λbd=>(cond (decide (bd>=0)) (ag true) (ag (a7 !=3)))) (let ah:Bool->b_:=λbe ai=>((cond be (K false ai) (a3 ((IntKind.i64.wrap (h.1+1)),()) ai)))
 n_ g c λbW bf bX bY bZ b0 b1 aj=>(cond (decide ((bf.len:Int)>0)) (ah true aj) (ah (decide ((j.len:Int)>1)) aj))))) (0,()) a8) (pF i λbg bh=>K bg bh))) (0,()) ac)))
 (cond (Option.isNone g) (ad true) (ad (a0 !=0))))))
 rX w3 d λbi bj bk bl bm bn bo bp bq br bs bt bu bv bw bx bz bA bB bC bD bE bF bG bH bI bJ bK bL bM bN bO bP bQ bR bS=>Ce bi bj bk bl bm bn bo bp bq br bs bt bu bv bw bx bz bA bB bC bD bE bF bG bH bI bJ bK bL bM bN bO bP bQ bR bS w3 λbT ak=>(cond (!bT) (e true ak) (xR b 30 2000 ak λbU n=>(cond (!bU) (e true n) (Ld .slice n (d.add 35) λbV=>e (decide ((bV.len:Int)>0)) n))))):=okF iE Tryz.func3 (eX (eX (eX (eX (.seq (eX (.blk (.loop [(41,(.int .i64))] (eX (eX (.seq (.blk (eX (eX (.seq (eX (.blk (.loop [(53,(.int .i64))] .leaf))) .leaf)))) .leaf)))))) .leaf))))) (by kernel_rfl)
theorem RG {b c d e f g h i j k l m n o p q r s t u v x y z A B C D E F G H I J L M w K}:fU (Ce b c d e f g h i j k l m n o p q r s t u v x y z A B C D E F G H I J L M w K)
 (Al w (.cells ⟨(jo b c d e f g h i j k l m n o p q r s t u v x y z A B C D E F G H I J L M)⟩ 28) λN O=>let P:Bool->b_:=λQ R=>(K Q R)
 rX O N λS T U V W X Y Z aa ab ac ad ae af ag ah ai aj ak al am an ao ap aq ar au av aw ax ay az aA aB aC aD=>sF S T U V W X Y Z aa ab ac ad ae af ag ah ai aj ak al am an ao ap aq ar au av aw ax ay az aA aB aC aD O λaE a=>(cond aE (rX a N λaF aG aH aI aJ aK aL aM aN aO aP aQ aR aS aT aU aV aW aX aY aZ a0 a1 a2 a4 a5 a6 a7 a8 a9 ba bb bc bd be bf=>sG aF aG aH aI aJ aK aL aM aN aO aP aQ aR aS aT aU aV aW aX aY aZ a0 a1 a2 a4 a5 a6 a7 a8 a9 ba bb bc bd be bf a λbg bh=>P (bg==0) bh) (P false a))):=okF iE Tryz.func4 .leaf (by kernel_rfl)
theorem Xn {a c b w K}:fU (xR a c b w K)
 (iC (Value.int .i64 b)=true/\
 Al w (.cells ⟨[.int .i64 b]⟩ 3) λe d=>(cond (decide ((a.len:Int)>c)) (K false d) (nM a (Value.func (.func 13) #[] #[(Value.pointer (some e))]) d λf g=>K (!f) g))):=okF iE Tryz.func5 .leaf (by kernel_rfl)
theorem Y_ {f g h i j k l m n o p q r s t u v x y z A B C D E F G H I J L M N O P Q w K}:fU (zV f g h i j k l m n o p q r s t u v x y z A B C D E F G H I J L M N O P Q w K)
 (Al w (.cells ⟨(jo f g h i j k l m n o p q r s t u v x y z A B C D E F G H I J L M N O P Q)⟩ 28) λa R=>rX R a λx4 x5 x6 x7 x8 x9 aM aN aO aP aQ aR aS aT aU aV aW aX aY aZ a0 a1 a2 a4 a5 a6 a7 a8 a9 ba bb bc bd be bf bg=>Jc x4 x5 x6 x7 x8 x9 aM aN aO aP aQ aR aS aT aU aV aW aX aY aZ a0 a1 a2 a4 a5 a6 a7 a8 a9 ba bb bc bd be bf bg R λbh S d=>(cond (S !=0) (K none S d) (rX d.drew a λT U V W X Y Z aa ab ac ad ae af ag ah ai aj ak al am an ao ap aq ar au av aw ax ay az aA aB aC aD aE=>uY d.drew λbi aF=>S_ (jo T U V W X Y Z aa ab ac ad ae af ag ah ai aj ak al am an ao ap aq ar au av aw ax ay az aA aB aC aD aE) aF a 0 (
 Al aF (.cells ⟨(ami none none T U V W X Y Z aa ab ac ad ae af ag ah ai aj ak al am an ao ap aq ar au av aw ax ay az aA aB aC aD aE bh bi 0 1)⟩ 64) λe b=>eF b (a.add 23) λbj=>eF b (a.add 24) λbk=>eF b (a.add 34) λbl=>ug bj bk bl b λbm bw bn=>Pt (some e) λbo=>St bn bo (.pointer bm) λc=>eF c (a.add 23) λbp=>eF c (a.add 24) λbq=>eF c (a.add 34) λbr=>ug bp bq br c λbs bx bt=>Pt (some e) λbu=>St bt (bu.add 1) (.pointer bs) λbv=>K (some e) 0 bv)))):=okF iE Tryz.func7 .leaf (by kernel_rfl)
theorem Nl {a f w K}:fU (yI a f w K)
 (kG a w λh g=>(cond (!h) (K ⟨none,0,0⟩ 1 g) (wL f g λi j k l m n o p q r s t u=>Al u (.cells ⟨(fG 0 0 0 0 0 0 0 false false ⟨none,0,0⟩ ⟨none,0,0⟩)⟩ 68) λb v=>iL (fG i j k l m n o p q r s) v b 0 λc=>(cond (t !=0) (ji a 1 c λx y z=>K x y z) (Pt a λA=>Ld .ptr c.drew (A.add 38) λB=>eF c.drew (b.add 6) λC=>mQ B C c.drew λD d=>(cond (!D) (ji a 9 d λE F G=>K E F G) (gI d b λH I J L M N O P Q R S=>uV a 255 H I J L M N O P Q R S d λT U V W X Y Z aa ab ac ad ae af ag=>iL (fG T U V W X Y Z aa ab ac ad) ag b 0 λe=>(cond (!af) (ji a ae e λah ai aj=>K ah ai aj) (gI e b λak al am an ao ap aq ar au av aw=>rG a ak al am an ao ap aq ar au av aw false e λax ay az=>K ax ay az))))))))):=okF iE Tryz.func8 .leaf (by kernel_rfl)
theorem Lr {d w K}:fU (n_ d w K)
 (Al w (.cells ⟨[.int .i64 0,.slice none 0 0,.slice none 0 0,.int .i64 0,.int .i64 0,.int .i64 0,.slice none 0 0]⟩ 46) λb A=>kG d A λB h=>(cond (!B) (iL [.int .i64 0,.slice none 0 0,.slice none 0 0,.int .i64 0,.int .i64 0,.int .i64 0,.slice none 0 0] h b 0 λe=>eF e (b.add 0) λC=>Ld .slice e (b.add 1) λD=>Ld .slice e (b.add 2) λE=>eF e (b.add 3) λF=>eF e (b.add 4) λG=>eF e (b.add 5) λH=>Ld .slice e (b.add 6) λI=>K C D E F G H I e) (Pt d λJ=>Ld .ptr h (J.add 38) λL=>uh L h λM i j N O P k Q=>Al Q (.cells ⟨[.int .i64 0,.slice none 0 0,.slice none 0 0,.int .i64 0,.int .i64 0,.int .i64 0,.slice none 0 0]⟩ 46) λc R=>iL [.int .i64 M,.slice i.a i.len i.cap,.slice j.a j.len j.cap,.int .i64 N,.int .i64 O,.int .i64 P,.slice k.a k.len k.cap] R c 0 λl=>Pt d λS=>Ld .ptr l.drew S λT=>Pt d λs=>Ld .ptr l.drew (s.add 1) λt=>jD T l.drew λU u=>u.cell? (s.add 1)=some (Value.pointer t)/\
 jD t u λV W=>St W (c.add 3) (.int .i64 (IntKind.i64.wrap (U+V))) λm=>Pt d λX=>Ld .ptr m.drew X λY=>Pt d λv=>Ld .ptr m.drew (v.add 1) λx=>jO Y m.drew λZ y=>y.cell? (v.add 1)=some (Value.pointer x)/\
 jO x y λaa ab=>St ab (c.add 4) (.int .i64 (IntKind.i64.wrap (Z+aa))) λn=>eF n (c.add 5) λac=>eF n (c.add 4) λad=>St n (c.add 5) (.int .i64 (IntKind.i64.wrap (ac+ad))) λz=>Pt d λae=>Ld .ptr z (ae.add 39) λaf=>j_ af z λo ag=>St ag (c.add 6) (.slice o.a o.len o.cap) λf=>eF f (c.add 0) λah=>Ld .slice f (c.add 1) λp=>Ld .slice f (c.add 2) λq=>eF f (c.add 3) λai=>eF f (c.add 4) λaj=>eF f (c.add 5) λak=>Ld .slice f (c.add 6) λr=>iL [.int .i64 ah,.slice p.a p.len p.cap,.slice q.a q.len q.cap,.int .i64 ai,.int .i64 aj,.int .i64 ak,.slice r.a r.len r.cap] f b 0 λg=>eF g (b.add 0) λal=>Ld .slice g (b.add 1) λam=>Ld .slice g (b.add 2) λan=>eF g (b.add 3) λao=>eF g (b.add 4) λap=>eF g (b.add 5) λaq=>Ld .slice g (b.add 6) λar=>K al am an ao ap aq ar g))):=okF iE Tryz.func9 .leaf (by kernel_rfl)
theorem RH {d e f g h i j k l m n o p q r s t u v x y z A B C D E F G H I J L M N O w K}:fU (sF d e f g h i j k l m n o p q r s t u v x y z A B C D E F G H I J L M N O w K)
 (Al w (.cells ⟨(jo d e f g h i j k l m n o p q r s t u v x y z A B C D E F G H I J L M N O)⟩ 28) λb a=>let c:Bool->Prop:=λP=>(K P a)
 Ld .slice a (b.add 16) λQ=>(cond (decide ((Q.len:Int)<=8)) (Ld .slice a (b.add 17) λR=>(cond (decide ((R.len:Int)<=4)) (Ld .slice a (b.add 35) λS=>c (decide ((S.len:Int)<=12))) (c false))) (c false))):=okF iE Tryz.func10 .leaf (by kernel_rfl)
theorem RJ {d e f g h i j k l m n o p q r s t u v x y z A B C D E F G H I J L M N O w K}:fU (sG d e f g h i j k l m n o p q r s t u v x y z A B C D E F G H I J L M N O w K)
 (Al w (.cells ⟨(jo d e f g h i j k l m n o p q r s t u v x y z A B C D E F G H I J L M N O)⟩ 28) λa P=>let Q:Bool->b_:=λS b=>((cond S (K 1 b) (rX b a λT U V W X Y Z aa ab ac ad ae af ag ah ai aj ak al am an ao ap aq ar au av aw ax ay az aA aB aC aD aE=>sJ T U V W X Y Z aa ab ac ad ae af ag ah ai aj ak al am an ao ap aq ar au av aw ax ay az aA aB aC aD aE b λaF R=>(cond aF (K 9 R) (K 0 R)))))
 rX P a λaG aH aI aJ aK aL aM aN aO aP aQ aR aS aT aU aV aW aX aY aZ a0 a1 a2 a4 a5 a6 a7 a8 a9 ba bb bc bd be bf bg=>o7 aG aH aI aJ aK aL aM aN aO aP aQ aR aS aT aU aV aW aX aY aZ a0 a1 a2 a4 a5 a6 a7 a8 a9 ba bb bc bd be bf bg P λbh c=>(cond (!bh) (Q true c) (rX c a λbi bj bk bl bm bn bo bp bq br bs bt bu bv bw bx bz bA bB bC bD bE bF bG bH bI bJ bK bL bM bN bO bP bQ bR bS=>sH bi bj bk bl bm bn bo bp bq br bs bt bu bv bw bx bz bA bB bC bD bE bF bG bH bI bJ bK bL bM bN bO bP bQ bR bS c λbT bU=>Q (!bT) bU))):=okF iE Tryz.func11 .leaf (by kernel_rfl)
theorem vS {a b w K}:fU (nM a b w K)
 (o9 a b w λc d=>K (decide (c>=0)) d):=okF iE Tryz.func12 .leaf (by kernel_rfl)
theorem RF {a0 f0 w K}:fU (TK a0 f0 w K)
 (eF w f0 λa=>K (decide ((a0.len:Int)>a)) w):=okF iE Tryz.func13 .leaf (by kernel_rfl)
theorem Ze {k l m n o p q r s t u v x y z A B C D E F G H I J L M N O P Q R T U V W w K}:fU (Jc k l m n o p q r s t u v x y z A B C D E F G H I J L M N O P Q R T U V W w K)
 (Al w (.cells ⟨(jo k l m n o p q r s t u v x y z A B C D E F G H I J L M N O P Q R T U V W)⟩ 28) λa X=>rX X a λx4 x5 x6 x7 x8 x9 ak al am an ao ap aq ar au av aw ax ay az aA aB aC aD aE aF aG aH aI aJ aK aL aM aN aO aP=>qw x4 x5 x6 x7 x8 x9 ak al am an ao ap aq ar au av aw ax ay az aA aB aC aD aE aF aG aH aI aJ aK aL aM aN aO aP X λY h=>(cond (Y !=0) (K none Y h) (rX h a λaQ aR aS aT aU aV aW aX aY aZ a0 a1 a2 a4 a5 a6 a7 a8 a9 ba bb bc bd be bf bg bh bi bj bk bl bm bn bo bp bq=>Al h (.cells ⟨(akg none none none none none aQ aR aS aT aU aV aW aX aY aZ a0 a1 a2 a4 a5 a6 a7 a8 a9 ba bb bc bd be bf bg bh bi bj bk bl bm bn bo bp bq 0)⟩ 105) λe g=>Ld .slice g (a.add 17) λbr=>eF g (a.add 18) λbs=>eF g (a.add 19) λbt=>Ad br bs bt g λbu b6 bv=>Pt (some e) λbw=>St bv bw (.pointer bu) λi=>Ld .slice i (a.add 16) λbx=>eF i (a.add 20) λbz=>xX (bx.len:Int) bz i λbA b7 bB=>Pt (some e) λbC=>St bB (bC.add 1) (.pointer bA) λZ=>eF Z (a.add 21) λbD=>zX bD Z λbE b8 bF=>Pt (some e) λbG=>St bF (bG.add 2) (.pointer bE) λaa=>eF aa (a.add 22) λbH=>sK bH aa λbI b9 bJ=>Pt (some e) λbK=>St bJ (bK.add 3) (.pointer bI) λab=>eF ab (a.add 22) λbL=>yg bL ab λbM ca bN=>Pt (some e) λbO=>St bN (bO.add 4) (.pointer bM) λac=>Ld .slice ac (a.add 35) λad=>iQ (S:=Int×Unit) (λj b bP=>(cond (decide (j.1<(ad.len:Int))) (iP ad 7 j.1 λf=>eF b (f.add 0) λbQ=>eF b (f.add 1) λbR=>eF b (f.add 2) λbS=>eF b (f.add 3) λbT=>eF b (f.add 4) λbU=>eF b (f.add 5) λbV=>eF b (f.add 6) λbW=>Al b (.cells ⟨[.int .i64 0,.int .i64 0,.int .i64 0,.int .i64 0,.int .i64 0,.int .i64 0,.int .i64 0]⟩ 121) λc bX=>iL [.int .i64 bQ,.int .i64 bR,.int .i64 bS,.int .i64 bT,.int .i64 bU,.int .i64 bV,.int .i64 bW] bX c 0 λd=>eF d (c.add 0) λbY=>eF d (c.add 1) λbZ=>eF d (c.add 2) λb0=>eF d (c.add 3) λb1=>eF d (c.add 4) λb2=>eF d (c.add 5) λb3=>eF d (c.add 6) λb4=>Ky (some e) bY bZ b0 b1 b2 b3 b4 d λcb b5=>bP ((IntKind.i64.wrap (j.1+1)),()) b5) (K (some e) 0 b))) (0,()) ac))):=okF iE Tryz.func18 (eX (eX (eX (eX (eX (eX (eX (eX (.seq (eX (.blk (.loop [(76,(.int .i64))] .leaf))) .leaf))))))))) (by kernel_rfl)
theorem Uf {w K}:fU (uY w K)
 (VA 3 1 8 [(Value.int .i64 0)] 14 14 w λb c=>Al c (.cells ⟨[.slice b.a b.len b.cap]⟩ 124) λd e=>K (some d) e):=okF iE Tryz.func19 .leaf (by kernel_rfl)
theorem Zd {a b c w K}:fU (ug a b c w K)
 (let d:Bool->b_:=λk e=>((cond k (K none 1 e) (Al e (.map #[] 0) λs l=>Al l (.cells ⟨[.map (some e.heap.size),.int .i64 a,.int .i64 b,.int .i64 c]⟩ 128) λm n=>K (some m) 0 n)))
 iY Tryz.prog [.one .bool] (Value.func (.func 52) #[] #[]) [(Value.int .i64 a),(Value.int .i64 0),(Value.int .i64 1073741824)] w λo f=>∃g:Bool,o=(Value.bool g)/\
 (cond (!g) (d true f) (iY Tryz.prog [.one .bool] (Value.func (.func 52) #[] #[]) [(Value.int .i64 b),(Value.int .i64 0),(Value.int .i64 1073741824)] f λp h=>∃i:Bool,p=(Value.bool i)/\
 (cond (!i) (d true h) (iY Tryz.prog [.one .bool] (Value.func (.func 52) #[] #[]) [(Value.int .i64 c),(Value.int .i64 1),(Value.int .i64 1099511627776)] h λq r=>∃j:Bool,q=(Value.bool j)/\
 d (!j) r))))):=okF iE Tryz.func20 .leaf (by kernel_rfl)
theorem Jz {a w K}:fU (kG a w K)
 (let b:Bool->Prop:=λc=>(K c w)
 (cond (!(Option.isNone a)) (Pt a λd=>Ld .ptr w (d.add 38) λe=>b (!(Option.isNone e))) (b false))):=okF iE Tryz.func21 .leaf (by kernel_rfl)
theorem Zn {e w K}:fU (wL e w K)
 (Al w (.cells ⟨(fG 0 0 0 0 0 0 0 false false ⟨none,0,0⟩ ⟨none,0,0⟩)⟩ 68) λb q=>zA e false q λf r s k t=>Al t (.cells ⟨[.slice none 0 0,.int .i64 0,.int .i64 0]⟩ 130) λc u=>iL [.slice f.a f.len f.cap,.int .i64 r,.int .i64 s] u c 0 λg=>(cond (k !=0) (iL (fG 0 0 0 0 0 0 0 false false ⟨none,0,0⟩ ⟨none,0,0⟩) g b 0 λl=>gI l b λv x y z A B C D E F G=>K v x y z A B C D E F G k l) (eF g (c.add 1) λH=>nJ e 1 0 H λh=>Al g (.cells ⟨[.slice h.a h.len h.cap]⟩ 37) λI J=>oL ⟨(some I),1,1⟩ J λL d=>(cond (!L) (iL (fG 0 0 0 0 0 0 0 false false ⟨none,0,0⟩ ⟨none,0,0⟩) d b 0 λm=>gI m b λM N O P Q R S T U V W=>K M N O P Q R S T U V W 5 m) (Ld .slice d (c.add 0) λX=>eF d (c.add 1) λY=>eF d (c.add 2) λZ=>jY X Y Z d λaa ab ac ad ae af ag ah ai aj ak al=>Al al (.cells ⟨(fG 0 0 0 0 0 0 0 false false ⟨none,0,0⟩ ⟨none,0,0⟩)⟩ 68) λi am=>iL (fG aa ab ac ad ae af ag ah ai aj ak) am i 0 λn=>gI n i λan ao ap aq ar au av aw ax ay az=>ni an ao ap aq ar au av aw ax ay az n λaA j=>(cond (aA !=0) (iL (fG 0 0 0 0 0 0 0 false false ⟨none,0,0⟩ ⟨none,0,0⟩) j b 0 λo=>gI o b λaB aC aD aE aF aG aH aI aJ aK aL=>K aB aC aD aE aF aG aH aI aJ aK aL 4 o) (gI j i λaM aN aO aP aQ aR aS aT aU aV aW=>iL (fG aM aN aO aP aQ aR aS aT aU aV aW) j b 0 λp=>gI p b λaX aY aZ a1 a2 a4 a5 a6 a7 a8 a9=>K aX aY aZ a1 a2 a4 a5 a6 a7 a8 a9 0 p))))))):=okF iE Tryz.func22 .leaf (by kernel_rfl)
theorem Ls {b a w K}:fU (ji b a w K)
 (Pt b λc=>Ld .ptr w (c.add 39) λd=>jT d a w λf e=>K ⟨none,0,0⟩ a e):=okF iE Tryz.func23 .leaf (by kernel_rfl)
theorem JL {a c w K}:fU (mQ a c w K)
 (let d:Bool->b_:=λe f=>(K e f)
 jm a w λg b=>(cond g (Pt a λh=>Ld .ptr b h λi=>oZ i c b λj k=>d j k) (d false b))):=okF iE Tryz.func24 .leaf (by kernel_rfl)
theorem JA {q t u v x y z A B C D E F w K}:fU (uV q t u v x y z A B C D E F w K)
 (Al w (.cells ⟨(fG u v x y z A B C D E F)⟩ 68) λb w4=>Al w4 (.cells ⟨(fG 0 0 0 0 0 0 0 false false ⟨none,0,0⟩ ⟨none,0,0⟩)⟩ 68) λe G=>gI G b λx8 x9 ae af ag ah ai aj ak al am=>uj x8 x9 ae af ag ah ai aj ak al am G λan i=>(cond an (gI i b λao ap aq ar au av aw ax ay az aA=>iL (fG ao ap aq ar au av aw ax ay az aA) i e 0 λH=>gI H e λaB aC aD aE aF aG aH aI aJ aK aL=>K aB aC aD aE aF aG aH aI aJ aK aL 0 true H) (gI i b λaM aN aO aP aQ aR aS aT aU aV aW=>Al i (.cells ⟨(fG 0 0 0 0 0 0 0 false false ⟨none,0,0⟩ ⟨none,0,0⟩)⟩ 68) λh aX=>iL (fG aM aN aO aP aQ aR aS aT aU aV aW) aX h 0 λaY=>St aY (h.add 2) (.int .i64 0) λaZ=>St aZ (h.add 8) (.bool false) λa2=>St a2 (h.add 10) (.slice none 0 0) λf=>Pt q λj=>Ld .ptr f.drew (j.add 1) λk=>gI f.drew b λa3 a4 a6 a8 a9 ba bb bc bd be bf=>eF f.drew (b.add 2) λl=>Ld .bool f.drew (b.add 8) λm=>Ld .slice f.drew (b.add 10) λd=>gI f.drew h λI J L M N O P Q R S T=>Pt q λn=>eF f.drew (n.add 40) λo=>qh t a3 a4 a6 a8 a9 ba bb bc bd be bf f.drew λbg g=>g.cell? (n.add 40)=some (Value.int .i64 o)/\
 S_ (fG I J L M N O P Q R S T) g h 0 (
 g.cell? (b.add 10)=some (Value.slice d.a d.len d.cap)/\
 g.cell? (b.add 8)=some (Value.bool m)/\
 g.cell? (b.add 2)=some (Value.int .i64 l)/\
 g.cell? (j.add 1)=some (Value.pointer k)/\
 mG I J L M N O P Q R S T g λbh c=>c.cell? (n.add 40)=some (Value.int .i64 o)/\
 c.cell? (b.add 10)=some (Value.slice d.a d.len d.cap)/\
 c.cell? (b.add 8)=some (Value.bool m)/\
 c.cell? (b.add 2)=some (Value.int .i64 l)/\
 c.cell? (j.add 1)=some (Value.pointer k)/\
 uS c bh λbi=>c.cell? (n.add 40)=some (Value.int .i64 o)/\
 c.cell? (b.add 10)=some (Value.slice d.a d.len d.cap)/\
 c.cell? (b.add 8)=some (Value.bool m)/\
 c.cell? (b.add 2)=some (Value.int .i64 l)/\
 c.cell? (j.add 1)=some (Value.pointer k)/\
 kY k bg l m d bi o c λbj r bk U V=>let W:Bool->Prop:=λbl=>((cond bl (rZ U V λbm bn=>iL (fG 0 0 0 0 0 0 0 false false ⟨none,0,0⟩ ⟨none,0,0⟩) bn e 0 λX=>gI X e λbo bp bq br bs bt bu bv bw bx bz=>K bo bp bq br bs bt bu bv bw bx bz bm false X) (Ko 5 bj V λbA bB=>wL bA bB λbC bD bE bF bG bH bI bJ bK bL bM cz bN=>Al bN (.cells ⟨(fG 0 0 0 0 0 0 0 false false ⟨none,0,0⟩ ⟨none,0,0⟩)⟩ 68) λp bO=>iL (fG bC bD bE bF bG bH bI bJ bK bL bM) bO p 0 λbP=>St bP (p.add 10) (.slice r.a r.len r.cap) λY=>gI Y p λbQ bR bS bT bU bV bW bX bY bZ b0=>ni bQ bR bS bT bU bV bW bX bY bZ b0 Y λb1 s=>(cond (b1 !=0) (iL (fG 0 0 0 0 0 0 0 false false ⟨none,0,0⟩ ⟨none,0,0⟩) s e 0 λZ=>gI Z e λb2 b3 b4 b5 b6 b7 b8 b9 ca cb cc=>K b2 b3 b4 b5 b6 b7 b8 b9 ca cb cc 1 false Z) (gI s p λcd ce cf cg ch ci cj ck cl cm cn=>iL (fG cd ce cf cg ch ci cj ck cl cm cn) s e 0 λaa=>gI aa e λco cp cq cr cs ct cu cv cw cx cy=>K co cp cq cr cs ct cu cv cw cx cy 0 true aa)))))
 (cond (U !=0) (W true) (W (!bk))))))):=okF iE Tryz.func25 .leaf (by kernel_rfl)
theorem FP {a t u v x y z A B C D E F w K}:fU (rG a t u v x y z A B C D E F w K)
 (Al w (.cells ⟨(fG t u v x y z A B C D E)⟩ 68) λG H=>gI H G λN O P Q R S T U V W X=>Jd N O P Q R S T U V W X H λY Z aa ab ac ad ae af ag ah ai aj ak=>Al ak (.cells ⟨(fG 0 0 0 0 0 0 0 false false ⟨none,0,0⟩ ⟨none,0,0⟩)⟩ 68) λc al=>iL (fG Y Z aa ab ac ad ae af ag ah ai) al c 0 λb=>(cond (!aj) (gI b G λam an ao ap aq ar au av aw ax ay=>xJ am an ao ap aq ar au av aw ax ay F b λaz aA=>kL a 3 az aA λaB aC aD=>K aB aC aD) (let I:Int->Addr->Int->b_:=λaE aF J p=>((cond (J !=0) (ji a J p λaG aH aI=>K aG aH aI) (gI p aF λaJ aK aL aM aN aO aP aQ aR aS aT=>He a aJ aK aL aM aN aO aP aQ aR aS aT p λaU aV aW aX aY aZ a1 a3 a4 a6 a7 a8=>MJ a aE aU aV aW aX aY aZ a1 a3 a4 a6 a7 a8 λa9 ba=>K a9 0 ba)))
 Pt a λq=>Ld .ptr b.drew (q.add 38) λd=>gI b.drew c λe f g h i j k l m n o=>(qO d e f g h i j k l m n o b.drew λbb bc bd be bf bg bh bi bj bk bl bm bn bo=>Al bo (.cells ⟨(fG 0 0 0 0 0 0 0 false false ⟨none,0,0⟩ ⟨none,0,0⟩)⟩ 68) λL r=>S_ (fG e f g h i j k l m n o) r c 0 (
 r.cell? (q.add 38)=some (Value.pointer d)/\
 iL (fG bc bd be bf bg bh bi bj bk bl bm) r L 0 λbp=>I bb L bn bp))/\
 (Al b.drew (.cells ⟨(fG 0 0 0 0 0 0 0 false false ⟨none,0,0⟩ ⟨none,0,0⟩)⟩ 68) λM s=>S_ (fG e f g h i j k l m n o) s c 0 (
 s.cell? (q.add 38)=some (Value.pointer d)/\
 qO d e f g h i j k l m n o s λbq br bs bt bu bv bw bx bz bA bB bC bD bE=>iL (fG br bs bt bu bv bw bx bz bA bB bC) bE M 0 λbF=>I bq M bD bF))))):=okF iE Tryz.func26 .leaf (by kernel_rfl)
theorem Ij {p w K}:fU (uh p w K)
 (Al w (.cells ⟨[.int .i64 0,.slice none 0 0,.slice none 0 0,.int .i64 0,.int .i64 0,.int .i64 0,.slice none 0 0]⟩ 46) λb U=>jm p U λV s=>(cond (!V) (iL [.int .i64 0,.slice none 0 0,.slice none 0 0,.int .i64 0,.int .i64 0,.int .i64 0,.slice none 0 0] s b 0 λl=>eF l (b.add 0) λW=>Ld .slice l (b.add 1) λX=>Ld .slice l (b.add 2) λY=>eF l (b.add 3) λZ=>eF l (b.add 4) λaa=>eF l (b.add 5) λab=>Ld .slice l (b.add 6) λac=>K W X Y Z aa ab ac l) (let J:Addr->b_:=λe L=>(Al L (.map #[] 0) λbo ad=>Al ad (.cells ⟨[.map none]⟩ 150) λA ae=>St ae A (.map (some L.heap.size)) λM=>Pt p λaf=>Ld .ptr M (af.add 2) λag=>Cc ag M λah c=>Ez Tryz.prog none [.one (.int .i64),.agg [(.int .i64),(.int .i64),(.int .i64),(.int .i64),(.int .i64),(.int .i64),(.int .i64),.bool]] ah c (λt i N ai=>Al N (.cells ⟨[.int .i64 0,.int .i64 0,.int .i64 0,.int .i64 0,.int .i64 0,.int .i64 0,.int .i64 0,.bool false]⟩ 155) λj aj=>iL [.int .i64 i.2.1.1,.int .i64 i.2.1.2.1,.int .i64 i.2.1.2.2.1,.int .i64 i.2.1.2.2.2.1,.int .i64 i.2.1.2.2.2.2.1,.int .i64 i.2.1.2.2.2.2.2.1,.int .i64 i.2.1.2.2.2.2.2.2.1,.bool i.2.1.2.2.2.2.2.2.2.1] aj j 0 λy=>y.heap[t]? =N.heap[t]? /\
 Ld .map (fF y t) A λak=>Ld .slice (fF y t) (e.add 1) λal=>zS Tryz.prog 3 ak (Value.int .i64 i.1) (Value.int .i64 (al.len:Int)) (fF y t) λf=>Ld .slice f (e.add 1) λam=>eF f (j.add 0) λan=>eF f (j.add 1) λao=>eF f (j.add 2) λap=>eF f (j.add 3) λaq=>eF f (j.add 4) λar=>eF f (j.add 5) λau=>eF f (j.add 6) λav=>Ld .bool f (j.add 7) λaw=>Al f (.cells ⟨[.int .i64 an,.int .i64 ao,.int .i64 ap,.int .i64 aq,.int .i64 ar,.int .i64 au,.int .i64 av,.bool aw]⟩ 155) λax ay=>uQ 155 8 64 [(Value.int .i64 0),(Value.int .i64 0),(Value.int .i64 0),(Value.int .i64 0),(Value.int .i64 0),(Value.int .i64 0),(Value.int .i64 0),(Value.bool false)] am ⟨(some ax),1,1⟩ ay λB az=>St az (e.add 1) (.slice B.a B.len B.cap) λaA=>ai .normal aA)
 (λO=>Pt p λaB=>Ld .ptr O (aB.add 3) λaC=>rM aC O λaD d=>Ez Tryz.prog none [.one (.int .i64),.agg [(.int .i64),(.int .i64),(.int .i64),(.int .i64),(.int .i64)]] aD d (λq u P aE=>Al P (.cells ⟨[.int .i64 0,.int .i64 0,.int .i64 0,.int .i64 0,.int .i64 0]⟩ 162) λm aF=>iL [.int .i64 u.2.1.1,.int .i64 u.2.1.2.1,.int .i64 u.2.1.2.2.1,.int .i64 u.2.1.2.2.2.1,.int .i64 u.2.1.2.2.2.2.1] aF m 0 λv=>v.heap[q]? =P.heap[q]? /\
 Ld .map (fF v q) A λaG=>eF (fF v q) m λaH=>zQ Tryz.prog 3 (.int .i64) aG (Value.int .i64 aH) (Value.int .i64 0) (fF v q) λaI=>St (fF v q) m (Value.int .i64 aI) λo=>Ld .slice o (e.add 2) λaJ=>eF o (m.add 0) λaK=>eF o (m.add 1) λaL=>eF o (m.add 2) λaM=>eF o (m.add 3) λaN=>eF o (m.add 4) λaO=>Al o (.cells ⟨[.int .i64 aK,.int .i64 aL,.int .i64 aM,.int .i64 aN,.int .i64 aO]⟩ 162) λaP aQ=>uQ 162 5 40 [(Value.int .i64 0),(Value.int .i64 0),(Value.int .i64 0),(Value.int .i64 0),(Value.int .i64 0)] aJ ⟨(some aP),1,1⟩ aQ λC aR=>St aR (e.add 2) (.slice C.a C.len C.cap) λaS=>aE .normal aS)
 (λn=>eF n (e.add 0) λaT=>Ld .slice n (e.add 1) λD=>Ld .slice n (e.add 2) λE=>eF n (e.add 3) λaU=>eF n (e.add 4) λaV=>eF n (e.add 5) λaW=>Ld .slice n (e.add 6) λF=>iL [.int .i64 aT,.slice D.a D.len D.cap,.slice E.a E.len E.cap,.int .i64 aU,.int .i64 aV,.int .i64 aW,.slice F.a F.len F.cap] n b 0 λg=>g.heap[d.heap.size]? =some (.deferred (some []))/\
 (g.putObj d.heap.size (.deferred none)).heap[c.heap.size]? =some (.deferred (some []))/\
 eF ((g.putObj d.heap.size (.deferred none)).putObj c.heap.size (.deferred none)) (b.add 0) λaX=>Ld .slice ((g.putObj d.heap.size (.deferred none)).putObj c.heap.size (.deferred none)) (b.add 1) λaY=>Ld .slice ((g.putObj d.heap.size (.deferred none)).putObj c.heap.size (.deferred none)) (b.add 2) λaZ=>eF ((g.putObj d.heap.size (.deferred none)).putObj c.heap.size (.deferred none)) (b.add 3) λa1=>eF ((g.putObj d.heap.size (.deferred none)).putObj c.heap.size (.deferred none)) (b.add 4) λa2=>eF ((g.putObj d.heap.size (.deferred none)).putObj c.heap.size (.deferred none)) (b.add 5) λa4=>Ld .slice ((g.putObj d.heap.size (.deferred none)).putObj c.heap.size (.deferred none)) (b.add 6) λa5=>K aX aY aZ a1 a2 a4 a5 ((g.putObj d.heap.size (.deferred none)).putObj c.heap.size (.deferred none)))
 (λh=>h.heap[d.heap.size]? =some (.deferred (some []))/\
 (h.putObj d.heap.size (.deferred none)).heap[c.heap.size]? =some (.deferred (some []))/\
 eF ((h.putObj d.heap.size (.deferred none)).putObj c.heap.size (.deferred none)) (b.add 0) λa6=>Ld .slice ((h.putObj d.heap.size (.deferred none)).putObj c.heap.size (.deferred none)) (b.add 1) λa7=>Ld .slice ((h.putObj d.heap.size (.deferred none)).putObj c.heap.size (.deferred none)) (b.add 2) λa8=>eF ((h.putObj d.heap.size (.deferred none)).putObj c.heap.size (.deferred none)) (b.add 3) λa9=>eF ((h.putObj d.heap.size (.deferred none)).putObj c.heap.size (.deferred none)) (b.add 4) λba=>eF ((h.putObj d.heap.size (.deferred none)).putObj c.heap.size (.deferred none)) (b.add 5) λbb=>Ld .slice ((h.putObj d.heap.size (.deferred none)).putObj c.heap.size (.deferred none)) (b.add 6) λbc=>K a6 a7 a8 a9 ba bb bc ((h.putObj d.heap.size (.deferred none)).putObj c.heap.size (.deferred none)))
 [])
 (λk=>k.heap[c.heap.size]? =some (.deferred (some []))/\
 eF (k.putObj c.heap.size (.deferred none)) (b.add 0) λbd=>Ld .slice (k.putObj c.heap.size (.deferred none)) (b.add 1) λbe=>Ld .slice (k.putObj c.heap.size (.deferred none)) (b.add 2) λbf=>eF (k.putObj c.heap.size (.deferred none)) (b.add 3) λbg=>eF (k.putObj c.heap.size (.deferred none)) (b.add 4) λbh=>eF (k.putObj c.heap.size (.deferred none)) (b.add 5) λbi=>Ld .slice (k.putObj c.heap.size (.deferred none)) (b.add 6) λbj=>K bd be bf bg bh bi bj (k.putObj c.heap.size (.deferred none)))
 [])
 Pt p λx=>eF s.drew (x.add 41) λr=>Pt p λG=>Ld .ptr s.drew (G.add 4) λz=>(jP z s.drew λbk Q=>Q.cell? (x.add 41)=some (Value.int .i64 r)/\
 Al Q (.cells ⟨[.int .i64 0,.slice none 0 0,.slice none 0 0,.int .i64 0,.int .i64 0,.int .i64 0,.slice none 0 0]⟩ 46) λR H=>H.cell? (G.add 4)=some (Value.pointer z)/\
 H.cell? (x.add 41)=some (Value.int .i64 r)/\
 iL [.int .i64 r,.slice none 0 0,.slice none 0 0,.int .i64 0,.int .i64 0,.int .i64 bk,.slice none 0 0] H R 0 λbl=>J R bl)/\
 (Al s.drew (.cells ⟨[.int .i64 0,.slice none 0 0,.slice none 0 0,.int .i64 0,.int .i64 0,.int .i64 0,.slice none 0 0]⟩ 46) λS I=>I.cell? (G.add 4)=some (Value.pointer z)/\
 I.cell? (x.add 41)=some (Value.int .i64 r)/\
 jP z I λbm T=>T.cell? (x.add 41)=some (Value.int .i64 r)/\
 iL [.int .i64 r,.slice none 0 0,.slice none 0 0,.int .i64 0,.int .i64 0,.int .i64 bm,.slice none 0 0] T S 0 λbn=>J S bn)))):=okF iE Tryz.func27 (eX (eX (eX (eX (.seq (eX (.blk (.rng [.one (.int .i64),.agg [(.int .i64),(.int .i64),(.int .i64),(.int .i64),(.int .i64),(.int .i64),(.int .i64),.bool]] .leaf .leaf))) (.seq (eX (.blk (.rng [.one (.int .i64),.agg [(.int .i64),(.int .i64),(.int .i64),(.int .i64),(.int .i64)]] .leaf .leaf))) .leaf)))))) (by kernel_rfl)
theorem Ig {a w K}:fU (jD a w K)
 (jE a w λc b=>(cond (!c) (K 0 b) (kZ a b λd e=>K d e))):=okF iE Tryz.func28 .leaf (by kernel_rfl)
theorem JJ {b w K}:fU (jO b w K)
 (jE b w λc a=>(cond (!c) (K 0 a) (Pt b λd=>Ld .map a d λe=>I5 a e λf=>K f a))):=okF iE Tryz.func29 .leaf (by kernel_rfl)
theorem EH {a w K}:fU (j_ a w K)
 ((cond (Option.isNone a) (K ⟨none,0,0⟩ w) (Pt a λb=>Ld .slice w b λc=>jk c w λd e=>K d e))):=okF iE Tryz.func30 .leaf (by kernel_rfl)
theorem Nw {t u v x y z A B C D E F G H I J L M N O P Q R S T U V W X Y Z aa ab ac ad ae w K}:fU (o7 t u v x y z A B C D E F G H I J L M N O P Q R S T U V W X Y Z aa ab ac ad ae w K)
 (Al w (.cells ⟨(jo t u v x y z A B C D E F G H I J L M N O P Q R S T U V W X Y Z aa ab ac ad ae)⟩ 28) λa w2=>let d:Bool->b_:=λj5 w6=>(let b:Bool->b_:=λj8 w9=>(let e:Bool->b_:=λak f=>(let g:Bool->b_:=λal am=>(K al am)
 (cond j5 (cond j8 (cond ak (eF f (a.add 18) λan=>gX an 1 65535 f λao h=>(cond ao (eF h (a.add 19) λap=>eF h (a.add 18) λaq=>gX ap aq 65535 h λar au=>g ar au) (g false h))) (g false f)) (g false f)) (g false f)))
 eF w9 (a.add 30) λav=>gX av 120 1048576 w9 λaw i=>(cond aw (eF i (a.add 31) λax=>gX ax 7440 1048576 i λay j=>(cond ay (eF j (a.add 32) λaz=>gX az 240 1048576 j λaA k=>(cond aA (eF k (a.add 33) λaB=>gX aB 60 1048576 k λaC l=>(cond aC (eF l (a.add 34) λaD=>gX aD 1 1048576 l λaE aF=>e aE aF) (e false l))) (e false k))) (e false j))) (e false i)))
 eF w6 (a.add 25) λaG=>gX aG 1280 65535 w6 λaH m=>(cond aH (eF m (a.add 26) λaI=>gX aI 1280 65535 m λaJ n=>(cond aJ (eF n (a.add 27) λaK=>gX aK 1 255 n λaL c=>(cond aL (eF c (a.add 28) λaM=>(cond (aM==0) (eF c (a.add 29) λaN=>gX aN 0 2 c λaO aP=>b aO aP) (eF c (a.add 28) λaQ=>gX aQ 536 65535 c λaR o=>(cond aR (eF o (a.add 29) λaS=>gX aS 0 2 o λaT aU=>b aT aU) (b false o))))) (b false c))) (b false n))) (b false m)))
 eF w2 (a.add 20) λaV=>gX aV 1 4096 w2 λaW p=>(cond aW (eF p (a.add 21) λaX=>gX aX 1 4096 p λaY q=>(cond aY (eF q (a.add 22) λaZ=>gX aZ 1 4096 q λa0 r=>(cond a0 (eF r (a.add 23) λa1=>gX a1 0 4096 r λa2 s=>(cond a2 (eF s (a.add 24) λa4=>gX a4 0 67108864 s λa5 a6=>d a5 a6) (d false s))) (d false r))) (d false q))) (d false p))):=okF iE Tryz.func31 .leaf (by kernel_rfl)
theorem RN {m n o p q r s t u v x y z A B C D E F G H I J L M N O P Q R T U V W X Y w K}:fU (sH m n o p q r s t u v x y z A B C D E F G H I J L M N O P Q R T U V W X Y w K)
 (Al w (.cells ⟨(jo m n o p q r s t u v x y z A B C D E F G H I J L M N O P Q R T U V W X Y)⟩ 28) λa Z=>let e:Bool->b_:=λj5 w6=>((cond j5 (K false w6) (iQ (S:=Int×Unit) (λh f af=>Ld .slice f (a.add 16) λag=>(cond (decide (h.1<(ag.len:Int))) (Ld .slice f (a.add 16) λah=>iP ah 16 h.1 λai=>uT f ai λaj ak al am an ao ap aq ar au av aw ax ay az aA=>qQ aj ak al am an ao ap aq ar au av aw ax ay az aA f λaB ab=>(cond (!aB) (K false ab) (af ((IntKind.i64.wrap (h.1+1)),()) ab))) (iQ (S:=Int×Unit) (λi g aC=>Ld .slice g (a.add 17) λaD=>(cond (decide (i.1<(aD.len:Int))) (Ld .slice g (a.add 17) λaE=>iP aE 1 i.1 λaF=>eF g aF λaG=>qP aG g λaH ac=>(cond (!aH) (K false ac) (aC ((IntKind.i64.wrap (i.1+1)),()) ac))) (iQ (S:=Int×Unit) (λj b aI=>Ld .slice b (a.add 35) λaJ=>(cond (decide (j.1<(aJ.len:Int))) (rX b.drew a λaK aL aM aN aO aP aQ aR aS aT aU aV aW aX aY aZ a0 a1 a2 a4 a5 a6 a7 a8 a9 ba bb bc bd be bf bg bh bi bj bk=>Ld .slice b.drew (a.add 35) λbl=>iP bl 7 j.1 λc=>eF b.drew (c.add 0) λbm=>eF b.drew (c.add 1) λbn=>eF b.drew (c.add 2) λbo=>eF b.drew (c.add 3) λbp=>eF b.drew (c.add 4) λbq=>eF b.drew (c.add 5) λbr=>eF b.drew (c.add 6) λbs=>qC aK aL aM aN aO aP aQ aR aS aT aU aV aW aX aY aZ a0 a1 a2 a4 a5 a6 a7 a8 a9 ba bb bc bd be bf bg bh bi bj bk bm bn bo bp bq br bs b.drew λbt ad=>(cond (!bt) (K false ad) (aI ((IntKind.i64.wrap (j.1+1)),()) ad))) (K true b))) (0,()) g))) (0,()) f))) (0,()) w6)))
 uT Z a λbu bv bw bx bz bA bB bC bD bE bF bG bH bI bJ bK=>qQ bu bv bw bx bz bA bB bC bD bE bF bG bH bI bJ bK Z λbL k=>(cond (!bL) (e true k) (Ld .slice k (a.add 16) λbM=>gX (bM.len:Int) 1 64 k λbN l=>(cond (!bN) (e true l) (Ld .slice l (a.add 17) λbO=>gX (bO.len:Int) 1 16 l λbP d=>(cond (!bP) (e true d) (Ld .slice d (a.add 35) λbQ=>(cond (decide ((bQ.len:Int)>64)) (e true d) (Ld .slice d (a.add 35) λbR=>eF d (a.add 21) λbS=>e (decide ((bR.len:Int)>bS)) d))))))))):=okF iE Tryz.func32 (eX (eX (.seq (eX (.blk (.loop [(3,(.int .i64))] .leaf))) (.seq (eX (.blk (.loop [(4,(.int .i64))] .leaf))) (.seq (eX (.blk (.loop [(5,(.int .i64))] .leaf))) .leaf))))) (by kernel_rfl)
theorem RP {s t u v x y z A B C D E F G H I J L M N O P Q R T U V W X Y Z aa ab ac ad ae w K}:fU (sJ s t u v x y z A B C D E F G H I J L M N O P Q R T U V W X Y Z aa ab ac ad ae w K)
 (Al w (.cells ⟨(jo s t u v x y z A B C D E F G H I J L M N O P Q R T U V W X Y Z aa ab ac ad ae)⟩ 28) λb w2=>iQ (S:=Int×Unit) (λh l ai=>Ld .slice l (b.add 16) λx7=>(cond (decide (h.1<(x7.len:Int))) (iQ (S:=Int×Unit) (λm c ak=>(cond (decide (m.1<h.1)) (Ld .slice c.drew (b.add 16) λal=>iP al 16 m.1 λam=>uT c.drew am λan ao ap aq ar au av aw ax ay az aA aB aC aD aE=>Ld .slice c.drew (b.add 16) λaF=>iP aF 16 h.1 λaG=>uT c.drew aG λaH aI aJ aK aL aM aN aO aP aQ aR aS aT aU aV aW=>(cond ((an==aH) && ((ao==aI) && ((ap==aJ) && ((aq==aK) && ((ar==aL) && ((au==aM) && ((av==aN) && ((aw==aO) && ((ax==aP) && ((ay==aQ) && ((az==aR) && ((aA==aS) && ((aB==aT) && ((aC==aU) && ((aD==aV) && ((aE==aW) && true)))))))))))))))) (K true c.drew) (ak ((IntKind.i64.wrap (m.1+1)),()) c.drew))) (Ld .slice c.drew (b.add 16) λaX=>iP aX 16 h.1 λaY=>uT c.drew aY λaZ a0 a1 a2 a4 a5 a6 a7 a8 a9 ba bb bc bd be bf=>uT c.drew b λbg bh bi bj bk bl bm bn bo bp bq br bs bt bu bv=>(cond ((aZ==bg) && ((a0==bh) && ((a1==bi) && ((a2==bj) && ((a4==bk) && ((a5==bl) && ((a6==bm) && ((a7==bn) && ((a8==bo) && ((a9==bp) && ((ba==bq) && ((bb==br) && ((bc==bs) && ((bd==bt) && ((be==bu) && ((bf==bv) && true)))))))))))))))) (K true c.drew) (ai ((IntKind.i64.wrap (h.1+1)),()) c.drew))))) (0,()) l) (iQ (S:=Int×Unit) (λi n bw=>Ld .slice n (b.add 17) λbx=>(cond (decide (i.1<(bx.len:Int))) (iQ (S:=Int×Unit) (λo e bz=>(cond (decide (o.1<i.1)) (Ld .slice e.drew (b.add 17) λbA=>iP bA 1 o.1 λbB=>eF e.drew bB λbC=>Ld .slice e.drew (b.add 17) λbD=>iP bD 1 i.1 λbE=>eF e.drew bE λbF=>(cond (bC==bF) (K true e.drew) (bz ((IntKind.i64.wrap (o.1+1)),()) e.drew))) (bw ((IntKind.i64.wrap (i.1+1)),()) e))) (0,()) n) (iQ (S:=Int×Unit) (λg p bG=>Ld .slice p (b.add 35) λbH=>(cond (decide (g.1<(bH.len:Int))) (iQ (S:=Int×Int×Unit) (λd a bI=>(cond (decide (d.2.1<g.1)) (let af:Int->b_:=λbJ bK=>(bI (bJ,(IntKind.i64.wrap (d.2.1+1)),()) bK)
 let ag:Bool->b_:=λbL f=>((cond bL (K true f) (Ld .slice f.drew (b.add 35) λbM=>iP bM 7 d.2.1 λbN=>eF f.drew bN λbO=>Ld .slice f.drew (b.add 35) λbP=>iP bP 7 g.1 λbQ=>eF f.drew bQ λbR=>(cond (bO==bR) (af (IntKind.i64.wrap (d.1+1)) f.drew) (af d.1 f.drew)))))
 Ld .slice a.drew (b.add 35) λbS=>iP bS 7 d.2.1 λj=>eF a.drew (j.add 0) λbT=>eF a.drew (j.add 1) λbU=>eF a.drew (j.add 2) λbV=>eF a.drew (j.add 3) λbW=>Ld .slice a.drew (b.add 35) λbX=>iP bX 7 g.1 λk=>eF a.drew (k.add 0) λbY=>eF a.drew (k.add 1) λbZ=>eF a.drew (k.add 2) λb0=>eF a.drew (k.add 3) λb1=>(cond ((bT==bY) && ((bU==bZ) && ((bV==b0) && ((bW==b1) && true)))) (ag true a.drew) (Ld .slice a.drew (b.add 35) λb2=>iP b2 7 d.2.1 λq=>eF a.drew ((q.add 4).add 0) λb3=>eF a.drew ((q.add 4).add 1) λb4=>eF a.drew ((q.add 4).add 2) λb5=>Ld .slice a.drew (b.add 35) λb6=>iP b6 7 g.1 λr=>eF a.drew ((r.add 4).add 0) λb7=>eF a.drew ((r.add 4).add 1) λb8=>eF a.drew ((r.add 4).add 2) λb9=>ag ((b3==b7) && ((b4==b8) && ((b5==b9) && true))) a.drew))) (eF a (b.add 20) λca=>(cond (decide (d.1>ca)) (K true a) (bG ((IntKind.i64.wrap (g.1+1)),()) a))))) (1,0,()) p) (K false p))) (0,()) n))) (0,()) l))) (0,()) w2):=okF iE Tryz.func33 (eX (.seq (eX (.blk (.loop [(3,(.int .i64))] (eX (.seq (.blk (.seq (eX (.blk (.loop [(4,(.int .i64))] .leaf))) .leaf)) .leaf))))) (.seq (eX (.blk (.loop [(5,(.int .i64))] (eX (.seq (.blk (eX (.blk (.loop [(6,(.int .i64))] .leaf)))) .leaf))))) (.seq (eX (.blk (.loop [(7,(.int .i64))] (eX (.seq (.blk (eX (.seq (eX (.blk (.loop [(8,(.int .i64)),(9,(.int .i64))] .leaf))) .leaf))) .leaf))))) .leaf)))) (by kernel_rfl)
theorem yC {c f w K}:fU (o9 c f w K)
 (iQ (S:=Int×Unit) (λb d i=>(cond (decide (b.1<(c.len:Int))) (iP c 1 b.1 λj=>Ld .slice d j λe=>iY Tryz.prog [.one .bool] f [(Value.slice e.a e.len e.cap)] d λk g=>∃h:Bool,k=(Value.bool h)/\
 (cond h (K b.1 g) (i ((IntKind.i64.wrap (b.1+1)),()) g))) (K (-1) d))) (0,()) w):=okF iE Tryz.func34 (eX (.seq (eX (.blk (.loop [(8,(.int .i64))] .leaf))) .leaf)) (by kernel_rfl)
theorem O8 {i j k l m n o p q r s t u v x y z A B C D E F G H I J L M N O P Q R T U w K}:fU (qw i j k l m n o p q r s t u v x y z A B C D E F G H I J L M N O P Q R T U w K)
 (Al w (.cells ⟨(jo i j k l m n o p q r s t u v x y z A B C D E F G H I J L M N O P Q R T U)⟩ 28) λb V=>rX V b λx4 x5 x6 x7 x8 x9 ag ah ai aj ak al am an ao ap aq ar au av aw ax ay az aA aB aC aD aE aF aG aH aI aJ aK aL=>oW x4 x5 x6 x7 x8 x9 ag ah ai aj ak al am an ao ap aq ar au av aw ax ay az aA aB aC aD aE aF aG aH aI aJ aK aL V λW aM=>iQ (S:=Int×Unit) (λe a aN=>(cond (decide (e.1<(W.len:Int))) (iP W 3 e.1 λf=>eF a (f.add 0) λaO=>eF a (f.add 1) λaP=>eF a (f.add 2) λaQ=>Al a (.cells ⟨[.int .i64 0,.int .i64 0,.int .i64 0]⟩ 202) λc aR=>iL [.int .i64 aO,.int .i64 aP,.int .i64 aQ] aR c 0 λd=>eF d (c.add 0) λaS=>eF d (c.add 1) λaT=>eF d (c.add 2) λaU=>iZ aS aT aU d λaV X=>(cond (!aV) (K 1 X) (aN ((IntKind.i64.wrap (e.1+1)),()) X))) (let Y:Bool->b_:=λaW g=>((cond aW (K 1 g) (rX g b λaX aY aZ a0 a1 a2 a4 a5 a6 a7 a8 a9 ba bb bc bd be bf bg bh bi bj bk bl bm bn bo bp bq br bs bt bu bv bw bx=>og aX aY aZ a0 a1 a2 a4 a5 a6 a7 a8 a9 ba bb bc bd be bf bg bh bi bj bk bl bm bn bo bp bq br bs bt bu bv bw bx g λbz Z=>(cond bz (K 9 Z) (K 0 Z)))))
 eF a (b.add 28) λbA=>qA bA a λbB h=>(cond (!bB) (Y true h) (rX h b λbC bD bE bF bG bH bI bJ bK bL bM bN bO bP bQ bR bS bT bU bV bW bX bY bZ b0 b1 b2 b3 b4 b5 b6 b7 b8 b9 ca cb=>qx bC bD bE bF bG bH bI bJ bK bL bM bN bO bP bQ bR bS bT bU bV bW bX bY bZ b0 b1 b2 b3 b4 b5 b6 b7 b8 b9 ca cb h λcc cd=>Y (!cc) cd))))) (0,()) aM):=okF iE Tryz.func45 (eX (.seq (eX (.blk (.loop [(8,(.int .i64))] .leaf))) .leaf)) (by kernel_rfl)
theorem Zg {b d e w K}:fU (Ad b d e w K)
 (let c:Bool->Prop:=λn=>((cond n (K none 1 w) (iQ (S:=Int×Unit) (λf g o=>(cond (decide (f.1<(b.len:Int))) (iP b 1 f.1 λp=>eF g p λi=>let j:Bool->b_:=λq k=>((cond q (K none 1 k) (o ((IntKind.i64.wrap (f.1+1)),()) k)))
 ku i g λr l=>(cond (!r) (j true l) (nJ b 1 0 f.1 λs=>gQ s i l λt u=>j t u))) (jk b g λh m=>Al m (.map #[] 0) λz v=>Al v (.cells ⟨[.int .i64 d,.int .i64 e,.slice h.a h.len h.cap,.map (some m.heap.size)]⟩ 208) λx y=>K (some x) 0 y))) (0,()) w)))
 (cond (decide ((b.len:Int)<1)) (c true) (cond (decide ((b.len:Int)>16)) (c true) (cond (decide (d<1)) (c true) (cond (decide (e<d)) (c true) (c (decide (e>=65536)))))))):=okF iE Tryz.func46 (eX (eX (.seq (eX (.blk (.loop [(33,(.int .i64))] .leaf))) .leaf))) (by kernel_rfl)
theorem Xo {b c w K}:fU (xX b c w K)
 (let d:Bool->Prop:=λj=>((cond j (K none 1 w) (VA 213 2 16 [(Value.int .i64 0),(Value.int .i64 0)] b b w λe k=>Al k (.cells ⟨[.slice e.a e.len e.cap]⟩ 211) λf i=>Pt (some f) λl=>Ld .slice i l λm=>iQ (S:=Int×Unit) (λg h n=>(cond (decide (g.1<(m.len:Int))) (Pt (some f) λo=>Ld .slice h o λp=>iP p 2 g.1 λq=>St h (q.add 1) (.int .i64 c) λr=>n ((IntKind.i64.wrap (g.1+1)),()) r) (K (some f) 0 h))) (0,()) i)))
 (cond (decide (b<1)) (d true) (cond (decide (b>64)) (d true) (cond (decide (c<0)) (d true) (d (decide (c>4096))))))):=okF iE Tryz.func47 (eX (eX (eX (.seq (eX (.blk (.loop [(31,(.int .i64))] .leaf))) .leaf)))) (by kernel_rfl)
theorem Za {b w K}:fU (zX b w K)
 (let d:Bool->Prop:=λg=>((cond g (K none 1 w) (uf b w λh i j=>uf b j λk l e=>let f:Bool->Prop:=λm=>((cond m (K none 1 e) (VA 278 9 72 (akh 0 0 0 0 0 0 0 false false) b b e λc n=>Al n (.cells ⟨[.slice c.a c.len c.cap,.pointer h,.pointer k,.int .i64 0]⟩ 219) λo p=>K (some o) 0 p)))
 (cond (i !=0) (f true) (f (l !=0))))))
 (cond (decide (b<0)) (d true) (d (decide (b>4096))))):=okF iE Tryz.func48 .leaf (by kernel_rfl)
theorem RQ {b w K}:fU (sK b w K)
 (let d:Bool->Prop:=λh=>((cond h (K none 1 w) (uf b w λi e f=>(cond (e !=0) (K none e f) (VA 281 6 48 [(Value.int .i64 0),(Value.int .i64 0),(Value.int .i64 0),(Value.int .i64 0),(Value.int .i64 0),(Value.bool false)] b b f λc g=>Al g (.map #[] 0) λm j=>Al j (.cells ⟨[.slice c.a c.len c.cap,.pointer i,.map (some g.heap.size),.int .i64 0]⟩ 223) λk l=>K (some k) 0 l)))))
 (cond (decide (b<0)) (d true) (d (decide (b>4096))))):=okF iE Tryz.func49 .leaf (by kernel_rfl)
theorem Xw {a w K}:fU (yg a w K)
 (let b:Bool->Prop:=λc=>((cond c (K none 1 w) (Al w (.map #[] 0) λg d=>Al d (.cells ⟨(List.replicate 448 (Value.slice none 0 0)++([(Value.map (some w.heap.size)),(Value.int .i64 0),(Value.int .i64 0),(Value.int .i64 a)]))⟩ 230) λe f=>K (some e) 0 f)))
 (cond (decide (a<0)) (b true) (b (decide (a>1048576))))):=okF iE Tryz.func50 .leaf (by kernel_rfl)
theorem Um {a0 a1 a2 w K}:fU (VW a0 a1 a2 w K)
 (let a:Bool->Prop:=λb=>(K b w)
 (cond (decide (a0>=a1)) (a (decide (a0<=a2))) (a false))):=okF iE Tryz.func52 .leaf (by kernel_rfl)
theorem aa4 {e p w K}:fU (zA e p w K)
 (Al w (.cells ⟨[.slice none 0 0,.int .i64 0,.int .i64 0]⟩ 130) λb m=>(cond (decide ((e.len:Int)<20)) (iL [.slice none 0 0,.int .i64 0,.int .i64 0] m b 0 λg=>Ld .slice g (b.add 0) λx=>eF g (b.add 1) λy=>eF g (b.add 2) λz=>K x y z 3 g) (iP e 1 0 λA=>Ld (.int .u8) m A λB=>Al m (.cells ⟨[.slice none 0 0,.int .i64 0,.int .i64 0]⟩ 130) λc C=>iL [.slice e.a e.len e.cap,.int .i64 (IntKind.i64.wrap ((IntKind.i64.wrap (wH .u8 B 15)) * 4)),.int .i64 0] C c 0 λh=>Ld .slice h (c.add 0) λD=>eF h (c.add 1) λE=>eF h (c.add 2) λF=>fH D E F 2 2 h λG H=>St H (c.add 2) (.int .i64 G) λd=>let q:Bool->Prop:=λI=>((cond I (iL [.slice none 0 0,.int .i64 0,.int .i64 0] d b 0 λi=>Ld .slice i (b.add 0) λJ=>eF i (b.add 1) λL=>eF i (b.add 2) λM=>K J L M 4 i) (let n:Bool->Prop:=λN=>((cond N (iL [.slice none 0 0,.int .i64 0,.int .i64 0] d b 0 λj=>Ld .slice j (b.add 0) λO=>eF j (b.add 1) λP=>eF j (b.add 2) λQ=>K O P Q 3 j) (let r:Bool->b_:=λR f=>((cond R (iL [.slice none 0 0,.int .i64 0,.int .i64 0] f b 0 λk=>Ld .slice k (b.add 0) λS=>eF k (b.add 1) λT=>eF k (b.add 2) λU=>K S T U 4 k) (Ld .slice f (c.add 0) λo=>eF f (c.add 1) λV=>eF f (c.add 2) λW=>iL [.slice o.a o.len o.cap,.int .i64 V,.int .i64 W] f b 0 λl=>Ld .slice l (b.add 0) λX=>eF l (b.add 1) λY=>eF l (b.add 2) λZ=>K X Y Z 0 l)))
 eF d (c.add 2) λs=>eF d (c.add 1) λt=>(cond (decide (s<t)) (r (decide (s<t)) d) (Ld .slice d (c.add 0) λaa=>eF d (c.add 1) λab=>eF d (c.add 2) λac=>fH aa ab ac 6 2 d λad ae=>r ((wH .i64 ad 32768) !=0) ae)))))
 eF d (c.add 1) λu=>(cond (decide (u>(e.len:Int))) (n (decide (u>(e.len:Int)))) (eF d (c.add 2) λaf=>(cond (decide (af>(e.len:Int))) (n (!p)) (n false)))))))
 iP e 1 0 λag=>Ld (.int .u8) d ag λv=>0<=(4:Int)/\
 (cond ((jy .u8 v 4) !=4) (q ((jy .u8 v 4) !=4)) (eF d (c.add 1) λah=>q (decide (ah<20))))))):=okF iE Tryz.func53 .leaf (by kernel_rfl)
theorem Xp {a w K}:fU (oL a w K)
 (zy a w λb c=>K (b==65535) c):=okF iE Tryz.func54 .leaf (by kernel_rfl)
theorem Il {Y A1 A2 w K}:fU (jY Y A1 A2 w K)
 (Al w (.cells ⟨[.slice Y.a Y.len Y.cap,.int .i64 A1,.int .i64 A2]⟩ 130) λb w2=>Al w2 (.cells ⟨(fG 0 0 0 0 0 0 0 false false ⟨none,0,0⟩ ⟨none,0,0⟩)⟩ 68) λa5 Z=>Ld .slice Z (b.add 0) λx6=>eF Z (b.add 1) λx7=>eF Z (b.add 2) λx8=>fH x6 x7 x8 6 2 Z λr9 o=>let O:Addr->b_:=λT aG=>(St aG (T.add 2) (.int .i64 (IntKind.i64.wrap ((wH .i64 r9 8191) * 8))) λaH=>St aH (T.add 7) (.bool ((wH .i64 r9 16384) !=0)) λaI=>St aI (T.add 8) (.bool ((wH .i64 r9 8192) !=0)) λah=>Ld .slice ah b λaJ=>eF ah (b.add 1) λaK=>nJ aJ 1 20 aK λaL=>fQ aL ah λai aM=>St aM (T.add 9) (.slice ai.a ai.len ai.cap) λV=>Ld .slice V b λaN=>eF V (b.add 1) λaO=>eF V (b.add 2) λao=>Ld .slice V b λap=>nJ aN 1 aO (if (ap.len:Int)<ao then (ap.len:Int) else ao) λaP=>fQ aP V λaj aQ=>St aQ (T.add 10) (.slice aj.a aj.len aj.cap) λaq=>gI aq T λaR aS aT aU aV aW aX aY aZ a0 a1=>iL (fG aR aS aT aU aV aW aX aY aZ a0 a1) aq a5 0 λar=>gI ar a5 λa2 a4 a6 a7 a8 a9 ba bb bc bd be=>K a2 a4 a6 a7 a8 a9 ba bb bc bd be ar)
 Ld .slice o.drew (b.add 0) λl=>eF o.drew (b.add 1) λL=>eF o.drew (b.add 2) λM=>Ld .slice o.drew (b.add 0) λi=>eF o.drew (b.add 1) λE=>eF o.drew (b.add 2) λF=>Ld .slice o.drew (b.add 0) λf=>eF o.drew (b.add 1) λy=>eF o.drew (b.add 2) λz=>Ld .slice o.drew (b.add 0) λe=>eF o.drew (b.add 1) λm=>eF o.drew (b.add 2) λn=>Ld .slice o.drew (b.add 0) λd=>eF o.drew (b.add 1) λj=>eF o.drew (b.add 2) λk=>Ld .slice o.drew (b.add 0) λc=>eF o.drew (b.add 1) λg=>eF o.drew (b.add 2) λh=>(fH l L M 1 1 o.drew λU x=>x.cell? (b.add 0)=some (Value.slice c.a c.len c.cap)/\
 x.cell? (b.add 1)=some (Value.int .i64 g)/\
 x.cell? (b.add 2)=some (Value.int .i64 h)/\
 x.cell? (b.add 0)=some (Value.slice d.a d.len d.cap)/\
 x.cell? (b.add 1)=some (Value.int .i64 j)/\
 x.cell? (b.add 2)=some (Value.int .i64 k)/\
 x.cell? (b.add 0)=some (Value.slice e.a e.len e.cap)/\
 x.cell? (b.add 1)=some (Value.int .i64 m)/\
 x.cell? (b.add 2)=some (Value.int .i64 n)/\
 x.cell? (b.add 0)=some (Value.slice f.a f.len f.cap)/\
 x.cell? (b.add 1)=some (Value.int .i64 y)/\
 x.cell? (b.add 2)=some (Value.int .i64 z)/\
 x.cell? (b.add 0)=some (Value.slice i.a i.len i.cap)/\
 x.cell? (b.add 1)=some (Value.int .i64 E)/\
 x.cell? (b.add 2)=some (Value.int .i64 F)/\
 (fH i E F 4 2 x λW B=>B.cell? (b.add 0)=some (Value.slice c.a c.len c.cap)/\
 B.cell? (b.add 1)=some (Value.int .i64 g)/\
 B.cell? (b.add 2)=some (Value.int .i64 h)/\
 B.cell? (b.add 0)=some (Value.slice d.a d.len d.cap)/\
 B.cell? (b.add 1)=some (Value.int .i64 j)/\
 B.cell? (b.add 2)=some (Value.int .i64 k)/\
 B.cell? (b.add 0)=some (Value.slice e.a e.len e.cap)/\
 B.cell? (b.add 1)=some (Value.int .i64 m)/\
 B.cell? (b.add 2)=some (Value.int .i64 n)/\
 B.cell? (b.add 0)=some (Value.slice f.a f.len f.cap)/\
 B.cell? (b.add 1)=some (Value.int .i64 y)/\
 B.cell? (b.add 2)=some (Value.int .i64 z)/\
 (fH f y z 8 1 B λaa G=>G.cell? (b.add 0)=some (Value.slice c.a c.len c.cap)/\
 G.cell? (b.add 1)=some (Value.int .i64 g)/\
 G.cell? (b.add 2)=some (Value.int .i64 h)/\
 G.cell? (b.add 0)=some (Value.slice d.a d.len d.cap)/\
 G.cell? (b.add 1)=some (Value.int .i64 j)/\
 G.cell? (b.add 2)=some (Value.int .i64 k)/\
 G.cell? (b.add 0)=some (Value.slice e.a e.len e.cap)/\
 G.cell? (b.add 1)=some (Value.int .i64 m)/\
 G.cell? (b.add 2)=some (Value.int .i64 n)/\
 (fH e m n 9 1 G λak N=>N.cell? (b.add 0)=some (Value.slice c.a c.len c.cap)/\
 N.cell? (b.add 1)=some (Value.int .i64 g)/\
 N.cell? (b.add 2)=some (Value.int .i64 h)/\
 N.cell? (b.add 0)=some (Value.slice d.a d.len d.cap)/\
 N.cell? (b.add 1)=some (Value.int .i64 j)/\
 N.cell? (b.add 2)=some (Value.int .i64 k)/\
 (fH d j k 12 4 N λau X=>X.cell? (b.add 0)=some (Value.slice c.a c.len c.cap)/\
 X.cell? (b.add 1)=some (Value.int .i64 g)/\
 X.cell? (b.add 2)=some (Value.int .i64 h)/\
 (fH c g h 16 4 X λbf bg=>Al bg (.cells ⟨(fG 0 0 0 0 0 0 0 false false ⟨none,0,0⟩ ⟨none,0,0⟩)⟩ 68) λav p=>p.cell? (b.add 0)=some (Value.slice c.a c.len c.cap)/\
 p.cell? (b.add 1)=some (Value.int .i64 g)/\
 p.cell? (b.add 2)=some (Value.int .i64 h)/\
 p.cell? (b.add 0)=some (Value.slice d.a d.len d.cap)/\
 p.cell? (b.add 1)=some (Value.int .i64 j)/\
 p.cell? (b.add 2)=some (Value.int .i64 k)/\
 p.cell? (b.add 0)=some (Value.slice e.a e.len e.cap)/\
 p.cell? (b.add 1)=some (Value.int .i64 m)/\
 p.cell? (b.add 2)=some (Value.int .i64 n)/\
 p.cell? (b.add 0)=some (Value.slice f.a f.len f.cap)/\
 p.cell? (b.add 1)=some (Value.int .i64 y)/\
 p.cell? (b.add 2)=some (Value.int .i64 z)/\
 p.cell? (b.add 0)=some (Value.slice i.a i.len i.cap)/\
 p.cell? (b.add 1)=some (Value.int .i64 E)/\
 p.cell? (b.add 2)=some (Value.int .i64 F)/\
 p.cell? (b.add 0)=some (Value.slice l.a l.len l.cap)/\
 p.cell? (b.add 1)=some (Value.int .i64 L)/\
 p.cell? (b.add 2)=some (Value.int .i64 M)/\
 iL (fG U W 0 aa ak au bf false false ⟨none,0,0⟩ ⟨none,0,0⟩) p av 0 λbh=>O av bh)/\
 (Al X (.cells ⟨(fG 0 0 0 0 0 0 0 false false ⟨none,0,0⟩ ⟨none,0,0⟩)⟩ 68) λaw q=>q.cell? (b.add 0)=some (Value.slice c.a c.len c.cap)/\
 q.cell? (b.add 1)=some (Value.int .i64 g)/\
 q.cell? (b.add 2)=some (Value.int .i64 h)/\
 q.cell? (b.add 0)=some (Value.slice d.a d.len d.cap)/\
 q.cell? (b.add 1)=some (Value.int .i64 j)/\
 q.cell? (b.add 2)=some (Value.int .i64 k)/\
 q.cell? (b.add 0)=some (Value.slice e.a e.len e.cap)/\
 q.cell? (b.add 1)=some (Value.int .i64 m)/\
 q.cell? (b.add 2)=some (Value.int .i64 n)/\
 q.cell? (b.add 0)=some (Value.slice f.a f.len f.cap)/\
 q.cell? (b.add 1)=some (Value.int .i64 y)/\
 q.cell? (b.add 2)=some (Value.int .i64 z)/\
 q.cell? (b.add 0)=some (Value.slice i.a i.len i.cap)/\
 q.cell? (b.add 1)=some (Value.int .i64 E)/\
 q.cell? (b.add 2)=some (Value.int .i64 F)/\
 q.cell? (b.add 0)=some (Value.slice l.a l.len l.cap)/\
 q.cell? (b.add 1)=some (Value.int .i64 L)/\
 q.cell? (b.add 2)=some (Value.int .i64 M)/\
 fH c g h 16 4 q λbi bj=>iL (fG U W 0 aa ak au bi false false ⟨none,0,0⟩ ⟨none,0,0⟩) bj aw 0 λbk=>O aw bk))/\
 (Al N (.cells ⟨(fG 0 0 0 0 0 0 0 false false ⟨none,0,0⟩ ⟨none,0,0⟩)⟩ 68) λax r=>r.cell? (b.add 0)=some (Value.slice c.a c.len c.cap)/\
 r.cell? (b.add 1)=some (Value.int .i64 g)/\
 r.cell? (b.add 2)=some (Value.int .i64 h)/\
 r.cell? (b.add 0)=some (Value.slice d.a d.len d.cap)/\
 r.cell? (b.add 1)=some (Value.int .i64 j)/\
 r.cell? (b.add 2)=some (Value.int .i64 k)/\
 r.cell? (b.add 0)=some (Value.slice e.a e.len e.cap)/\
 r.cell? (b.add 1)=some (Value.int .i64 m)/\
 r.cell? (b.add 2)=some (Value.int .i64 n)/\
 r.cell? (b.add 0)=some (Value.slice f.a f.len f.cap)/\
 r.cell? (b.add 1)=some (Value.int .i64 y)/\
 r.cell? (b.add 2)=some (Value.int .i64 z)/\
 r.cell? (b.add 0)=some (Value.slice i.a i.len i.cap)/\
 r.cell? (b.add 1)=some (Value.int .i64 E)/\
 r.cell? (b.add 2)=some (Value.int .i64 F)/\
 r.cell? (b.add 0)=some (Value.slice l.a l.len l.cap)/\
 r.cell? (b.add 1)=some (Value.int .i64 L)/\
 r.cell? (b.add 2)=some (Value.int .i64 M)/\
 fH d j k 12 4 r λbl ab=>ab.cell? (b.add 0)=some (Value.slice c.a c.len c.cap)/\
 ab.cell? (b.add 1)=some (Value.int .i64 g)/\
 ab.cell? (b.add 2)=some (Value.int .i64 h)/\
 fH c g h 16 4 ab λbm bn=>iL (fG U W 0 aa ak bl bm false false ⟨none,0,0⟩ ⟨none,0,0⟩) bn ax 0 λbo=>O ax bo))/\
 (Al G (.cells ⟨(fG 0 0 0 0 0 0 0 false false ⟨none,0,0⟩ ⟨none,0,0⟩)⟩ 68) λay s=>s.cell? (b.add 0)=some (Value.slice c.a c.len c.cap)/\
 s.cell? (b.add 1)=some (Value.int .i64 g)/\
 s.cell? (b.add 2)=some (Value.int .i64 h)/\
 s.cell? (b.add 0)=some (Value.slice d.a d.len d.cap)/\
 s.cell? (b.add 1)=some (Value.int .i64 j)/\
 s.cell? (b.add 2)=some (Value.int .i64 k)/\
 s.cell? (b.add 0)=some (Value.slice e.a e.len e.cap)/\
 s.cell? (b.add 1)=some (Value.int .i64 m)/\
 s.cell? (b.add 2)=some (Value.int .i64 n)/\
 s.cell? (b.add 0)=some (Value.slice f.a f.len f.cap)/\
 s.cell? (b.add 1)=some (Value.int .i64 y)/\
 s.cell? (b.add 2)=some (Value.int .i64 z)/\
 s.cell? (b.add 0)=some (Value.slice i.a i.len i.cap)/\
 s.cell? (b.add 1)=some (Value.int .i64 E)/\
 s.cell? (b.add 2)=some (Value.int .i64 F)/\
 s.cell? (b.add 0)=some (Value.slice l.a l.len l.cap)/\
 s.cell? (b.add 1)=some (Value.int .i64 L)/\
 s.cell? (b.add 2)=some (Value.int .i64 M)/\
 fH e m n 9 1 s λbp P=>P.cell? (b.add 0)=some (Value.slice c.a c.len c.cap)/\
 P.cell? (b.add 1)=some (Value.int .i64 g)/\
 P.cell? (b.add 2)=some (Value.int .i64 h)/\
 P.cell? (b.add 0)=some (Value.slice d.a d.len d.cap)/\
 P.cell? (b.add 1)=some (Value.int .i64 j)/\
 P.cell? (b.add 2)=some (Value.int .i64 k)/\
 fH d j k 12 4 P λbq ac=>ac.cell? (b.add 0)=some (Value.slice c.a c.len c.cap)/\
 ac.cell? (b.add 1)=some (Value.int .i64 g)/\
 ac.cell? (b.add 2)=some (Value.int .i64 h)/\
 fH c g h 16 4 ac λbr bs=>iL (fG U W 0 aa bp bq br false false ⟨none,0,0⟩ ⟨none,0,0⟩) bs ay 0 λbt=>O ay bt))/\
 (Al B (.cells ⟨(fG 0 0 0 0 0 0 0 false false ⟨none,0,0⟩ ⟨none,0,0⟩)⟩ 68) λaz t=>t.cell? (b.add 0)=some (Value.slice c.a c.len c.cap)/\
 t.cell? (b.add 1)=some (Value.int .i64 g)/\
 t.cell? (b.add 2)=some (Value.int .i64 h)/\
 t.cell? (b.add 0)=some (Value.slice d.a d.len d.cap)/\
 t.cell? (b.add 1)=some (Value.int .i64 j)/\
 t.cell? (b.add 2)=some (Value.int .i64 k)/\
 t.cell? (b.add 0)=some (Value.slice e.a e.len e.cap)/\
 t.cell? (b.add 1)=some (Value.int .i64 m)/\
 t.cell? (b.add 2)=some (Value.int .i64 n)/\
 t.cell? (b.add 0)=some (Value.slice f.a f.len f.cap)/\
 t.cell? (b.add 1)=some (Value.int .i64 y)/\
 t.cell? (b.add 2)=some (Value.int .i64 z)/\
 t.cell? (b.add 0)=some (Value.slice i.a i.len i.cap)/\
 t.cell? (b.add 1)=some (Value.int .i64 E)/\
 t.cell? (b.add 2)=some (Value.int .i64 F)/\
 t.cell? (b.add 0)=some (Value.slice l.a l.len l.cap)/\
 t.cell? (b.add 1)=some (Value.int .i64 L)/\
 t.cell? (b.add 2)=some (Value.int .i64 M)/\
 fH f y z 8 1 t λbu H=>H.cell? (b.add 0)=some (Value.slice c.a c.len c.cap)/\
 H.cell? (b.add 1)=some (Value.int .i64 g)/\
 H.cell? (b.add 2)=some (Value.int .i64 h)/\
 H.cell? (b.add 0)=some (Value.slice d.a d.len d.cap)/\
 H.cell? (b.add 1)=some (Value.int .i64 j)/\
 H.cell? (b.add 2)=some (Value.int .i64 k)/\
 H.cell? (b.add 0)=some (Value.slice e.a e.len e.cap)/\
 H.cell? (b.add 1)=some (Value.int .i64 m)/\
 H.cell? (b.add 2)=some (Value.int .i64 n)/\
 fH e m n 9 1 H λbv Q=>Q.cell? (b.add 0)=some (Value.slice c.a c.len c.cap)/\
 Q.cell? (b.add 1)=some (Value.int .i64 g)/\
 Q.cell? (b.add 2)=some (Value.int .i64 h)/\
 Q.cell? (b.add 0)=some (Value.slice d.a d.len d.cap)/\
 Q.cell? (b.add 1)=some (Value.int .i64 j)/\
 Q.cell? (b.add 2)=some (Value.int .i64 k)/\
 fH d j k 12 4 Q λbw ad=>ad.cell? (b.add 0)=some (Value.slice c.a c.len c.cap)/\
 ad.cell? (b.add 1)=some (Value.int .i64 g)/\
 ad.cell? (b.add 2)=some (Value.int .i64 h)/\
 fH c g h 16 4 ad λbx bz=>iL (fG U W 0 bu bv bw bx false false ⟨none,0,0⟩ ⟨none,0,0⟩) bz az 0 λbA=>O az bA))/\
 (Al x (.cells ⟨(fG 0 0 0 0 0 0 0 false false ⟨none,0,0⟩ ⟨none,0,0⟩)⟩ 68) λaA u=>u.cell? (b.add 0)=some (Value.slice c.a c.len c.cap)/\
 u.cell? (b.add 1)=some (Value.int .i64 g)/\
 u.cell? (b.add 2)=some (Value.int .i64 h)/\
 u.cell? (b.add 0)=some (Value.slice d.a d.len d.cap)/\
 u.cell? (b.add 1)=some (Value.int .i64 j)/\
 u.cell? (b.add 2)=some (Value.int .i64 k)/\
 u.cell? (b.add 0)=some (Value.slice e.a e.len e.cap)/\
 u.cell? (b.add 1)=some (Value.int .i64 m)/\
 u.cell? (b.add 2)=some (Value.int .i64 n)/\
 u.cell? (b.add 0)=some (Value.slice f.a f.len f.cap)/\
 u.cell? (b.add 1)=some (Value.int .i64 y)/\
 u.cell? (b.add 2)=some (Value.int .i64 z)/\
 u.cell? (b.add 0)=some (Value.slice i.a i.len i.cap)/\
 u.cell? (b.add 1)=some (Value.int .i64 E)/\
 u.cell? (b.add 2)=some (Value.int .i64 F)/\
 u.cell? (b.add 0)=some (Value.slice l.a l.len l.cap)/\
 u.cell? (b.add 1)=some (Value.int .i64 L)/\
 u.cell? (b.add 2)=some (Value.int .i64 M)/\
 fH i E F 4 2 u λbB C=>C.cell? (b.add 0)=some (Value.slice c.a c.len c.cap)/\
 C.cell? (b.add 1)=some (Value.int .i64 g)/\
 C.cell? (b.add 2)=some (Value.int .i64 h)/\
 C.cell? (b.add 0)=some (Value.slice d.a d.len d.cap)/\
 C.cell? (b.add 1)=some (Value.int .i64 j)/\
 C.cell? (b.add 2)=some (Value.int .i64 k)/\
 C.cell? (b.add 0)=some (Value.slice e.a e.len e.cap)/\
 C.cell? (b.add 1)=some (Value.int .i64 m)/\
 C.cell? (b.add 2)=some (Value.int .i64 n)/\
 C.cell? (b.add 0)=some (Value.slice f.a f.len f.cap)/\
 C.cell? (b.add 1)=some (Value.int .i64 y)/\
 C.cell? (b.add 2)=some (Value.int .i64 z)/\
 fH f y z 8 1 C λbC I=>I.cell? (b.add 0)=some (Value.slice c.a c.len c.cap)/\
 I.cell? (b.add 1)=some (Value.int .i64 g)/\
 I.cell? (b.add 2)=some (Value.int .i64 h)/\
 I.cell? (b.add 0)=some (Value.slice d.a d.len d.cap)/\
 I.cell? (b.add 1)=some (Value.int .i64 j)/\
 I.cell? (b.add 2)=some (Value.int .i64 k)/\
 I.cell? (b.add 0)=some (Value.slice e.a e.len e.cap)/\
 I.cell? (b.add 1)=some (Value.int .i64 m)/\
 I.cell? (b.add 2)=some (Value.int .i64 n)/\
 fH e m n 9 1 I λbD R=>R.cell? (b.add 0)=some (Value.slice c.a c.len c.cap)/\
 R.cell? (b.add 1)=some (Value.int .i64 g)/\
 R.cell? (b.add 2)=some (Value.int .i64 h)/\
 R.cell? (b.add 0)=some (Value.slice d.a d.len d.cap)/\
 R.cell? (b.add 1)=some (Value.int .i64 j)/\
 R.cell? (b.add 2)=some (Value.int .i64 k)/\
 fH d j k 12 4 R λbE ae=>ae.cell? (b.add 0)=some (Value.slice c.a c.len c.cap)/\
 ae.cell? (b.add 1)=some (Value.int .i64 g)/\
 ae.cell? (b.add 2)=some (Value.int .i64 h)/\
 fH c g h 16 4 ae λbF bG=>iL (fG U bB 0 bC bD bE bF false false ⟨none,0,0⟩ ⟨none,0,0⟩) bG aA 0 λbH=>O aA bH))/\
 (Al o.drew (.cells ⟨(fG 0 0 0 0 0 0 0 false false ⟨none,0,0⟩ ⟨none,0,0⟩)⟩ 68) λaB v=>v.cell? (b.add 0)=some (Value.slice c.a c.len c.cap)/\
 v.cell? (b.add 1)=some (Value.int .i64 g)/\
 v.cell? (b.add 2)=some (Value.int .i64 h)/\
 v.cell? (b.add 0)=some (Value.slice d.a d.len d.cap)/\
 v.cell? (b.add 1)=some (Value.int .i64 j)/\
 v.cell? (b.add 2)=some (Value.int .i64 k)/\
 v.cell? (b.add 0)=some (Value.slice e.a e.len e.cap)/\
 v.cell? (b.add 1)=some (Value.int .i64 m)/\
 v.cell? (b.add 2)=some (Value.int .i64 n)/\
 v.cell? (b.add 0)=some (Value.slice f.a f.len f.cap)/\
 v.cell? (b.add 1)=some (Value.int .i64 y)/\
 v.cell? (b.add 2)=some (Value.int .i64 z)/\
 v.cell? (b.add 0)=some (Value.slice i.a i.len i.cap)/\
 v.cell? (b.add 1)=some (Value.int .i64 E)/\
 v.cell? (b.add 2)=some (Value.int .i64 F)/\
 v.cell? (b.add 0)=some (Value.slice l.a l.len l.cap)/\
 v.cell? (b.add 1)=some (Value.int .i64 L)/\
 v.cell? (b.add 2)=some (Value.int .i64 M)/\
 fH l L M 1 1 v λbI A=>A.cell? (b.add 0)=some (Value.slice c.a c.len c.cap)/\
 A.cell? (b.add 1)=some (Value.int .i64 g)/\
 A.cell? (b.add 2)=some (Value.int .i64 h)/\
 A.cell? (b.add 0)=some (Value.slice d.a d.len d.cap)/\
 A.cell? (b.add 1)=some (Value.int .i64 j)/\
 A.cell? (b.add 2)=some (Value.int .i64 k)/\
 A.cell? (b.add 0)=some (Value.slice e.a e.len e.cap)/\
 A.cell? (b.add 1)=some (Value.int .i64 m)/\
 A.cell? (b.add 2)=some (Value.int .i64 n)/\
 A.cell? (b.add 0)=some (Value.slice f.a f.len f.cap)/\
 A.cell? (b.add 1)=some (Value.int .i64 y)/\
 A.cell? (b.add 2)=some (Value.int .i64 z)/\
 A.cell? (b.add 0)=some (Value.slice i.a i.len i.cap)/\
 A.cell? (b.add 1)=some (Value.int .i64 E)/\
 A.cell? (b.add 2)=some (Value.int .i64 F)/\
 fH i E F 4 2 A λbJ D=>D.cell? (b.add 0)=some (Value.slice c.a c.len c.cap)/\
 D.cell? (b.add 1)=some (Value.int .i64 g)/\
 D.cell? (b.add 2)=some (Value.int .i64 h)/\
 D.cell? (b.add 0)=some (Value.slice d.a d.len d.cap)/\
 D.cell? (b.add 1)=some (Value.int .i64 j)/\
 D.cell? (b.add 2)=some (Value.int .i64 k)/\
 D.cell? (b.add 0)=some (Value.slice e.a e.len e.cap)/\
 D.cell? (b.add 1)=some (Value.int .i64 m)/\
 D.cell? (b.add 2)=some (Value.int .i64 n)/\
 D.cell? (b.add 0)=some (Value.slice f.a f.len f.cap)/\
 D.cell? (b.add 1)=some (Value.int .i64 y)/\
 D.cell? (b.add 2)=some (Value.int .i64 z)/\
 fH f y z 8 1 D λbK J=>J.cell? (b.add 0)=some (Value.slice c.a c.len c.cap)/\
 J.cell? (b.add 1)=some (Value.int .i64 g)/\
 J.cell? (b.add 2)=some (Value.int .i64 h)/\
 J.cell? (b.add 0)=some (Value.slice d.a d.len d.cap)/\
 J.cell? (b.add 1)=some (Value.int .i64 j)/\
 J.cell? (b.add 2)=some (Value.int .i64 k)/\
 J.cell? (b.add 0)=some (Value.slice e.a e.len e.cap)/\
 J.cell? (b.add 1)=some (Value.int .i64 m)/\
 J.cell? (b.add 2)=some (Value.int .i64 n)/\
 fH e m n 9 1 J λbL S=>S.cell? (b.add 0)=some (Value.slice c.a c.len c.cap)/\
 S.cell? (b.add 1)=some (Value.int .i64 g)/\
 S.cell? (b.add 2)=some (Value.int .i64 h)/\
 S.cell? (b.add 0)=some (Value.slice d.a d.len d.cap)/\
 S.cell? (b.add 1)=some (Value.int .i64 j)/\
 S.cell? (b.add 2)=some (Value.int .i64 k)/\
 fH d j k 12 4 S λbM af=>af.cell? (b.add 0)=some (Value.slice c.a c.len c.cap)/\
 af.cell? (b.add 1)=some (Value.int .i64 g)/\
 af.cell? (b.add 2)=some (Value.int .i64 h)/\
 fH c g h 16 4 af λbN bO=>iL (fG bI bJ 0 bK bL bM bN false false ⟨none,0,0⟩ ⟨none,0,0⟩) bO aB 0 λbP=>O aB bP)):=okF iE Tryz.func55 .leaf (by kernel_rfl)
theorem Zm {l m n o p q r s t u v w K}:fU (ni l m n o p q r s t u v w K)
 (Al w (.cells ⟨(fG l m n o p q r s t u v)⟩ 68) λa c=>eF c.drew a λH=>eF c.drew (a.add 3) λx=>eF c.drew (a.add 4) λg=>eF c.drew (a.add 1) λd=>kH H 1 c.drew λI e=>e.cell? (a.add 1)=some (Value.int .i64 d)/\
 e.cell? (a.add 4)=some (Value.int .i64 g)/\
 e.cell? (a.add 3)=some (Value.int .i64 x)/\
 kH x 1 e λJ h=>h.cell? (a.add 1)=some (Value.int .i64 d)/\
 h.cell? (a.add 4)=some (Value.int .i64 g)/\
 kH g 1 h λL y=>y.cell? (a.add 1)=some (Value.int .i64 d)/\
 kH d 2 y λM N=>Al N (.cells ⟨[.bool I,.bool J,.bool L,.bool M]⟩ 4) λO P=>sO ⟨(some O),4,4⟩ P λQ i=>eF i.drew (a.add 5) λR=>eF i.drew (a.add 6) λz=>kT R i.drew λS A=>A.cell? (a.add 6)=some (Value.int .i64 z)/\
 kT z A λT U=>Al U (.cells ⟨[.bool S,.bool T]⟩ 4) λV W=>sO ⟨(some V),2,2⟩ W λX b=>let B:Bool->b_:=λY j=>(Ld .slice j (a.add 9) λZ=>Ld .slice j (a.add 9) λaa=>(4:Int)≠0/\
 Al j (.cells ⟨[.bool (decide ((Z.len:Int)<=40)),.bool ((Int.tmod (aa.len:Int) 4)==0)]⟩ 4) λab ac=>sO ⟨(some ab),2,2⟩ ac λad ae=>Al ae (.cells ⟨[.bool Q,.bool X,.bool Y,.bool ad]⟩ 4) λaf ag=>sO ⟨(some af),4,4⟩ ag λah k=>(cond (!ah) (K 1 k) (let C:Bool->b_:=λai D=>((cond ai (K 6 D) (K 0 D)))
 gI k a λaj ak al am an ao ap aq ar au av=>wM aj ak al am an ao ap aq ar au av k λaw f=>(cond (decide (aw>65535)) (C true f) (eF f (a.add 2) λax=>Ld .slice f (a.add 10) λay=>C (decide (ax>(IntKind.i64.wrap (65535 - (ay.len:Int))))) f)))))
 eF b (a.add 2) λE=>eF b (a.add 2) λF=>eF b (a.add 2) λG=>(8:Int)≠0/\
 Ld .bool b (a.add 8) λaz=>(cond (!az) (Al b (.cells ⟨[.bool (decide (E>=0)),.bool (decide (F<=65528)),.bool ((Int.tmod G 8)==0),.bool true]⟩ 4) λaA aB=>sO ⟨(some aA),4,4⟩ aB λaC aD=>B aC aD) (Ld .slice b (a.add 10) λaE=>(8:Int)≠0/\
 Al b (.cells ⟨[.bool (decide (E>=0)),.bool (decide (F<=65528)),.bool ((Int.tmod G 8)==0),.bool ((Int.tmod (aE.len:Int) 8)==0)]⟩ 4) λaF aG=>sO ⟨(some aF),4,4⟩ aG λaH aI=>B aH aI))):=okF iE Tryz.func56 .leaf (by kernel_rfl)
theorem FU {c a w K}:fU (jT c a w K)
 (let d:Bool->b_:=λg b=>((cond g (K false b) (Pt c λh=>Ld .slice b h λe=>iP e 1 a λi=>eF b i λj=>iP e 1 a λk=>St b k (.int .i64 (IntKind.i64.wrap (j+1))) λl=>K true l)))
 kM c a w λm f=>(cond (!m) (d true f) (d (a==0) f))):=okF iE Tryz.func57 .leaf (by kernel_rfl)
theorem F7 {a w K}:fU (jm a w K)
 (let b:Bool->Prop:=λc=>(K c w)
 (cond (!(Option.isNone a)) (Pt a λd=>Ld .ptr w d λe=>b (!(Option.isNone e))) (b false))):=okF iE Tryz.func58 .leaf (by kernel_rfl)
theorem Nv {a c w K}:fU (oZ a c w K)
 (let d:Bool->b_:=λe f=>(K e f)
 mV a w λg b=>(cond g (Pt a λh=>Ld .slice b (h.add 2) λi=>gQ i c b λj k=>d j k) (d false b))):=okF iE Tryz.func59 .leaf (by kernel_rfl)
theorem Zo {b c d e f g h i j k l w K}:fU (uj b c d e f g h i j k l w K)
 (Al w (.cells ⟨(fG b c d e f g h i j k l)⟩ 68) λm a=>let n:Bool->Prop:=λo=>(K o a)
 Ld .bool a (m.add 8) λp=>(cond (!p) (eF a (m.add 2) λq=>n (decide (q<=0))) (n false))):=okF iE Tryz.func60 .leaf (by kernel_rfl)
theorem LM {a c e l i m n w K}:fU (kY a c e l i m n w K)
 (jE a w λx o=>(cond (!x) (K (bs []) ⟨none,0,0⟩ false 2 o) (mP a c n o λb p f=>(cond (p !=0) (K (bs []) ⟨none,0,0⟩ false p f) (Pt b λy=>Ld .ptr f.drew y λz=>Pt a λj=>eF f.drew (j.add 2) λk=>lI z e i f.drew λA q=>q.cell? (j.add 2)=some (Value.int .i64 k)/\
 kZ a q λB g=>g.cell? (j.add 2)=some (Value.int .i64 k)/\
 (cond (decide (A>(IntKind.i64.wrap (k - B)))) (K (bs []) ⟨none,0,0⟩ false 7 g) (Pt b λC=>Ld .ptr g C λD=>mM D e l i g λr d=>(cond (r !=0) (Pt a λE=>Ld .map d E λF=>Me Tryz.prog 9 F (Value.string c) d λG=>K (bs []) ⟨none,0,0⟩ false r G) (let s:b_:=λt=>(Pt b λH=>Ld .ptr t H λI=>lG I t λJ L h=>(cond (!L) (Pt a λM=>Ld .map h M λN=>zS Tryz.prog 9 N (Value.string c) (Value.pointer b) h λO=>K (bs []) ⟨none,0,0⟩ false 0 O) (Pt a λP=>Ld .map h P λQ=>Me Tryz.prog 9 Q (Value.string c) h λu=>Pt b λR=>Ld .str u (R.add 2) λS=>K S J true 0 u)))
 let v:Bool->Prop:=λT=>((cond T (Pt b λU=>St d (U.add 2) (.string m) λV=>Pt b λW=>St V (W.add 3) (.bool true) λX=>s X) (s d)))
 (cond (e==0) (Pt b λY=>Ld .bool d (Y.add 3) λZ=>v (!Z)) (v false))))))))))):=okF iE Tryz.func61 .leaf (by kernel_rfl)
theorem O5 {f g h i j k l m n o p q w K}:fU (qh f g h i j k l m n o p q w K)
 (Al w (.cells ⟨(fG g h i j k l m n o p q)⟩ 68) λa u=>Al u (.cells ⟨[.int .u8 52,.int .u8 (IntKind.u8.wrap f)]⟩ 5) λv d=>eF d (a.add 5) λx=>eF d (a.add 6) λy=>Al d (.cells ⟨[.int .i64 x,.int .i64 y]⟩ 3) λz A=>iQ (S:=eY×Int×Unit) (λb c B=>(cond (decide (b.2.1<(2:Int))) (iP ⟨(some z),2,2⟩ 1 b.2.1 λC=>eF c C λD=>lu b.1 D 4 c λE F=>B (E,(IntKind.i64.wrap (b.2.1+1)),()) F) (eF c.drew (a.add 4) λG=>eF c.drew (a.add 1) λe=>Al c.drew (.cells ⟨[.int .u8 (IntKind.u8.wrap G)]⟩ 5) λH r=>r.cell? (a.add 1)=some (Value.int .i64 e)/\
 uQ 5 1 1 [(Value.int .u8 0)] b.1 ⟨(some H),1,1⟩ r λI s=>s.cell? (a.add 1)=some (Value.int .i64 e)/\
 lu I e 2 s λJ t=>uS t J λL=>K L t))) (⟨(some v),2,2⟩,0,()) A):=okF iE Tryz.func62 (eX (eX (.seq (eX (.blk (.loop [(5,.slice),(17,(.int .i64))] .leaf))) .leaf))) (by kernel_rfl)
theorem Uc {a b c d e f g h i j k w K}:fU (mG a b c d e f g h i j k w K)
 (Al w (.cells ⟨(fG a b c d e f g h i j k)⟩ 68) λm l=>gI l m λn o p q r s t u v x y=>Ai n o p q r s t u v x y l λz B A=>K z A):=okF iE Tryz.func63 .leaf (by kernel_rfl)
theorem Ru {a w K}:fU (rZ a w K)
 ((cond (a==0) (K 0 w) (cond (a==7) (K 6 w) (cond (a==9) (K 12 w) (K 1 w))))):=okF iE Tryz.func64 .leaf (by kernel_rfl)
theorem Zq {i j k l m n o p q r s w K}:fU (Jd i j k l m n o p q r s w K)
 (Al w (.cells ⟨(fG i j k l m n o p q r s)⟩ 68) λb y=>Al y (.cells ⟨(fG 0 0 0 0 0 0 0 false false ⟨none,0,0⟩ ⟨none,0,0⟩)⟩ 68) λc d=>eF d (b.add 3) λz=>(cond (decide (z<=1)) (iL (fG 0 0 0 0 0 0 0 false false ⟨none,0,0⟩ ⟨none,0,0⟩) d c 0 λt=>gI t c λA B C D E F G H I J L=>K A B C D E F G H I J L false t) (eF d (b.add 3) λM=>St d (b.add 3) (.int .i64 (IntKind.i64.wrap (M - 1))) λf=>Ld .slice f.drew (b.add 9) λN=>Ld .slice f.drew (b.add 10) λe=>fQ N f.drew λg u=>u.cell? (b.add 10)=some (Value.slice e.a e.len e.cap)/\
 fQ e u λh O=>St O (b.add 9) (.slice g.a g.len g.cap) λP=>St P (b.add 10) (.slice h.a h.len h.cap) λv=>gI v b λQ R S T U V W X Y Z aa=>iL (fG Q R S T U V W X Y Z aa) v c 0 λx=>gI x c λab ac ad ae af ag ah ai aj ak al=>K ab ac ad ae af ag ah ai aj ak al true x))):=okF iE Tryz.func65 .leaf (by kernel_rfl)
theorem FN {b a c w K}:fU (kL b a c w K)
 (Pt b λd=>Ld .ptr w (d.add 39) λe=>jT e a w λg f=>K c a f):=okF iE Tryz.func66 .leaf (by kernel_rfl)
theorem Xf {x y z A B C D E F G H I w K}:fU (xJ x y z A B C D E F G H I w K)
 (Al w (.cells ⟨(fG x y z A B C D E F G H)⟩ 68) λb d=>(cond I (K ⟨none,0,0⟩ d) (let p:Addr->Int->b_:=λP Q q=>((cond (Q !=0) (K ⟨none,0,0⟩ q) (gI q P λR S T U V W X Y Z aa ab=>mG R S T U V W X Y Z aa ab q λr ac=>Al ac (.cells ⟨[.int .i64 (-1),.slice r.a r.len r.cap]⟩ 42) λad ae=>K ⟨(some ad),1,1⟩ ae)))
 eF d.drew (b.add 6) λc=>gI d.drew b λe f g h i j k l m n o=>(mG e f g h i j k l m n o d.drew λJ s=>s.cell? (b.add 6)=some (Value.int .i64 c)/\
 (oK c 11 0 0 J s λaf ag ah ai aj ak al am an ao ap aq ar=>Al ar (.cells ⟨(fG 0 0 0 0 0 0 0 false false ⟨none,0,0⟩ ⟨none,0,0⟩)⟩ 68) λL t=>S_ (fG e f g h i j k l m n o) t b 0 (
 t.cell? (b.add 6)=some (Value.int .i64 c)/\
 iL (fG af ag ah ai aj ak al am an ao ap) t L 0 λau=>p L aq au))/\
 (Al s (.cells ⟨(fG 0 0 0 0 0 0 0 false false ⟨none,0,0⟩ ⟨none,0,0⟩)⟩ 68) λM u=>S_ (fG e f g h i j k l m n o) u b 0 (
 u.cell? (b.add 6)=some (Value.int .i64 c)/\
 oK c 11 0 0 J u λav aw ax ay az aA aB aC aD aE aF aG aH=>iL (fG av aw ax ay az aA aB aC aD aE aF) aH M 0 λaI=>p M aG aI)))/\
 (Al d.drew (.cells ⟨(fG 0 0 0 0 0 0 0 false false ⟨none,0,0⟩ ⟨none,0,0⟩)⟩ 68) λN v=>S_ (fG e f g h i j k l m n o) v b 0 (
 v.cell? (b.add 6)=some (Value.int .i64 c)/\
 mG e f g h i j k l m n o v λaJ O=>O.cell? (b.add 6)=some (Value.int .i64 c)/\
 oK c 11 0 0 aJ O λaK aL aM aN aO aP aQ aR aS aT aU aV aW=>iL (fG aK aL aM aN aO aP aQ aR aS aT aU) aW N 0 λaX=>p N aV aX))))):=okF iE Tryz.func67 .leaf (by kernel_rfl)
theorem LQ {e v x y z A B C D E F G w K}:fU (qO e v x y z A B C D E F G w K)
 (Al w (.cells ⟨(fG v x y z A B C D E F G)⟩ 68) λf Y=>Al Y (.cells ⟨(fG 0 0 0 0 0 0 0 false false ⟨none,0,0⟩ ⟨none,0,0⟩)⟩ 68) λb Z=>let H:Bool->b_:=λj8 p=>((cond j8 (iL (fG 0 0 0 0 0 0 0 false false ⟨none,0,0⟩ ⟨none,0,0⟩) p b 0 λI=>gI I b λab ac ad ae af ag ah ai aj ak al=>K 0 ab ac ad ae af ag ah ai aj ak al 1 I) (gI p f λam an ao ap aq ar au av aw ax ay=>DV am an ao ap aq ar au av aw ax ay p λaz aA aB q aC aD=>Al aD (.cells ⟨[.int .i64 0,.int .i64 0,.int .i64 0,.slice none 0 0]⟩ 168) λj aE=>iL [.int .i64 az,.int .i64 aA,.int .i64 aB,.slice q.a q.len q.cap] aE j 0 λg=>(cond aC (gI g f λaF aG aH aI aJ aK aL aM aN aO aP=>eF g (j.add 0) λaQ=>eF g (j.add 1) λaR=>eF g (j.add 2) λaS=>Ld .slice g (j.add 3) λaT=>pI e aF aG aH aI aJ aK aL aM aN aO aP aQ aR aS aT g λaU aV aW aX aY aZ a1 a2 a3 a5 a7 a8 a9 ba=>iL (fG aV aW aX aY aZ a1 a2 a3 a5 a7 a8) ba b 0 λJ=>gI J b λbb bc bd be bf bg bh bi bj bk bl=>K aU bb bc bd be bf bg bh bi bj bk bl a9 J) (gI g f λbm bn bo bp bq br bs bt bu bv bw=>Ae bm bn bo bp bq br bs bt bu bv bw g λbx bz bA L bB=>Al bB (.cells ⟨[.int .i64 0,.int .i64 0,.int .i64 0]⟩ 258) λk bC=>iL [.int .i64 bx,.int .i64 bz,.int .i64 bA] bC k 0 λh=>(cond (L !=0) (Ac L h λbD bE=>iL (fG 0 0 0 0 0 0 0 false false ⟨none,0,0⟩ ⟨none,0,0⟩) bE b 0 λM=>gI M b λbF bG bH bI bJ bK bL bM bN bO bP=>K 0 bF bG bH bI bJ bK bL bM bN bO bP bD M) (Pt e λbQ=>Ld .ptr h.drew (bQ.add 2) λbR=>eF h.drew k λbS=>eF h.drew (f.add 6) λbT=>eF h.drew (k.add 2) λbU=>lC bR bS bT bU h.drew λr bV s=>(cond (!bV) (iL (fG 0 0 0 0 0 0 0 false false ⟨none,0,0⟩ ⟨none,0,0⟩) s b 0 λN=>gI N b λbW bX bY bZ b0 b1 b2 b3 b4 b5 b6=>K 0 bW bX bY bZ b0 b1 b2 b3 b4 b5 b6 9 N) (Pt e λb7=>Ld .ptr s (b7.add 2) λb8=>Iq b8 r s λb9 ca cb cc cd ce cf cg ej ch=>Al ch (.cells ⟨[.int .i64 0,.int .i64 0,.int .i64 0,.int .i64 0,.int .i64 0,.int .i64 0,.int .i64 0,.bool false]⟩ 155) λl ci=>iL [.int .i64 b9,.int .i64 ca,.int .i64 cb,.int .i64 cc,.int .i64 cd,.int .i64 ce,.int .i64 cf,.bool cg] ci l 0 λn=>eF n k λcj=>eF n (f.add 5) λck=>eF n (k.add 1) λcl=>TJ cj ck cl n λcm cn co=>Ja e r true 0 false 0 cm cn co λcp cq cr cs ct cu cv cw=>Al cw (.cells ⟨[.int .i64 0,.bool false,.int .i64 0,.bool false,.int .i64 0,.int .i64 0,.int .i64 0]⟩ 264) λc cx=>iL [.int .i64 cp,.bool cq,.int .i64 cr,.bool cs,.int .i64 ct,.int .i64 cu,.int .i64 cv] cx c 0 λi=>let O:Bool->b_:=λcy d=>((cond cy (iL (fG 0 0 0 0 0 0 0 false false ⟨none,0,0⟩ ⟨none,0,0⟩) d b 0 λP=>gI P b λcz cA cB cC cD cE cF cG cH cI cJ=>K 0 cz cA cB cC cD cE cF cG cH cI cJ 10 P) (eF d (c.add 0) λcK=>Ld .bool d (c.add 1) λcL=>eF d (c.add 2) λcM=>Ld .bool d (c.add 3) λcN=>eF d (c.add 4) λcO=>eF d (c.add 5) λcP=>eF d (c.add 6) λcQ=>gI d f λcR cS cT cU cV cW cX cY cZ c0 c1=>Hl e cK cL cM cN cO cP cQ cR cS cT cU cV cW cX cY cZ c0 c1 d λQ m=>(cond (Q !=0) (iL (fG 0 0 0 0 0 0 0 false false ⟨none,0,0⟩ ⟨none,0,0⟩) m b 0 λR=>gI R b λc2 c3 c4 c5 c6 c7 c8 c9 da db dc=>K 0 c2 c3 c4 c5 c6 c7 c8 c9 da db dc Q R) (gI m f λdd de df dg dh di dj dk dl dm dn=>eF m (l.add 2) λdp=>eF m (l.add 3) λdq=>aak dd de df dg dh di dj dk dl dm dn dp dq m λdr ds dt du dv dw dx dy dz dA dB ek dC=>Al dC (.cells ⟨(fG 0 0 0 0 0 0 0 false false ⟨none,0,0⟩ ⟨none,0,0⟩)⟩ 68) λS dD=>iL (fG dr ds dt du dv dw dx dy dz dA dB) dD S 0 λt=>eF t.drew l λdE=>gI t.drew S λdF dG dH dI dJ dK dL dM dN dO dP=>iL (fG dF dG dH dI dJ dK dL dM dN dO dP) t.drew b 0 λT=>gI T b λdQ dR dS dT dU dV dW dX dY dZ d0=>K dE dQ dR dS dT dU dV dW dX dY dZ d0 0 T)))))
 Ld .bool i.drew (l.add 7) λd1=>(cond (!d1) (Pt e λU=>eF i.drew ((U.add 5).add 29) λV=>eF i.drew ((c.add 5).add 0) λW=>eF i.drew ((c.add 5).add 1) λX=>Jb e r i.drew λd2 o=>o.cell? ((c.add 5).add 0)=some (Value.int .i64 W)/\
 o.cell? ((c.add 5).add 1)=some (Value.int .i64 X)/\
 o.cell? ((U.add 5).add 29)=some (Value.int .i64 V)/\
 Qg V W X d2 o λd3 d4=>O (!d3) d4) (O false i.drew)))))))))))
 jm e Z λd5 u=>(cond (!d5) (H true u) (gI u f λd6 d7 d8 d9 ea eb ec ed ee ef eg=>vw d6 d7 d8 d9 ea eb ec ed ee ef eg u λeh ei=>H (!eh) ei))):=okF iE Tryz.func68 .leaf (by kernel_rfl)
theorem JO {b w K}:fU (jP b w K)
 (kQ b w λc a=>(cond (!c) (K 0 a) (Pt b λd=>Ld .map a (d.add 448) λe=>I5 a e λf=>K f a))):=okF iE Tryz.func71 .leaf (by kernel_rfl)
theorem Rx {a w K}:fU (Cc a w K)
 (iC (Value.pointer a)=true/\
 Al w (.cells ⟨[.pointer a]⟩ 99) λb c=>K (Value.func (.func 148) #[] #[(Value.pointer (some b))]) c):=okF iE Tryz.func72 .leaf (by kernel_rfl)
theorem F9 {a w K}:fU (rM a w K)
 (iC (Value.pointer a)=true/\
 Al w (.cells ⟨[.pointer a]⟩ 100) λb c=>K (Value.func (.func 150) #[] #[(Value.pointer (some b))]) c):=okF iE Tryz.func73 .leaf (by kernel_rfl)
theorem Ih {a w K}:fU (jE a w K)
 (let b:Bool->Prop:=λc=>(K c w)
 (cond (!(Option.isNone a)) (Pt a λd=>Ld .map w d λe=>b (!(Option.isNone e))) (b false))):=okF iE Tryz.func74 .leaf (by kernel_rfl)
theorem LP {c w K}:fU (kZ c w K)
 (Pt c λe=>Ld .map w e λf=>VB f w λa g=>iQ (S:=Int×Unit) (λd h i=>a=⟨a.block,0,none⟩/\
 abB a.block h (λj=>K d.1 j) (λq r b=>a=⟨a.block,0,none⟩/\
 Vy a.block b λs k=>Kind.dec .ptr k λl=>Pt l λm=>Ld .ptr b m λn=>kN n b λo p=>i ((IntKind.i64.wrap (d.1+o)),()) p)) (0,()) g):=okF iE Tryz.func75 (eX (eX (.seq (eX (.blk (.loop [(3,(.int .i64))] .leaf))) .leaf))) (by kernel_rfl)
theorem Dy {b w K}:fU (jk b w K)
 ((cond (Option.isNone b.a) (K ⟨none,0,0⟩ w) (Al w (.cells ⟨[]⟩ 3) λc d=>uQ 3 1 8 [(Value.int .i64 0)] ⟨(some c),0,0⟩ b d λe f=>K e f))):=okF iE Tryz.func76 .leaf (by kernel_rfl)
theorem Zi {a b c w K}:fU (gX a b c w K)
 (let d:Bool->Prop:=λe=>(K e w)
 (cond (decide (a>=b)) (d (decide (a<=c))) (d false))):=okF iE Tryz.func77 .leaf (by kernel_rfl)
theorem Ut {b c d e f g h i j k l m n o p q w K}:fU (qQ b c d e f g h i j k l m n o p q w K)
 (Al w (.cells ⟨(nK b c d e f g h i j k l m n o p q)⟩ 23) λr a=>let s:Bool->Prop:=λt=>(K t a)
 uT a r λu v x y z A B C D E F G H I J L=>(cond (!((u==0) && ((v==0) && ((x==0) && ((y==0) && ((z==0) && ((A==0) && ((B==0) && ((C==0) && ((D==0) && ((E==0) && ((F==0) && ((G==0) && ((H==0) && ((I==0) && ((J==0) && ((L==0) && true))))))))))))))))) ((0:Int)<=0/\0<(16:Int)/\
 Ld (.int .u8) a (r.add (Int.toNat 0 * 1)) λM=>s (M !=255)) (s false))):=okF iE Tryz.func78 .leaf (by kernel_rfl)
theorem Us {a w K}:fU (qP a w K)
 (let b:Bool->Prop:=λc=>(K c w)
 (cond (decide (a>=16777216)) (cond (decide (a<3758096384)) ((16777216:Int)≠0/\
 b ((IntKind.i64.wrap (Int.tdiv a 16777216)) !=127)) (b false)) (b false))):=okF iE Tryz.func79 .leaf (by kernel_rfl)
theorem Ph {i j k l m n o p q r s t u v x y z A B C D E F G H I J L M N O P Q R S T U V W X Y Z B6 w K}:fU (qC i j k l m n o p q r s t u v x y z A B C D E F G H I J L M N O P Q R S T U V W X Y Z B6 w K)
 (Al w (.cells ⟨(jo i j k l m n o p q r s t u v x y z A B C D E F G H I J L M N O P Q R S T)⟩ 28) λa4 w3=>Al w3 (.cells ⟨[.int .i64 U,.int .i64 V,.int .i64 W,.int .i64 X,.int .i64 Y,.int .i64 Z,.int .i64 B6]⟩ 121) λa d=>let f:Bool->Prop:=λj8=>(let J9:Bool->b_:=λaf b=>(let c:Bool->b_:=λag ah=>(K ag ah)
 (cond j8 (cond af (eF b (a.add 4) λai=>eF b (a.add 1) λaj=>(cond (ai==aj) (eF b a λak=>Ld .slice b (a4.add 16) λal=>gX ak 0 (IntKind.i64.wrap ((al.len:Int) - 1)) b λam g=>(cond am (eF g (a.add 2) λan=>qP an g λao e=>(cond ao (rX e a4 λap aq ar au av aw ax ay az aA aB aC aD aE aF aG aH aI aJ aK aL aM aN aO aP aQ aR aS aT aU aV aW aX aY aZ a0=>eF e ((a.add 4).add 1) λa1=>vC ap aq ar au av aw ax ay az aA aB aC aD aE aF aG aH aI aJ aK aL aM aN aO aP aQ aR aS aT aU aV aW aX aY aZ a0 a1 e λa2 a3=>c a2 a3) (c false e))) (c false g))) (c false b))) (c false b)) (c false b)))
 eF d (a.add 3) λa5=>gX a5 0 65535 d λa7 h=>(cond a7 (eF h ((a.add 4).add 2) λa8=>gX a8 0 65535 h λa9 ba=>J9 a9 ba) (J9 false h)))
 eF d (a.add 1) λbb=>(cond (bb==1) (f true) (eF d (a.add 1) λbc=>(cond (bc==6) (f true) (eF d (a.add 1) λbd=>f (bd==17)))))):=okF iE Tryz.func80 .leaf (by kernel_rfl)
theorem lZ {b w K}:fU (fQ b w K)
 ((cond (Option.isNone b.a) (K ⟨none,0,0⟩ w) (Al w (.cells ⟨[]⟩ 5) λc d=>uQ 5 1 1 [(Value.int .u8 0)] ⟨(some c),0,0⟩ b d λe f=>K e f))):=okF iE Tryz.func92 .leaf (by kernel_rfl)
theorem Vb {c a b w K}:fU (lu c a b w K)
 (fQ c w λd f=>kH a b f λg e=>(cond (!g) (K d e) (qj a b e λh i=>iD d h i λj k=>K j k))):=okF iE Tryz.func94 .leaf (by kernel_rfl)
theorem Nu {c d e f g h i j k l m n o p q r s t u v x y z A B C D E F G H I J L M N w K}:fU (oW c d e f g h i j k l m n o p q r s t u v x y z A B C D E F G H I J L M N w K)
 (Al w (.cells ⟨(jo c d e f g h i j k l m n o p q r s t u v x y z A B C D E F G H I J L M N)⟩ 28) λb a=>Ld .slice a (b.add 16) λP=>Ld .slice a (b.add 17) λQ=>Ld .slice a (b.add 35) λR=>eF a (b.add 21) λO=>eF a (b.add 18) λS=>eF a (b.add 19) λT=>eF a (b.add 18) λU=>eF a (b.add 20) λV=>eF a (b.add 21) λW=>eF a (b.add 22) λX=>eF a (b.add 23) λY=>eF a (b.add 24) λZ=>eF a (b.add 25) λaa=>eF a (b.add 26) λab=>eF a (b.add 27) λac=>eF a (b.add 29) λad=>eF a (b.add 30) λae=>eF a (b.add 31) λaf=>eF a (b.add 32) λag=>eF a (b.add 33) λah=>eF a (b.add 34) λai=>Al a (.cells ⟨(amj (P.len:Int) 1 64 (Q.len:Int) 1 16 (R.len:Int) 0 (if O<64 then O else 64) S 1 65535 T U 65535 V 1 4096 W 1 4096 X 1 4096 Y 0 4096 Z 0 67108864 aa 1280 65535 ab 1280 65535 ac 1 255 ad 0 2 ae 120 1048576 af 7440 1048576 ag 240 1048576 ah 60 1048576 ai 1 1048576)⟩ 202) λaj ak=>K ⟨(some aj),19,19⟩ ak):=okF iE Tryz.func103 .leaf (by kernel_rfl)
theorem JC {c d e w K}:fU (iZ c d e w K)
 (Al w (.cells ⟨[.int .i64 c,.int .i64 d,.int .i64 e]⟩ 202) λb a=>let f:Bool->Prop:=λg=>(K g a)
 eF a (b.add 1) λh=>eF a b λi=>(cond (decide (h<=i)) (eF a b λj=>eF a (b.add 2) λk=>f (decide (j<=k))) (f false))):=okF iE Tryz.func104 .leaf (by kernel_rfl)
theorem Pe {a w K}:fU (qA a w K)
 (let b:Bool->b_:=λc d=>(K c d)
 (cond (a==0) (b true w) (iZ a 536 65535 w λe f=>b e f))):=okF iE Tryz.func105 .leaf (by kernel_rfl)
theorem O9 {e f g h i j k l m n o p q r s t u v x y z A B C D E F G H I J L M N O P w K}:fU (qx e f g h i j k l m n o p q r s t u v x y z A B C D E F G H I J L M N O P w K)
 (Al w (.cells ⟨(jo e f g h i j k l m n o p q r s t u v x y z A B C D E F G H I J L M N O P)⟩ 28) λa Q=>let R:Bool->b_:=λW b=>((cond W (K false b) (let S:Bool->b_:=λX T=>((cond X (K false T) (K true T)))
 Ld .slice b (a.add 17) λY=>iK Y (Value.func (.func 178) #[] #[]) b λU c=>(cond U (S U c) (Ld .slice c (a.add 35) λZ=>gU Z (Value.func (.func 179) #[] #[(Value.pointer (some a))]) c λaa ab=>S aa ab)))))
 uT Q a λac ad ae af ag ah ai aj ak al am an ao ap aq ar=>wJ ac ad ae af ag ah ai aj ak al am an ao ap aq ar Q λV d=>(cond (!V) (R (!V) d) (Ld .slice d (a.add 16) λau=>iw au (Value.func (.func 176) #[] #[]) d λav aw=>R av aw))):=okF iE Tryz.func106 .leaf (by kernel_rfl)
theorem LC {F G H I J L M N O P Q R T U V W X Y Z aa ab ac ad ae af ag ah ai aj ak al am an ao ap aq w K}:fU (og F G H I J L M N O P Q R T U V W X Y Z aa ab ac ad ae af ag ah ai aj ak al am an ao ap aq w K)
 (Al w (.cells ⟨(jo F G H I J L M N O P Q R T U V W X Y Z aa ab ac ad ae af ag ah ai aj ak al am an ao ap aq)⟩ 28) λb f=>let J4:eY->b_:=λj5 w6=>(let g:Bool->b_:=λj8 y=>((cond j8 (K true y) (Ld .slice y (b.add 16) λau=>VA 3 1 8 [(Value.int .i64 0)] (au.len:Int) (au.len:Int) y λz av=>Ld .slice av (b.add 35) λaw=>iQ (S:=Int×Unit) (λA c aG=>(cond (decide (A.1<(aw.len:Int))) (iP aw 7 A.1 λe=>eF c (e.add 0) λaH=>eF c (e.add 1) λaI=>eF c (e.add 2) λaJ=>eF c (e.add 3) λaK=>eF c (e.add 4) λaL=>eF c (e.add 5) λaM=>eF c (e.add 6) λaN=>Al c (.cells ⟨[.int .i64 0,.int .i64 0,.int .i64 0,.int .i64 0,.int .i64 0,.int .i64 0,.int .i64 0]⟩ 121) λax aO=>iL [.int .i64 aH,.int .i64 aI,.int .i64 aJ,.int .i64 aK,.int .i64 aL,.int .i64 aM,.int .i64 aN] aO ax 0 λB=>eF B ax λay=>iP z 1 ay λaP=>eF B aP λaQ=>iP z 1 ay λaR=>St B aR (.int .i64 (IntKind.i64.wrap (aQ+1))) λaS=>aG ((IntKind.i64.wrap (A.1+1)),()) aS) (iK z (Value.func (.func 197) #[] #[(Value.pointer (some b))]) c λaT aU=>K aT aU))) (0,()) av)))
 iR j5 (Value.func (.func 189) #[] #[]) w6 λaV aW=>jK aV aW λaX C=>(cond aX (g true C) (Ld .slice C (b.add 17) λaY=>jV aY (Value.func (.func 192) #[] #[]) C λaZ a0=>lD aZ a0 λa1 D=>(cond a1 (g true D) (Ld .slice D (b.add 35) λa2=>iH a2 (Value.func (.func 185) #[] #[]) D λa4 a5=>jq a4 a5 λa6 E=>(cond a6 (g true E) (Ld .slice E (b.add 35) λa7=>iI a7 (Value.func (.func 186) #[] #[]) E λa8 a9=>jr a8 a9 λba bb=>g ba bb)))))))
 Ld .slice f.drew (b.add 16) λd=>uT f.drew b λh i j k l m n o p q r s t u v x=>(iG d f.drew λbc az=>S_ (nK h i j k l m n o p q r s t u v x) az b 0 (
 Al az (.cells ⟨(nK h i j k l m n o p q r s t u v x)⟩ 23) λbd aA=>aA.cell? (b.add 16)=some (Value.slice d.a d.len d.cap)/\
 uQ 23 16 16 (nK 0 0 0 0 0 0 0 0 0 0 0 0 0 0 0 0) bc ⟨(some bd),1,1⟩ aA λbe bf=>J4 be bf))/\
 (Al f.drew (.cells ⟨(nK h i j k l m n o p q r s t u v x)⟩ 23) λbg aB=>aB.cell? (b.add 16)=some (Value.slice d.a d.len d.cap)/\
 iG d aB λbh aC=>S_ (nK h i j k l m n o p q r s t u v x) aC b 0 (
 uQ 23 16 16 (nK 0 0 0 0 0 0 0 0 0 0 0 0 0 0 0 0) bh ⟨(some bg),1,1⟩ aC λbi bj=>J4 bi bj))):=okF iE Tryz.func107 (eX (eX (eX (eX (eX (eX (.seq (eX (.blk (.loop [(46,(.int .i64))] .leaf))) .leaf))))))) (by kernel_rfl)
theorem Ef {a w K}:fU (ku a w K)
 (kT a w λc b=>(cond (!c) (K false b) (Al b (.cells ⟨[.int .i64 0,.int .i64 8,.int .i64 2130706432,.int .i64 8,.int .i64 3758096384,.int .i64 3]⟩ 334) λd e=>DU a ⟨(some d),3,3⟩ e λf g=>K (!f) g))):=okF iE Tryz.func108 .leaf (by kernel_rfl)
theorem qJ {a b w K}:fU (gQ a b w K)
 (jl a b w λc d=>K (decide (c>=0)) d):=okF iE Tryz.func109 .leaf (by kernel_rfl)
theorem Zc {a w K}:fU (uf a w K)
 (let b:Bool->Prop:=λc=>((cond c (K none 1 w) (Al w (.cells ⟨[.slice none 0 0,.int .i64 0,.int .i64 a,.bool true]⟩ 338) λd e=>K (some d) 0 e)))
 (cond (decide (a<0)) (b true) (b (decide (a>65536))))):=okF iE Tryz.func110 .leaf (by kernel_rfl)
theorem O7 {b d e f w K}:fU (lC b d e f w K)
 (Al w (.cells ⟨[.int .i64 d,.int .i64 e,.int .i64 f]⟩ 119) λc j=>l7 b j λk a=>(cond (!k) (K 0 false a) (Pt b λg=>Ld .ptr a.drew (g.add 2) λh=>eF a.drew (c.add 0) λl=>eF a.drew (c.add 1) λm=>eF a.drew (c.add 2) λn=>oV l m n a.drew λo i=>i.cell? (g.add 2)=some (Value.pointer h)/\
 oq h o i λp q r=>K p q r))):=okF iE Tryz.func113 .leaf (by kernel_rfl)
theorem Ny {b c d e f w K}:fU (fH b c d e f w K)
 (Al w (.cells ⟨[.slice b.a b.len b.cap,.int .i64 c,.int .i64 d]⟩ 130) λh g=>Ld .slice g h λi=>xK i e f g λj l k=>K j k):=okF iE Tryz.func119 .leaf (by kernel_rfl)
theorem aa0 {a w K}:fU (zy a w K)
 (xZ a w λb c=>Ah b c λd e=>K d e):=okF iE Tryz.func120 .leaf (by kernel_rfl)
theorem adK {a w K}:fU (sO a w K)
 (pU a false w λb c=>K (!b) c):=okF iE Tryz.func121 .leaf (by kernel_rfl)
theorem Rw {b a w K}:fU (kH b a w K)
 (let c:Bool->b_:=λe f=>(K e f)
 t_ a w λg d=>(cond g (cond (decide (b>=0)) (0<=(IntKind.i64.wrap (8 * a))/\
 c ((jy .i64 b (IntKind.i64.wrap (8 * a)))==0) d) (c false d)) (c false d))):=okF iE Tryz.func122 .leaf (by kernel_rfl)
theorem IL {a w K}:fU (kT a w K)
 (let b:Bool->Prop:=λc=>(K c w)
 (cond (decide (a>=0)) (b (decide (a<4294967296))) (b false))):=okF iE Tryz.func123 .leaf (by kernel_rfl)
theorem aa3 {e f g h i j k l m n o w K}:fU (wM e f g h i j k l m n o w K)
 (Al w (.cells ⟨(fG e f g h i j k l m n o)⟩ 68) λc d=>gI d.drew c λq r s t u v x y z A B=>Ld .slice d.drew (c.add 10) λb=>wK q r s t u v x y z A B d.drew λC p=>p.cell? (c.add 10)=some (Value.slice b.a b.len b.cap)/\
 K (IntKind.i64.wrap (C+(b.len:Int))) p):=okF iE Tryz.func124 .leaf (by kernel_rfl)
theorem FV {a b w K}:fU (kM a b w K)
 (let c:Bool->Prop:=λd=>(K d w)
 (cond (!(Option.isNone a)) (cond (decide (b>=0)) (Pt a λe=>Ld .slice w e λf=>c (decide (b<(f.len:Int)))) (c false)) (c false))):=okF iE Tryz.func125 .leaf (by kernel_rfl)
theorem JM {a w K}:fU (mV a w K)
 (let b:Bool->Prop:=λc=>(K c w)
 (cond (!(Option.isNone a)) (Pt a λd=>Ld .map w (d.add 3) λe=>b (!(Option.isNone e))) (b false))):=okF iE Tryz.func126 .leaf (by kernel_rfl)
theorem JK {b c a w K}:fU (mP b c a w K)
 (Pt b λg=>Ld .map w g λh=>Bo Tryz.prog 9 h (Value.string c) (Value.pointer none) w λi j=>∃d:eG,i=(Value.pointer d)/\
 (cond j (K d 0 w) (Pt b λk=>Ld .map w.drew k λl=>Pt b λe=>eF w.drew (e.add 1) λf=>I5 w.drew l λm=>w.drew.cell? (e.add 1)=some (Value.int .i64 f)/\
 (cond (decide (m>=f)) (K none 7 w.drew) (xP w.drew λn o=>Al o (.cells ⟨[.pointer n,.int .i64 (if (1099511627776:Int)<(if (0:Int)>a then 0 else a) then 1099511627776 else (if (0:Int)>a then 0 else a)),.string (bs []),.bool false]⟩ 249) λp q=>K (some p) 0 q))))):=okF iE Tryz.func127 .leaf (by kernel_rfl)
theorem Ic {a c b w K}:fU (lI a c b w K)
 (let d:Bool->b_:=λh e=>((cond h (K 0 e) (K (b.len:Int) e)))
 iM a w λi f=>(cond (!i) (d true f) (jM a c true b f λj g=>(cond j (d true g) (jM a c false b g λk l=>d k l))))):=okF iE Tryz.func128 .leaf (by kernel_rfl)
theorem JF {c q m d w K}:fU (mM c q m d w K)
 (iM c w λz r=>(cond (!z) (K 2 r) (Al r (.cells ⟨[.int .i64 0,.bool false,.slice none 0 0]⟩ 353) λb A=>iL [.int .i64 q,.bool m,.slice d.a d.len d.cap] A b 0 λk=>eF k (b.add 0) λB=>Ld .bool k (b.add 1) λC=>Ld .slice k (b.add 2) λD=>xQ B C D k λs e=>(cond (s !=0) (K s e) (eF e (b.add 0) λE=>Ld .bool e (b.add 1) λF=>Ld .slice e (b.add 2) λG=>jM c E F G e λH f=>(cond H (K 0 f) (eF f (b.add 0) λI=>Ld .bool f (b.add 1) λJ=>Ld .slice f (b.add 2) λL=>kP c I J L f λM g=>(cond M (K 9 g) (eF g (b.add 0) λN=>Ld .bool g (b.add 1) λO=>Ld .slice g (b.add 2) λP=>lJ c N O P g λQ t=>(cond (!Q) (K 4 t) (fQ d t λn R=>St R (b.add 2) (.slice n.a n.len n.cap) λh=>Pt c λS=>Ld .slice h.drew S λT=>eF h.drew (b.add 0) λU=>Ld .bool h.drew (b.add 1) λV=>Ld .slice h.drew (b.add 2) λW=>gq T U V W (Value.func (.func 222) #[] #[]) h.drew λX ao i=>Pt c λu=>Ld .slice i.drew u λl=>eF i.drew (b.add 0) λY=>Ld .bool i.drew (b.add 1) λZ=>Ld .slice i.drew (b.add 2) λo=>Al i.drew (.cells ⟨[.int .i64 Y,.bool Z,.slice o.a o.len o.cap]⟩ 353) λaa v=>v.cell? u=some (Value.slice l.a l.len l.cap)/\
 g_ l X ⟨(some aa),1,1⟩ v λp ab=>Pt c λac=>St ab ac (.slice p.a p.len p.cap) λx=>Pt c λad=>eF x (ad.add 1) λae=>Pt c λaf=>St x (af.add 1) (.int .i64 (IntKind.i64.wrap (ae+(d.len:Int)))) λj=>let y:b_:=λag=>(K 0 ag)
 (cond (!m) (eF j (b.add 0) λah=>Ld .bool j (b.add 1) λai=>Ld .slice j (b.add 2) λaj=>iq ah ai aj j λak al=>Pt c λam=>St al (am.add 2) (.int .i64 ak) λan=>y an) (y j))))))))))))):=okF iE Tryz.func129 .leaf (by kernel_rfl)
theorem Ia {d w K}:fU (lG d w K)
 (Al w (.cells ⟨[.slice none 0 0]⟩ 37) λe x=>Al x (.cells ⟨[.bool false]⟩ 4) λf y=>let p:Bool->b_:=λz q=>((cond z (St q e (.slice none 0 0) λA=>St A f (.bool false) λj=>Ld .slice j e λB=>Ld .bool j f λC=>K B C j) (lH d q λD b=>Ez Tryz.prog none [.one (.int .i64),.one (.int .i64)] D b (λk ac l E=>l.heap[k]? =l.heap[k]? /\
 St (fF l k) e (Value.slice none 0 0) λF=>St F f (.bool false) λG=>E .ret G)
 (λr=>Pt d λH=>eF r (H.add 1) λI=>VA 5 1 1 [(Value.int .u8 0)] 0 I r λJ s=>Pt d λL=>Ld .slice s L λt=>iQ (S:=eY×Int×Unit) (λc g M=>(cond (decide (c.2.1<(t.len:Int))) (iP t 3 c.2.1 λm=>eF g (m.add 0) λN=>Ld .bool g (m.add 1) λO=>Ld .slice g (m.add 2) λn=>Al g (.cells ⟨[.int .i64 0,.bool false,.slice none 0 0]⟩ 353) λu P=>iL [.int .i64 N,.bool O,.slice n.a n.len n.cap] P u 0 λv=>Ld .slice v (u.add 2) λQ=>uQ 5 1 1 [(Value.int .u8 0)] c.1 Q v λR T=>M (R,(IntKind.i64.wrap (c.2.1+1)),()) T) (St g e (.slice c.1.a c.1.len c.1.cap) λU=>St U f (.bool true) λh=>h.heap[b.heap.size]? =some (.deferred (some []))/\
 Ld .slice (h.putObj b.heap.size (.deferred none)) e λV=>Ld .bool (h.putObj b.heap.size (.deferred none)) f λW=>K V W (h.putObj b.heap.size (.deferred none))))) (J,0,()) s)
 (λi=>i.heap[b.heap.size]? =some (.deferred (some []))/\
 Ld .slice (i.putObj b.heap.size (.deferred none)) e λX=>Ld .bool (i.putObj b.heap.size (.deferred none)) f λY=>K X Y (i.putObj b.heap.size (.deferred none)))
 [])))
 iM d y λZ o=>(cond (!Z) (p true o) (Pt d λaa=>eF o (aa.add 2) λab=>p (decide (ab<0)) o))):=okF iE Tryz.func130 (eX (eX (.seq (eX (.blk (.rng [.one (.int .i64),.one (.int .i64)] .leaf .leaf))) (eX (.seq (eX (.blk (.loop [(4,.slice),(31,(.int .i64))] .leaf))) .leaf))))) (by kernel_rfl)
theorem Zl {i j k l m n o p q r s w K}:fU (Ai i j k l m n o p q r s w K)
 (Al w (.cells ⟨(fG i j k l m n o p q r s)⟩ 68) λd t=>gI t d λz A B C D E F G H I J=>ni z A B C D E F G H I J t λu f=>(cond (u !=0) (K ⟨none,0,0⟩ u f) (gI f d λL M N O P Q R T U V W=>yc L M N O P Q R T U V W f λv X=>iQ (S:=eY×Int×Unit) (λb c Y=>(cond (decide (b.2.1<(v.len:Int))) (iP v 2 b.2.1 λx=>eF c (x.add 0) λZ=>eF c (x.add 1) λaa=>Al c (.cells ⟨[.int .i64 0,.int .i64 0]⟩ 367) λg ab=>iL [.int .i64 Z,.int .i64 aa] ab g 0 λh=>eF h g λac=>eF h (g.add 1) λad=>lu b.1 ac ad h λae af=>Y (ae,(IntKind.i64.wrap (b.2.1+1)),()) af) (Ld .slice c (d.add 9) λag=>uQ 5 1 1 [(Value.int .u8 0)] b.1 ag c λe ah=>Al ah (.cells ⟨[.slice e.a e.len e.cap]⟩ 37) λai aj=>Di ⟨(some ai),1,1⟩ aj λak al=>Dc e 10 ak 2 al λam aq y=>Ld .slice y (d.add 10) λan=>uQ 5 1 1 [(Value.int .u8 0)] am an y λao ap=>K ao 0 ap))) (⟨none,0,0⟩,0,()) X))):=okF iE Tryz.func131 (eX (eX (eX (.seq (eX (.blk (.loop [(5,.slice),(16,(.int .i64))] .leaf))) .leaf)))) (by kernel_rfl)
theorem Xh {l m n o e w K}:fU (oK l m n o e w K)
 (Al w (.cells ⟨(fG 0 0 0 0 0 0 0 false false ⟨none,0,0⟩ ⟨none,0,0⟩)⟩ 68) λb u=>xM e u λv x y z A B C D E F G H I=>Al I (.cells ⟨(fG 0 0 0 0 0 0 0 false false ⟨none,0,0⟩ ⟨none,0,0⟩)⟩ 68) λf J=>iL (fG v x y z A B C D E F G) J f 0 λg=>(cond (!H) (iL (fG 0 0 0 0 0 0 0 false false ⟨none,0,0⟩ ⟨none,0,0⟩) g b 0 λp=>gI p b λL M N O P Q R S T U V=>K L M N O P Q R S T U V 11 p) (gI g f λW X Y Z aa ab ac ad ae af ag=>u_ e W X Y Z aa ab ac ad ae af ag g λh ah=>Al ah (.cells ⟨[.int .i64 0,.int .i64 0,.int .i64 0,.slice none 0 0]⟩ 168) λc ai=>iL [.int .i64 m,.int .i64 n,.int .i64 o,.slice h.a h.len h.cap] ai c 0 λd=>eF d (c.add 0) λaj=>eF d (c.add 1) λak=>eF d (c.add 2) λal=>Ld .slice d (c.add 3) λam=>vg aj ak al am d λan ao i=>(cond (ao !=0) (iL (fG 0 0 0 0 0 0 0 false false ⟨none,0,0⟩ ⟨none,0,0⟩) i b 0 λq=>gI q b λap aq ar au av aw ax ay az aA aB=>K ap aq ar au av aw ax ay az aA aB 1 q) (eF i (f.add 5) λaC=>Al i (.cells ⟨(fG 0 0 0 0 0 0 0 false false ⟨none,0,0⟩ ⟨none,0,0⟩)⟩ 68) λj aD=>iL (fG 0 0 0 64 1 l aC false false ⟨none,0,0⟩ an) aD j 0 λr=>gI r j λaE aF aG aH aI aJ aK aL aM aN aO=>ni aE aF aG aH aI aJ aK aL aM aN aO r λaP k=>(cond (aP !=0) (iL (fG 0 0 0 0 0 0 0 false false ⟨none,0,0⟩ ⟨none,0,0⟩) k b 0 λs=>gI s b λaQ aR aS aT aU aV aW aX aY aZ a5=>K aQ aR aS aT aU aV aW aX aY aZ a5 1 s) (gI k j λa6 a8 a9 ba bb bc bd be bf bg bh=>iL (fG a6 a8 a9 ba bb bc bd be bf bg bh) k b 0 λt=>gI t b λbi bj bk bl bm bn bo bp bq br bs=>K bi bj bk bl bm bn bo bp bq br bs 0 t))))))):=okF iE Tryz.func132 .leaf (by kernel_rfl)
theorem Uo {b c d e f g h i j k l w K}:fU (vw b c d e f g h i j k l w K)
 (Al w (.cells ⟨(fG b c d e f g h i j k l)⟩ 68) λm n=>let o:Bool->b_:=λp q=>(K p q)
 gI n m λr s t u v x y z A B C=>ni r s t u v x y z A B C n λD a=>(cond (D==0) (gI a m λE F G H I J L M N O P=>uj E F G H I J L M N O P a λQ R=>o Q R) (o false a))):=okF iE Tryz.func133 .leaf (by kernel_rfl)
theorem Un {n o p q r s t u v x y w K}:fU (DV n o p q r s t u v x y w K)
 (Al w (.cells ⟨(fG n o p q r s t u v x y)⟩ 68) λz B=>Al B (.cells ⟨[.int .i64 0,.int .i64 0,.int .i64 0,.slice none 0 0]⟩ 168) λd i=>eF i (z.add 4) λC=>(cond (C !=1) (iL [.int .i64 0,.int .i64 0,.int .i64 0,.slice none 0 0] i d 0 λf=>eF f (d.add 0) λD=>eF f (d.add 1) λE=>eF f (d.add 2) λF=>Ld .slice f (d.add 3) λG=>K D E F G false f) (Ld .slice i (z.add 10) λH=>yY H i λI J L m M N=>Al N (.cells ⟨[.int .i64 0,.int .i64 0,.int .i64 0,.slice none 0 0]⟩ 168) λb O=>iL [.int .i64 I,.int .i64 J,.int .i64 L,.slice m.a m.len m.cap] O b 0 λe=>let A:Bool->b_:=λP g=>(eF g (d.add 0) λQ=>eF g (d.add 1) λR=>eF g (d.add 2) λS=>Ld .slice g (d.add 3) λT=>K Q R S T P g)
 eF e.drew (b.add 0) λj=>eF e.drew (b.add 1) λk=>eF e.drew (b.add 2) λl=>Ld .slice e.drew (b.add 3) λc=>(cond (M==0) (eF e.drew b λU=>oP U e.drew λV h=>h.cell? (b.add 0)=some (Value.int .i64 j)/\
 h.cell? (b.add 1)=some (Value.int .i64 k)/\
 h.cell? (b.add 2)=some (Value.int .i64 l)/\
 h.cell? (b.add 3)=some (Value.slice c.a c.len c.cap)/\
 iL [.int .i64 j,.int .i64 k,.int .i64 l,.slice c.a c.len c.cap] h d 0 λW=>A V W) (e.drew.cell? (b.add 0)=some (Value.int .i64 j)/\
 e.drew.cell? (b.add 1)=some (Value.int .i64 k)/\
 e.drew.cell? (b.add 2)=some (Value.int .i64 l)/\
 e.drew.cell? (b.add 3)=some (Value.slice c.a c.len c.cap)/\
 iL [.int .i64 j,.int .i64 k,.int .i64 l,.slice c.a c.len c.cap] e.drew d 0 λX=>A false X))))):=okF iE Tryz.func134 .leaf (by kernel_rfl)
theorem Eh {i m n o p q r s t u v x y z A g w K}:fU (pI i m n o p q r s t u v x y z A g w K)
 (Al w (.cells ⟨(fG m n o p q r s t u v x)⟩ 68) λh H=>Al H (.cells ⟨[.int .i64 y,.int .i64 z,.int .i64 A,.slice g.a g.len g.cap]⟩ 168) λe I=>Al I (.cells ⟨(fG 0 0 0 0 0 0 0 false false ⟨none,0,0⟩ ⟨none,0,0⟩)⟩ 68) λc B=>Ld .slice B (e.add 3) λJ=>Ci J B λL M N O P Q R S T U V W X Y Z aa=>Al aa (.cells ⟨(fG 0 0 0 0 0 0 0 false false ⟨none,0,0⟩ ⟨none,0,0⟩)⟩ 68) λC ab=>Al ab (.cells ⟨[.int .i64 0,.int .i64 0,.int .i64 0]⟩ 258) λj ac=>iL (fG L M N O P Q R S T U V) ac C 0 λad=>iL [.int .i64 W,.int .i64 X,.int .i64 Y] ad j 0 λd=>(cond (Z !=0) (iL (fG 0 0 0 0 0 0 0 false false ⟨none,0,0⟩ ⟨none,0,0⟩) d c 0 λD=>gI D c λae af ag ah ai aj ak al am an ao=>K 0 ae af ag ah ai aj ak al am an ao 1 D) (Pt i λap=>Ld .ptr d.drew (ap.add 2) λaq=>eF d.drew j λar=>eF d.drew (C.add 5) λau=>eF d.drew (j.add 1) λav=>lC aq ar au av d.drew λaw ax k=>(cond (!ax) (iL (fG 0 0 0 0 0 0 0 false false ⟨none,0,0⟩ ⟨none,0,0⟩) k c 0 λE=>gI E c λay az aA aB aC aD aE aF aG aH aI=>K 0 ay az aA aB aC aD aE aF aG aH aI 9 E) (Pt i λaJ=>Ld .ptr k (aJ.add 2) λaK=>Iq aK aw k λaL aM aN aO aP aQ aR aS bR aT=>Al aT (.cells ⟨[.int .i64 0,.int .i64 0,.int .i64 0,.int .i64 0,.int .i64 0,.int .i64 0,.int .i64 0,.bool false]⟩ 155) λf aU=>iL [.int .i64 aL,.int .i64 aM,.int .i64 aN,.int .i64 aO,.int .i64 aP,.int .i64 aQ,.int .i64 aR,.bool aS] aU f 0 λb=>gI b h λaV aW aX aY aZ a1 a2 a3 a4 a6 a8=>eF b (e.add 0) λba=>eF b (e.add 1) λbb=>eF b (e.add 2) λbc=>Ld .slice b (e.add 3) λbd=>eF b (f.add 2) λbe=>eF b (f.add 3) λbf=>Ye aV aW aX aY aZ a1 a2 a3 a4 a6 a8 ba bb bc bd true be bf b λbg bh bi bj bk bl bm bn bo bp bq br=>iL (fG bg bh bi bj bk bl bm bn bo bp bq) br h 0 λF=>eF F (f.add 2) λbs=>St F (h.add 6) (.int .i64 bs) λl=>eF l.drew f λbt=>gI l.drew h λbu bv bw bx bz bA bB bC bD bE bF=>iL (fG bu bv bw bx bz bA bB bC bD bE bF) l.drew c 0 λG=>gI G c λbG bH bI bJ bK bL bM bN bO bP bQ=>K bt bG bH bI bJ bK bL bM bN bO bP bQ 0 G))))):=okF iE Tryz.func135 .leaf (by kernel_rfl)
theorem Zh {d e f g h i j k l m n w K}:fU (Ae d e f g h i j k l m n w K)
 (Al w (.cells ⟨(fG d e f g h i j k l m n)⟩ 68) λr s=>Al s (.cells ⟨[.int .i64 0,.int .i64 0,.int .i64 0]⟩ 258) λa o=>gI o r λt u v x y z A B C D E=>Ag t u v x y z A B C D E o λF p q=>(cond (p !=0) (iL [.int .i64 0,.int .i64 0,.int .i64 0] q a 0 λb=>eF b (a.add 0) λG=>eF b (a.add 1) λH=>eF b (a.add 2) λI=>K G H I p b) (aec Tryz.prog F "goosepond/ports.ports" [] [.agg [(.int .i64),(.int .i64),(.int .i64)]] q λJ L M N=>iL [.int .i64 J,.int .i64 L,.int .i64 M] N a 0 λc=>eF c (a.add 0) λO=>eF c (a.add 1) λP=>eF c (a.add 2) λQ=>K O P Q 0 c))):=okF iE Tryz.func136 .leaf (by kernel_rfl)
theorem Zf {a w K}:fU (Ac a w K)
 ((cond (a==8) (K 4 w) (K 1 w))):=okF iE Tryz.func137 .leaf (by kernel_rfl)
theorem Gf {a w K}:fU (kQ a w K)
 (let b:Bool->Prop:=λc=>(K c w)
 (cond (!(Option.isNone a)) (Pt a λd=>Ld .map w (d.add 448) λe=>b (!(Option.isNone e))) (b false))):=okF iE Tryz.func147 .leaf (by kernel_rfl)
theorem Np {a0 f0 w K}:fU (OO a0 f0 w K)
 (Ld .ptr w f0 λj=>l7 j w λk c=>(cond (!k) (K c) (Ld .ptr c f0 λl=>Pt l λm=>Ld .slice c m λf=>iQ (S:=Int×Unit) (λd e n=>(cond (decide (d.1<(f.len:Int))) (iP f 9 d.1 λo=>anY e o λp q r s t u v x y=>Al e (.cells ⟨(akh 0 0 0 0 0 0 0 false false)⟩ 278) λb z=>iL (akh p q r s t u v x y) z b 0 λa=>let g:Bool->b_:=λA h=>((cond A (K h) (n ((IntKind.i64.wrap (d.1+1)),()) h)))
 Ld .bool a (b.add 8) λB=>(cond B (eF a (b.add 0) λC=>eF a (b.add 1) λD=>eF a (b.add 2) λE=>eF a (b.add 3) λF=>eF a (b.add 4) λG=>eF a (b.add 5) λH=>eF a (b.add 6) λI=>Ld .bool a (b.add 7) λJ=>iY Tryz.prog [.one .bool] a0 [(Value.int .i64 d.1),(Value.agg ⟨[.int .i64 C,.int .i64 D,.int .i64 E,.int .i64 F,.int .i64 G,.int .i64 H,.int .i64 I,.bool J]⟩)] a λL M=>∃i:Bool,L=(Value.bool i)/\
 g (!i) M) (g false a))) (K e))) (0,()) c))):=okF iE Tryz.func148 (eX (eX (.blk (.loop [(13,(.int .i64))] .leaf)))) (by kernel_rfl)
theorem Nq {a w K}:fU (l7 a w K)
 (let b:Bool->Prop:=λc=>(K c w)
 (cond (!(Option.isNone a)) (Pt a λd=>Ld .ptr w (d.add 1) λe=>b (!(Option.isNone e))) (b false))):=okF iE Tryz.func149 .leaf (by kernel_rfl)
theorem Ej {a0 f0 w K}:fU (EF a0 f0 w K)
 (Ld .ptr w f0 λk=>jW k w λl e=>(cond (!l) (K e) (Ld .ptr e f0 λm=>Pt m λn=>Ld .slice e n λg=>iQ (S:=Int×Unit) (λf a o=>(cond (decide (f.1<(g.len:Int))) (iP g 6 f.1 λd=>eF a (d.add 0) λp=>eF a (d.add 1) λq=>eF a (d.add 2) λr=>eF a (d.add 3) λs=>eF a (d.add 4) λt=>Ld .bool a (d.add 5) λu=>Al a (.cells ⟨[.int .i64 0,.int .i64 0,.int .i64 0,.int .i64 0,.int .i64 0,.bool false]⟩ 281) λc v=>iL [.int .i64 p,.int .i64 q,.int .i64 r,.int .i64 s,.int .i64 t,.bool u] v c 0 λb=>let h:Bool->b_:=λx i=>((cond x (K i) (o ((IntKind.i64.wrap (f.1+1)),()) i)))
 Ld .bool b (c.add 5) λy=>(cond y (eF b (c.add 0) λz=>eF b (c.add 1) λA=>eF b (c.add 2) λB=>eF b (c.add 3) λC=>eF b (c.add 4) λD=>iY Tryz.prog [.one .bool] a0 [(Value.int .i64 f.1),(Value.agg ⟨[.int .i64 z,.int .i64 A,.int .i64 B,.int .i64 C,.int .i64 D]⟩)] b λE F=>∃j:Bool,E=(Value.bool j)/\
 h (!j) F) (h false b))) (K a))) (0,()) e))):=okF iE Tryz.func150 (eX (eX (.blk (.loop [(13,(.int .i64))] .leaf)))) (by kernel_rfl)
theorem Em {a w K}:fU (jW a w K)
 (let b:Bool->Prop:=λc=>(K c w)
 (cond (!(Option.isNone a)) (Pt a λd=>Ld .ptr w (d.add 1) λe=>b (!(Option.isNone e))) (b false))):=okF iE Tryz.func151 .leaf (by kernel_rfl)
theorem FZ {a w K}:fU (kN a w K)
 (iM a w λc b=>(cond (!c) (K 0 b) (Pt a λd=>eF b (d.add 1) λe=>K e b))):=okF iE Tryz.func152 .leaf (by kernel_rfl)
theorem Uu {c d e f g h i j k l m n o p q r s t u v x y z A B C D E F G H I J L M N O w K}:fU (vC c d e f g h i j k l m n o p q r s t u v x y z A B C D E F G H I J L M N O w K)
 (Al w (.cells ⟨(jo c d e f g h i j k l m n o p q r s t u v x y z A B C D E F G H I J L M N)⟩ 28) λP Q=>iQ (S:=Int×Unit) (λb a R=>Ld .slice a (P.add 17) λT=>(cond (decide (b.1<(T.len:Int))) (Ld .slice a (P.add 17) λU=>iP U 1 b.1 λV=>eF a V λW=>(cond (W==O) (K true a) (R ((IntKind.i64.wrap (b.1+1)),()) a))) (K false a))) (0,()) Q):=okF iE Tryz.func153 (eX (.seq (eX (.blk (.loop [(5,(.int .i64))] .leaf))) .leaf)) (by kernel_rfl)
theorem adH {c d e w K}:fU (xK c d e w K)
 (uw c d e w λf g h=>iQ (S:=Int×Int×Unit) (λa b i=>(cond (decide (a.2.1<(f.len:Int))) (iP f 1 a.2.1 λj=>Ld (.int .u8) b j λk=>0<=(8:Int)/\
 i ((Xz .i64 (LY .i64 a.1 8) (IntKind.i64.wrap k)),(IntKind.i64.wrap (a.2.1+1)),()) b) (K a.1 g b))) (0,0,()) h):=okF iE Tryz.func154 (eX (eX (eX (.seq (eX (.blk (.loop [(10,(.int .i64)),(22,(.int .i64))] .leaf))) .leaf)))) (by kernel_rfl)
theorem oN {b i w K}:fU (iD b i w K)
 (iC (Value.slice b.a b.len b.cap)=true/\
 Al w (.cells ⟨[.slice b.a b.len b.cap]⟩ 37) λf c=>Ez Tryz.prog none [.one (.int .u8)] i c (λd k e l=>e.heap[d]? =e.heap[d]? /\
 Ld .slice (fF e d) f λm=>Al (fF e d) (.cells ⟨[.int .u8 k.1]⟩ 5) λn o=>uQ 5 1 1 [(Value.int .u8 0)] m ⟨(some n),1,1⟩ o λg p=>St p f (.slice g.a g.len g.cap) λq=>l .normal q)
 (λh=>Ld .slice h f λr=>h.heap[c.heap.size]? =some (.deferred (some []))/\
 K r (h.putObj c.heap.size (.deferred none)))
 (λj=>j.heap[c.heap.size]? =some (.deferred (some []))/\
 K ⟨none,0,0⟩ (j.putObj c.heap.size (.deferred none)))
 []):=okF iE Tryz.func167 (eX (.seq (eX (.blk (.rng [.one (.int .u8)] .leaf .leaf))) .leaf)) (by kernel_rfl)
theorem Lu {a b w K}:fU (qj a b w K)
 (iC (Value.int .i64 a)=true/\
 Al w (.cells ⟨[.int .i64 a]⟩ 3) λc d=>iC (Value.int .i64 b)=true/\
 Al d (.cells ⟨[.int .i64 b]⟩ 3) λe f=>K (Value.func (.func 272) #[] #[(Value.pointer (some e)),(Value.pointer (some c))]) f):=okF iE Tryz.func168 .leaf (by kernel_rfl)
theorem LD {A0 A1 A2 A3 A4 A5 A6 A7 A8 A9 u z I J U Y w K}:fU (MK A0 A1 A2 A3 A4 A5 A6 A7 A8 A9 u z I J U Y w K)
 (Al w (.cells ⟨(nK A0 A1 A2 A3 A4 A5 A6 A7 A8 A9 u z I J U Y)⟩ 23) λb a=>uT a b λc d e f g h i j k l m n o p q r=>wJ c d e f g h i j k l m n o p q r a λs t=>K (!s) t):=okF iE Tryz.func176 .leaf (by kernel_rfl)
theorem Zj {b c d e f g h i j k l m n o p q w K}:fU (wJ b c d e f g h i j k l m n o p q w K)
 (Al w (.cells ⟨(nK b c d e f g h i j k l m n o p q)⟩ 23) λr t=>Al t (.cells ⟨(nK 0 0 0 0 0 0 0 0 0 0 0 0 0 0 0 0)⟩ 23) λu a=>let s:Bool->Prop:=λv=>(K v a)
 uT a r λx y z A B C D E F G H I J L M N=>uT a u λO P Q R S T U V W X Y Z aa ab ac ad=>(cond (!((x==O) && ((y==P) && ((z==Q) && ((A==R) && ((B==S) && ((C==T) && ((D==U) && ((E==V) && ((F==W) && ((G==X) && ((H==Y) && ((I==Z) && ((J==aa) && ((L==ab) && ((M==ac) && ((N==ad) && true))))))))))))))))) ((0:Int)<=0/\0<(16:Int)/\
 Ld (.int .u8) a (r.add (Int.toNat 0 * 1)) λae=>s (ae !=255)) (s false))):=okF iE Tryz.func177 .leaf (by kernel_rfl)
theorem LG {a0 w K}:fU (ML a0 w K)
 (ku a0 w λa b=>K (!a) b):=okF iE Tryz.func178 .leaf (by kernel_rfl)
theorem LH {A0 A1 A2 A3 A4 A5 A6 f0 w K}:fU (MN A0 A1 A2 A3 A4 A5 A6 f0 w K)
 (Al w (.cells ⟨[.int .i64 A0,.int .i64 A1,.int .i64 A2,.int .i64 A3,.int .i64 A4,.int .i64 A5,.int .i64 A6]⟩ 121) λb a=>rX a f0 λc d e f g h i j k l m n o p q r s t u v x y z A B C D E F G H I J L M N=>eF a (b.add 0) λO=>eF a (b.add 1) λP=>eF a (b.add 2) λQ=>eF a (b.add 3) λR=>eF a (b.add 4) λS=>eF a (b.add 5) λT=>eF a (b.add 6) λU=>sD c d e f g h i j k l m n o p q r s t u v x y z A B C D E F G H I J L M N O P Q R S T U a λV W=>K (!V) W):=okF iE Tryz.func179 .leaf (by kernel_rfl)
theorem Rz {g h i j k l m n o p q r s t u v x y z A B C D E F G H I J L M N O P Q R S T U V W X Y w K}:fU (sD g h i j k l m n o p q r s t u v x y z A B C D E F G H I J L M N O P Q R S T U V W X Y w K)
 (Al w (.cells ⟨(jo g h i j k l m n o p q r s t u v x y z A B C D E F G H I J L M N O P Q R)⟩ 28) λZ w3=>Al w3 (.cells ⟨[.int .i64 S,.int .i64 T,.int .i64 U,.int .i64 V,.int .i64 W,.int .i64 X,.int .i64 Y]⟩ 121) λa w5=>let J7:Bool->b_:=λj8 w9=>(let ad:Bool->b_:=λai ae=>(let af:Bool->b_:=λaj b=>(let c:Bool->b_:=λak al=>(K ak al)
 (cond j8 (cond ai (cond aj (eF b a λam=>Ld .slice b (Z.add 16) λan=>iZ am 0 (IntKind.i64.wrap ((an.len:Int) - 1)) b λao ap=>c ao ap) (c false b)) (c false b)) (c false b)))
 eF ae (a.add 1) λaq=>qy aq ae λar d=>(cond ar (eF d (a.add 1) λau=>eF d (a.add 4) λav=>af (au==av) d) (af false d)))
 eF w9 (a.add 2) λaw=>ku aw w9 λax e=>(cond ax (Ld .slice e (Z.add 17) λay=>eF e ((a.add 4).add 1) λaz=>gQ ay az e λaA aB=>ad aA aB) (ad false e)))
 eF w5 (a.add 3) λaC=>iZ aC 0 65535 w5 λaD f=>(cond aD (eF f ((a.add 4).add 2) λaE=>iZ aE 0 65535 f λaF aG=>J7 aF aG) (J7 false f))):=okF iE Tryz.func180 .leaf (by kernel_rfl)
theorem qI {a b w K}:fU (iw a b w K)
 (iJ a b w λc d=>K (decide (c>=0)) d):=okF iE Tryz.func181 .leaf (by kernel_rfl)
theorem w_ {a b w K}:fU (iK a b w K)
 (jf a b w λc d=>K (decide (c>=0)) d):=okF iE Tryz.func182 .leaf (by kernel_rfl)
theorem oG {a b w K}:fU (gU a b w K)
 (gY a b w λc d=>K (decide (c>=0)) d):=okF iE Tryz.func183 .leaf (by kernel_rfl)
theorem wu {b w K}:fU (iG b w K)
 ((cond (Option.isNone b.a) (K ⟨none,0,0⟩ w) (Al w (.cells ⟨[]⟩ 23) λc d=>uQ 23 16 16 (nK 0 0 0 0 0 0 0 0 0 0 0 0 0 0 0 0) ⟨(some c),0,0⟩ b d λe f=>K e f))):=okF iE Tryz.func184 .leaf (by kernel_rfl)
theorem HY {e f g h i j k w K}:fU (zZ e f g h i j k w K)
 (Al w (.cells ⟨[.int .i64 e,.int .i64 f,.int .i64 g,.int .i64 h,.int .i64 i,.int .i64 j,.int .i64 k]⟩ 121) λd l=>Al l (.cells ⟨[.int .i64 0,.int .i64 0,.int .i64 0,.int .i64 0]⟩ 117) λa b=>eF b (d.add 0) λm=>eF b (d.add 1) λn=>eF b (d.add 2) λo=>eF b (d.add 3) λp=>iL [.int .i64 m,.int .i64 n,.int .i64 o,.int .i64 p] b a 0 λc=>eF c (a.add 0) λq=>eF c (a.add 1) λr=>eF c (a.add 2) λs=>eF c (a.add 3) λt=>K q r s t c):=okF iE Tryz.func185 .leaf (by kernel_rfl)
theorem H6 {e f g h i j k w K}:fU (z_ e f g h i j k w K)
 (Al w (.cells ⟨[.int .i64 e,.int .i64 f,.int .i64 g,.int .i64 h,.int .i64 i,.int .i64 j,.int .i64 k]⟩ 121) λd l=>Al l (.cells ⟨[.int .i64 0,.int .i64 0,.int .i64 0]⟩ 119) λa b=>eF b ((d.add 4).add 0) λm=>eF b ((d.add 4).add 1) λn=>eF b ((d.add 4).add 2) λo=>iL [.int .i64 m,.int .i64 n,.int .i64 o] b a 0 λc=>eF c (a.add 0) λp=>eF c (a.add 1) λq=>eF c (a.add 2) λr=>K p q r c):=okF iE Tryz.func186 .leaf (by kernel_rfl)
theorem Dw {j w K}:fU (jK j w K)
 (Al w (.cells ⟨[.bool false]⟩ 4) λe k=>Al k (.map #[] 0) λa5 n=>Al n (.cells ⟨[.map none]⟩ 428) λf o=>St o f (.map (some k.heap.size)) λd=>Ez Tryz.prog none [.agg abz] j d (λb a l m=>Al l (.cells ⟨(nK 0 0 0 0 0 0 0 0 0 0 0 0 0 0 0 0)⟩ 23) λg p=>iL (nK a.1.1 a.1.2.1 a.1.2.2.1 a.1.2.2.2.1 a.1.2.2.2.2.1 a.1.2.2.2.2.2.1 a.1.2.2.2.2.2.2.1 a.1.2.2.2.2.2.2.2.1 a.1.2.2.2.2.2.2.2.2.1 a.1.2.2.2.2.2.2.2.2.2.1 a.1.2.2.2.2.2.2.2.2.2.2.1 a.1.2.2.2.2.2.2.2.2.2.2.2.1 a.1.2.2.2.2.2.2.2.2.2.2.2.2.1 a.1.2.2.2.2.2.2.2.2.2.2.2.2.2.1 a.1.2.2.2.2.2.2.2.2.2.2.2.2.2.2.1 a.1.2.2.2.2.2.2.2.2.2.2.2.2.2.2.2.1) p g 0 λc=>c.heap[b]? =l.heap[b]? /\
 Ld .map (fF c b) f λq=>uT (fF c b) g λr s t u v x y z A B C D E F G H=>zQ Tryz.prog 23 .bool q (Value.agg ⟨nK r s t u v x y z A B C D E F G H⟩) (Value.bool false) (fF c b) λI=>(cond I (St (fF c b) e (Value.bool true) λJ=>m .ret J) (Ld .map (fF c b) f λL=>uT (fF c b) g λM N O P Q R S T U V W X Y Z aa ab=>zS Tryz.prog 23 L (Value.agg ⟨nK M N O P Q R S T U V W X Y Z aa ab⟩) (Value.bool true) (fF c b) λac=>m .normal ac)))
 (λad=>St ad e (.bool false) λh=>h.heap[d.heap.size]? =some (.deferred (some []))/\
 Ld .bool (h.putObj d.heap.size (.deferred none)) e λae=>K ae (h.putObj d.heap.size (.deferred none)))
 (λi=>i.heap[d.heap.size]? =some (.deferred (some []))/\
 Ld .bool (i.putObj d.heap.size (.deferred none)) e λaf=>K af (i.putObj d.heap.size (.deferred none)))
 []):=okF iE Tryz.func187 (eX (eX (.seq (eX (.blk (.rng [.agg abz] .leaf .leaf))) .leaf))) (by kernel_rfl)
theorem wZ {b c w K}:fU (iR b c w K)
 (iC (Value.slice b.a b.len b.cap)=true/\
 Al w (.cells ⟨[.slice b.a b.len b.cap]⟩ 24) λd e=>iC c=true/\
 Al e (.cells ⟨[c]⟩ 319) λf g=>K (Value.func (.func 280) #[] #[(Value.pointer (some d)),(Value.pointer (some f))]) g):=okF iE Tryz.func188 .leaf (by kernel_rfl)
theorem CJ {a b c d e f g h i j k l m n o p w K}:fU (uy a b c d e f g h i j k l m n o p w K)
 (Al w (.cells ⟨(nK a b c d e f g h i j k l m n o p)⟩ 23) λt u=>Al u (.cells ⟨(nK 0 0 0 0 0 0 0 0 0 0 0 0 0 0 0 0)⟩ 23) λq r=>uT r t λv x y z A B C D E F G H I J L M=>iL (nK v x y z A B C D E F G H I J L M) r q 0 λs=>uT s q λN O P Q R S T U V W X Y Z aa ab ac=>K N O P Q R S T U V W X Y Z aa ab ac s):=okF iE Tryz.func189 .leaf (by kernel_rfl)
theorem H9 {h w K}:fU (lD h w K)
 (Al w (.cells ⟨[.bool false]⟩ 4) λd i=>Al i (.map #[] 0) λv l=>Al l (.cells ⟨[.map none]⟩ 429) λe m=>St m e (.map (some i.heap.size)) λa=>Ez Tryz.prog none [.one (.int .i64)] h a (λb j c k=>c.heap[b]? =c.heap[b]? /\
 Ld .map (fF c b) e λn=>zQ Tryz.prog 3 .bool n (Value.int .i64 j.1) (Value.bool false) (fF c b) λo=>(cond o (St (fF c b) d (Value.bool true) λp=>k .ret p) (Ld .map (fF c b) e λq=>zS Tryz.prog 3 q (Value.int .i64 j.1) (Value.bool true) (fF c b) λr=>k .normal r)))
 (λs=>St s d (.bool false) λf=>f.heap[a.heap.size]? =some (.deferred (some []))/\
 Ld .bool (f.putObj a.heap.size (.deferred none)) d λt=>K t (f.putObj a.heap.size (.deferred none)))
 (λg=>g.heap[a.heap.size]? =some (.deferred (some []))/\
 Ld .bool (g.putObj a.heap.size (.deferred none)) d λu=>K u (g.putObj a.heap.size (.deferred none)))
 []):=okF iE Tryz.func190 (eX (eX (.seq (eX (.blk (.rng [.one (.int .i64)] .leaf .leaf))) .leaf))) (by kernel_rfl)
theorem Ee {b c w K}:fU (jV b c w K)
 (iC (Value.slice b.a b.len b.cap)=true/\
 Al w (.cells ⟨[.slice b.a b.len b.cap]⟩ 25) λd e=>iC c=true/\
 Al e (.cells ⟨[c]⟩ 234) λf g=>K (Value.func (.func 281) #[] #[(Value.pointer (some d)),(Value.pointer (some f))]) g):=okF iE Tryz.func191 .leaf (by kernel_rfl)
theorem FT {a0 w K}:fU (Hf a0 w K)
 (K a0 w):=okF iE Tryz.func192 .leaf (by kernel_rfl)
theorem Bh {j w K}:fU (jq j w K)
 (Al w (.cells ⟨[.bool false]⟩ 4) λe k=>Al k (.map #[] 0) λH n=>Al n (.cells ⟨[.map none]⟩ 430) λg o=>St o g (.map (some k.heap.size)) λd=>Ez Tryz.prog none [.agg [(.int .i64),(.int .i64),(.int .i64),(.int .i64)]] j d (λa f l m=>Al l (.cells ⟨[.int .i64 0,.int .i64 0,.int .i64 0,.int .i64 0]⟩ 117) λc p=>iL [.int .i64 f.1.1,.int .i64 f.1.2.1,.int .i64 f.1.2.2.1,.int .i64 f.1.2.2.2.1] p c 0 λb=>b.heap[a]? =l.heap[a]? /\
 Ld .map (fF b a) g λq=>eF (fF b a) (c.add 0) λr=>eF (fF b a) (c.add 1) λs=>eF (fF b a) (c.add 2) λt=>eF (fF b a) (c.add 3) λu=>zQ Tryz.prog 117 .bool q (Value.agg ⟨[.int .i64 r,.int .i64 s,.int .i64 t,.int .i64 u]⟩) (Value.bool false) (fF b a) λv=>(cond v (St (fF b a) e (Value.bool true) λx=>m .ret x) (Ld .map (fF b a) g λy=>eF (fF b a) (c.add 0) λz=>eF (fF b a) (c.add 1) λA=>eF (fF b a) (c.add 2) λB=>eF (fF b a) (c.add 3) λC=>zS Tryz.prog 117 y (Value.agg ⟨[.int .i64 z,.int .i64 A,.int .i64 B,.int .i64 C]⟩) (Value.bool true) (fF b a) λD=>m .normal D)))
 (λE=>St E e (.bool false) λh=>h.heap[d.heap.size]? =some (.deferred (some []))/\
 Ld .bool (h.putObj d.heap.size (.deferred none)) e λF=>K F (h.putObj d.heap.size (.deferred none)))
 (λi=>i.heap[d.heap.size]? =some (.deferred (some []))/\
 Ld .bool (i.putObj d.heap.size (.deferred none)) e λG=>K G (i.putObj d.heap.size (.deferred none)))
 []):=okF iE Tryz.func193 (eX (eX (.seq (eX (.blk (.rng [.agg [(.int .i64),(.int .i64),(.int .i64),(.int .i64)]] .leaf .leaf))) .leaf))) (by kernel_rfl)
theorem tq {b c w K}:fU (iH b c w K)
 (iC (Value.slice b.a b.len b.cap)=true/\
 Al w (.cells ⟨[.slice b.a b.len b.cap]⟩ 26) λd e=>iC c=true/\
 Al e (.cells ⟨[c]⟩ 313) λf g=>K (Value.func (.func 282) #[] #[(Value.pointer (some d)),(Value.pointer (some f))]) g):=okF iE Tryz.func194 .leaf (by kernel_rfl)
theorem Bj {j w K}:fU (jr j w K)
 (Al w (.cells ⟨[.bool false]⟩ 4) λe k=>Al k (.map #[] 0) λF n=>Al n (.cells ⟨[.map none]⟩ 206) λf o=>St o f (.map (some k.heap.size)) λc=>Ez Tryz.prog none [.agg [(.int .i64),(.int .i64),(.int .i64)]] j c (λa g l m=>Al l (.cells ⟨[.int .i64 0,.int .i64 0,.int .i64 0]⟩ 119) λd p=>iL [.int .i64 g.1.1,.int .i64 g.1.2.1,.int .i64 g.1.2.2.1] p d 0 λb=>b.heap[a]? =l.heap[a]? /\
 Ld .map (fF b a) f λq=>eF (fF b a) (d.add 0) λr=>eF (fF b a) (d.add 1) λs=>eF (fF b a) (d.add 2) λt=>zQ Tryz.prog 119 .bool q (Value.agg ⟨[.int .i64 r,.int .i64 s,.int .i64 t]⟩) (Value.bool false) (fF b a) λu=>(cond u (St (fF b a) e (Value.bool true) λv=>m .ret v) (Ld .map (fF b a) f λx=>eF (fF b a) (d.add 0) λy=>eF (fF b a) (d.add 1) λz=>eF (fF b a) (d.add 2) λA=>zS Tryz.prog 119 x (Value.agg ⟨[.int .i64 y,.int .i64 z,.int .i64 A]⟩) (Value.bool true) (fF b a) λB=>m .normal B)))
 (λC=>St C e (.bool false) λh=>h.heap[c.heap.size]? =some (.deferred (some []))/\
 Ld .bool (h.putObj c.heap.size (.deferred none)) e λD=>K D (h.putObj c.heap.size (.deferred none)))
 (λi=>i.heap[c.heap.size]? =some (.deferred (some []))/\
 Ld .bool (i.putObj c.heap.size (.deferred none)) e λE=>K E (i.putObj c.heap.size (.deferred none)))
 []):=okF iE Tryz.func195 (eX (eX (.seq (eX (.blk (.rng [.agg [(.int .i64),(.int .i64),(.int .i64)]] .leaf .leaf))) .leaf))) (by kernel_rfl)
theorem tC {b c w K}:fU (iI b c w K)
 (iC (Value.slice b.a b.len b.cap)=true/\
 Al w (.cells ⟨[.slice b.a b.len b.cap]⟩ 26) λd e=>iC c=true/\
 Al e (.cells ⟨[c]⟩ 314) λf g=>K (Value.func (.func 283) #[] #[(Value.pointer (some d)),(Value.pointer (some f))]) g):=okF iE Tryz.func196 .leaf (by kernel_rfl)
theorem H7 {a0 f0 w K}:fU (I_ a0 f0 w K)
 (eF w (f0.add 20) λa=>K (decide (a0>a)) w):=okF iE Tryz.func197 .leaf (by kernel_rfl)
theorem FX {a0 a1 w K}:fU (DU a0 a1 w K)
 (iQ (S:=Int×Unit) (λb a g=>(cond (decide (b.1<(a1.len:Int))) (iP a1 2 b.1 λe=>eF a (e.add 0) λh=>eF a (e.add 1) λi=>Al a (.cells ⟨[.int .i64 0,.int .i64 0]⟩ 334) λc j=>iL [.int .i64 h,.int .i64 i] j c 0 λd=>eF d (c.add 0) λk=>eF d (c.add 1) λl=>kX k l a0 d λm f=>(cond m (K true f) (g ((IntKind.i64.wrap (b.1+1)),()) f))) (K false a))) (0,()) w):=okF iE Tryz.func198 (eX (.seq (eX (.blk (.loop [(9,(.int .i64))] .leaf))) .leaf)) (by kernel_rfl)
theorem uJ {c d w K}:fU (jl c d w K)
 (iQ (S:=Int×Unit) (λa b e=>(cond (decide (a.1<(c.len:Int))) (iP c 1 a.1 λf=>eF b f λg=>(cond (d==g) (K a.1 b) (e ((IntKind.i64.wrap (a.1+1)),()) b))) (K (-1) b))) (0,()) w):=okF iE Tryz.func199 (eX (.seq (eX (.blk (.loop [(8,(.int .i64))] .leaf))) .leaf)) (by kernel_rfl)
theorem LJ {a c w K}:fU (oq a c w K)
 (lF a w λe d=>(cond (!e) (K 0 false d) (jL a c d λf g b=>(cond (!g) (K 0 false b) (Pt a λh=>Ld .slice b h λi=>iP i 3 f λj=>eF b (j.add 1) λk=>K k true b))))):=okF iE Tryz.func201 .leaf (by kernel_rfl)
theorem Nr {c d e w K}:fU (oV c d e w K)
 (Al w (.cells ⟨[.int .i64 c,.int .i64 d,.int .i64 e]⟩ 119) λb a=>eF a b λf=>eF a (b.add 1) λg=>eF a (b.add 2) λh=>Al a (.cells ⟨[.int .i64 f,.int .i64 g,.int .i64 h]⟩ 3) λi j=>zY ⟨(some i),3,3⟩ j λk l=>K k l):=okF iE Tryz.func203 .leaf (by kernel_rfl)
theorem Zk {b w K}:fU (Ah b w K)
 (iQ (S:=Int×Unit) (λa c d=>(cond (decide (a.1>65535)) (0<=(16:Int)/\
 d ((IntKind.i64.wrap ((wH .i64 a.1 65535)+(jy .i64 a.1 16))),()) c) (K a.1 c))) ((if (0:Int)>b then 0 else b),()) w):=okF iE Tryz.func210 (eX (eX (.seq (.blk (.loop [(0,(.int .i64))] .leaf)) .leaf))) (by kernel_rfl)
theorem Xq {f w K}:fU (xZ f w K)
 (Al w (.cells ⟨[.int .i64 0]⟩ 3) λb h=>St h b (.int .i64 0) λi=>iQ (S:=(Int×Unit)×List Nat) (λa c j=>(cond (decide (a.1.1<(f.len:Int))) (iP f 1 a.1.1 λk=>Ld .slice c k λl=>I9 l c λm g=>Ez Tryz.prog none [.one (.int .i64),.one (.int .i64)] m g (λd n e o=>e.heap[d]? =e.heap[d]? /\
 eF (fF e d) b λp=>St (fF e d) b (Value.int .i64 (IntKind.i64.wrap (p+n.2.1))) λq=>o .normal q)
 (λr=>j (((IntKind.i64.wrap (a.1.1+1)),()),(g.heap.size::a.2)) r)
 (λs=>wG (g.heap.size::a.2) s λt=>K 0 t)
 []) (eF c b λu=>wG a.2 c λv=>K u v))) ((0,()),[]) i):=okF iE Tryz.func211 (eX (eX (.seq (eX (.blk (.loop [(10,(.int .i64))] (eX (eX (.seq (.blk (eX (eX (.blk (.rng [.one (.int .i64),.one (.int .i64)] .leaf .leaf))))) .leaf)))))) .leaf))) (by kernel_rfl)
theorem yN {a b w K}:fU (pU a b w K)
 (sN a b w λc d=>K (decide (c>=0)) d):=okF iE Tryz.func212 .leaf (by kernel_rfl)
theorem Ov {a w K}:fU (t_ a w K)
 (let b:Bool->Prop:=λc=>(K c w)
 (cond (decide (a>=1)) (b (decide (a<=4))) (b false))):=okF iE Tryz.func213 .leaf (by kernel_rfl)
theorem aa2 {a b c d e f g h i j k w K}:fU (wK a b c d e f g h i j k w K)
 (Al w (.cells ⟨(fG a b c d e f g h i j k)⟩ 68) λm l=>Ld .slice l (m.add 9) λn=>K (IntKind.i64.wrap (20+(n.len:Int))) l):=okF iE Tryz.func214 .leaf (by kernel_rfl)
theorem Xl {w K}:fU (xP w K)
 (Al w (.cells ⟨[.slice none 0 0,.int .i64 0,.int .i64 (-1),.bool true]⟩ 358) λa b=>K (some a) b):=okF iE Tryz.func215 .leaf (by kernel_rfl)
theorem F6 {a w K}:fU (iM a w K)
 (let b:Bool->Prop:=λc=>(K c w)
 (cond (!(Option.isNone a)) (Pt a λd=>Ld .bool w (d.add 3) λe=>b e) (b false))):=okF iE Tryz.func216 .leaf (by kernel_rfl)
theorem JH {f g h c w K}:fU (jM f g h c w K)
 (Al w (.cells ⟨[.int .i64 g,.bool h,.slice c.a c.len c.cap]⟩ 353) λd b=>Pt f λi=>Ld .slice b.drew i λj=>eF b.drew (d.add 0) λk=>Ld .bool b.drew (d.add 1) λl=>Ld .slice b.drew (d.add 2) λe=>gK j (Value.func (.func 292) #[(Value.agg ⟨[.int .i64 k,.bool l,.slice e.a e.len e.cap]⟩)] #[]) b.drew λm n=>K m n):=okF iE Tryz.func217 .leaf (by kernel_rfl)
theorem Xm {f g d w K}:fU (xQ f g d w K)
 (Al w (.cells ⟨[.int .i64 f,.bool g,.slice d.a d.len d.cap]⟩ 353) λc b=>let e:Bool->Prop:=λi=>((cond i (K 4 b) (eF b c λj=>Ld .slice b (c.add 2) λk=>(cond (decide (j>(IntKind.i64.wrap (65535 - (k.len:Int))))) (K 6 b) (K 0 b)))))
 eF b c λh=>(cond (decide (h<0)) (e (decide (h<0))) (Ld .bool b (c.add 1) λl=>(cond l (Ld .slice b (c.add 2) λm=>(cond ((m.len:Int)==0) (e true) (Ld .slice b (c.add 2) λn=>(8:Int)≠0/\
 e ((Int.tmod (n.len:Int) 8) !=0)))) (e false))))):=okF iE Tryz.func218 .leaf (by kernel_rfl)
theorem F5 {k l m g w K}:fU (kP k l m g w K)
 (Al w (.cells ⟨[.int .i64 l,.bool m,.slice g.a g.len g.cap]⟩ 353) λd n=>Pt k λz=>Ld .slice n z λo=>iQ (S:=Int×Unit) (λh f A=>(cond (decide (h.1<(o.len:Int))) (let p:b_:=λB=>(A ((IntKind.i64.wrap (h.1+1)),()) B)
 iP o 3 h.1 λi=>eF f (i.add 0) λC=>Ld .bool f (i.add 1) λD=>Ld .slice f (i.add 2) λj=>Al f (.cells ⟨[.int .i64 0,.bool false,.slice none 0 0]⟩ 353) λc E=>iL [.int .i64 C,.bool D,.slice j.a j.len j.cap] E c 0 λb=>let q:Bool->Prop:=λF=>(let r:Bool->Prop:=λG=>((cond G (K true b) (let s:Bool->Prop:=λH=>((cond H (p b) (let t:Bool->b_:=λI u=>((cond I (K true u) (p u)))
 eF b.drew c λv=>eF b.drew (d.add 0) λJ=>Ld .bool b.drew (d.add 1) λL=>Ld .slice b.drew (d.add 2) λM=>iq J L M b.drew λN e=>e.cell? c=some (Value.int .i64 v)/\
 (cond (decide (v<N)) (eF e d λx=>eF e (c.add 0) λO=>Ld .bool e (c.add 1) λP=>Ld .slice e (c.add 2) λQ=>iq O P Q e λR y=>y.cell? d=some (Value.int .i64 x)/\
 t (decide (x<R)) y) (t false e)))))
 Ld .slice b (d.add 2) λT=>(cond ((T.len:Int)==0) (s true) (Ld .slice b (c.add 2) λU=>s ((U.len:Int)==0))))))
 (cond F (eF b d λV=>eF b c λW=>r (V==W)) (r false)))
 Ld .slice b (d.add 2) λX=>(cond ((X.len:Int)==0) (Ld .slice b (c.add 2) λY=>q ((Y.len:Int)==0)) (q false))) (K false f))) (0,()) n):=okF iE Tryz.func219 (eX (.seq (eX (.blk (.loop [(13,(.int .i64))] .leaf))) .leaf)) (by kernel_rfl)
theorem Ie {d h i e w K}:fU (lJ d h i e w K)
 (Al w (.cells ⟨[.int .i64 h,.bool i,.slice e.a e.len e.cap]⟩ 353) λc b=>Ld .bool b (c.add 1) λq=>(cond q (let j:Bool->b_:=λr s=>(K r s)
 Pt d λt=>eF b.drew (t.add 2) λu=>(cond (decide (u<0)) (j true b.drew) (eF b.drew (c.add 0) λv=>Ld .bool b.drew (c.add 1) λx=>Ld .slice b.drew (c.add 2) λy=>Pt d λk=>eF b.drew (k.add 2) λl=>iq v x y b.drew λz m=>m.cell? (k.add 2)=some (Value.int .i64 l)/\
 j (decide (z<=l)) m))) (let n:Bool->b_:=λA B=>(K A B)
 Pt d λC=>eF b.drew (C.add 2) λD=>(cond (decide (D<0)) (eF b.drew (c.add 0) λo=>Ld .bool b.drew (c.add 1) λp=>Ld .slice b.drew (c.add 2) λf=>mO d b.drew λE g=>g.cell? (c.add 0)=some (Value.int .i64 o)/\
 g.cell? (c.add 1)=some (Value.bool p)/\
 g.cell? (c.add 2)=some (Value.slice f.a f.len f.cap)/\
 iq o p f g λF G=>n (decide (E<=F)) G) (n false b.drew))))):=okF iE Tryz.func220 .leaf (by kernel_rfl)
theorem jS {e n o f g w K}:fU (gq e n o f g w K)
 (Al w (.cells ⟨[.int .i64 n,.bool o,.slice f.a f.len f.cap]⟩ 353) λd u=>iQ (S:=Int×Int×Unit) (λc b p=>(cond (decide (c.1<c.2.1)) (0<=(1:Int)/\
 iP e 3 (IntKind.i64.wrap (jy .u64 (IntKind.u64.wrap (IntKind.i64.wrap (c.1+c.2.1))) 1)) λh=>eF b.drew (h.add 0) λv=>Ld .bool b.drew (h.add 1) λx=>Ld .slice b.drew (h.add 2) λi=>eF b.drew (d.add 0) λy=>Ld .bool b.drew (d.add 1) λz=>Ld .slice b.drew (d.add 2) λj=>iY Tryz.prog [.one (.int .i64)] g [(Value.agg ⟨[.int .i64 v,.bool x,.slice i.a i.len i.cap]⟩),(Value.agg ⟨[.int .i64 y,.bool z,.slice j.a j.len j.cap]⟩)] b.drew λA q=>∃r:Int,A=(Value.int .i64 r)/\
 (cond (decide (r<0)) (p ((IntKind.i64.wrap ((IntKind.i64.wrap (jy .u64 (IntKind.u64.wrap (IntKind.i64.wrap (c.1+c.2.1))) 1))+1)),c.2.1,()) q) (p (c.1,(IntKind.i64.wrap (jy .u64 (IntKind.u64.wrap (IntKind.i64.wrap (c.1+c.2.1))) 1)),()) q))) (let s:Int->Bool->b_:=λB C D=>(K B C D)
 (cond (decide (c.1<(e.len:Int))) (iP e 3 c.1 λk=>eF b.drew (k.add 0) λE=>Ld .bool b.drew (k.add 1) λF=>Ld .slice b.drew (k.add 2) λl=>eF b.drew (d.add 0) λG=>Ld .bool b.drew (d.add 1) λH=>Ld .slice b.drew (d.add 2) λm=>iY Tryz.prog [.one (.int .i64)] g [(Value.agg ⟨[.int .i64 E,.bool F,.slice l.a l.len l.cap]⟩),(Value.agg ⟨[.int .i64 G,.bool H,.slice m.a m.len m.cap]⟩)] b.drew λI J=>∃t:Int,I=(Value.int .i64 t)/\
 s c.1 (t==0) J) (s c.1 false b.drew))))) (0,(e.len:Int),()) u):=okF iE Tryz.func221 (eX (eX (eX (.seq (.blk (.loop [(9,(.int .i64)),(10,(.int .i64))] .leaf)) .leaf)))) (by kernel_rfl)
theorem RD {j k c l m d w K}:fU (Ir j k c l m d w K)
 (Al w (.cells ⟨[.int .i64 j,.bool k,.slice c.a c.len c.cap]⟩ 353) λg n=>Al n (.cells ⟨[.int .i64 l,.bool m,.slice d.a d.len d.cap]⟩ 353) λh b=>eF b.drew g λo=>eF b.drew h λp=>Ld .slice b.drew (g.add 2) λe=>Ld .slice b.drew (h.add 2) λf=>kJ o p b.drew λq i=>i.cell? (h.add 2)=some (Value.slice f.a f.len f.cap)/\
 i.cell? (g.add 2)=some (Value.slice e.a e.len e.cap)/\
 kJ (e.len:Int) (f.len:Int) i λr s=>Al s (.cells ⟨[.int .i64 q,.int .i64 r]⟩ 3) λt u=>uX ⟨(some t),2,2⟩ u λv x=>K v x):=okF iE Tryz.func222 .leaf (by kernel_rfl)
theorem pO {c e b w K}:fU (g_ c e b w K)
 (nJ c 3 e (c.len:Int) λD=>(cond ((b.len:Int)==0) (K c w) (cond (e==(c.len:Int)) (uQ 353 3 40 [(Value.int .i64 0),(Value.bool false),(Value.slice none 0 0)] c b w λj k=>K j k) (cond (decide ((IntKind.i64.wrap ((c.len:Int)+(b.len:Int)))>(c.cap:Int))) (nJ c 3 0 e λl=>abu 353 3 40 [(Value.int .i64 0),(Value.bool false),(Value.slice none 0 0)] l (IntKind.i64.wrap ((IntKind.i64.wrap ((c.len:Int)+(b.len:Int))) - e)) w λf m=>nJ f 3 e (f.len:Int) λn=>EO 3 n b m λE o=>nJ f 3 (IntKind.i64.wrap (e+(b.len:Int))) (f.len:Int) λp=>nJ c 3 e (c.len:Int) λq=>EO 3 p q o.drew λF r=>K f r) (nJ c 3 0 (IntKind.i64.wrap ((c.len:Int)+(b.len:Int))) λd=>nJ d 3 (IntKind.i64.wrap (e+(b.len:Int))) (d.len:Int) λg=>aj7 Tryz.prog 296 [(Value.slice b.a b.len b.cap),(Value.slice g.a g.len g.cap)] w λs h=>∃i:Bool,s=(Value.bool i)/\
 (cond (!i) (nJ d 3 (IntKind.i64.wrap (e+(b.len:Int))) (d.len:Int) λt=>nJ d 3 e (d.len:Int) λu=>EO 3 t u h.drew λG v=>nJ d 3 e (d.len:Int) λx=>EO 3 x b v λH y=>K d y) (nJ d 3 (c.len:Int) (d.len:Int) λz=>EO 3 z b h λI A=>nJ d 3 e (d.len:Int) λB=>vF B (b.len:Int) A λC=>K d C))))))):=okF iE Tryz.func223 .leaf (by kernel_rfl)
theorem JI {d e b w K}:fU (iq d e b w K)
 (Al w (.cells ⟨[.int .i64 d,.bool e,.slice b.a b.len b.cap]⟩ 353) λf c=>eF c f λg=>Ld .slice c (f.add 2) λh=>K (IntKind.i64.wrap (g+(h.len:Int))) c):=okF iE Tryz.func224 .leaf (by kernel_rfl)
theorem Ib {a w K}:fU (lH a w K)
 (iC (Value.pointer a)=true/\
 Al w (.cells ⟨[.pointer a]⟩ 247) λb c=>K (Value.func (.func 298) #[] #[(Value.pointer (some b))]) c):=okF iE Tryz.func225 .leaf (by kernel_rfl)
theorem Xv {x y z A B C D E F G H w K}:fU (yc x y z A B C D E F G H w K)
 (Al w (.cells ⟨(fG x y z A B C D E F G H)⟩ 68) λa b=>gI b.drew a λU V W X Y Z aa ab ac ad ae=>eF b.drew a λf=>gI b.drew a λI J L M N O P Q R S T=>eF b.drew (a.add 1) λg=>gI b.drew a λl m n o p q r s t u v=>eF b.drew (a.add 3) λh=>eF b.drew (a.add 4) λi=>eF b.drew (a.add 5) λj=>eF b.drew (a.add 6) λk=>wK U V W X Y Z aa ab ac ad ae b.drew λaf c=>c.cell? (a.add 6)=some (Value.int .i64 k)/\
 c.cell? (a.add 5)=some (Value.int .i64 j)/\
 c.cell? (a.add 4)=some (Value.int .i64 i)/\
 c.cell? (a.add 3)=some (Value.int .i64 h)/\
 S_ (fG l m n o p q r s t u v) c a 0 (
 c.cell? (a.add 1)=some (Value.int .i64 g)/\
 S_ (fG I J L M N O P Q R S T) c a 0 (
 c.cell? a=some (Value.int .i64 f)/\
 (4:Int)≠0/\
 wM I J L M N O P Q R S T c λag d=>d.cell? (a.add 6)=some (Value.int .i64 k)/\
 d.cell? (a.add 5)=some (Value.int .i64 j)/\
 d.cell? (a.add 4)=some (Value.int .i64 i)/\
 d.cell? (a.add 3)=some (Value.int .i64 h)/\
 S_ (fG l m n o p q r s t u v) d a 0 (
 d.cell? (a.add 1)=some (Value.int .i64 g)/\
 d.cell? a=some (Value.int .i64 f)/\
 Aj l m n o p q r s t u v d λah e=>e.cell? (a.add 6)=some (Value.int .i64 k)/\
 e.cell? (a.add 5)=some (Value.int .i64 j)/\
 e.cell? (a.add 4)=some (Value.int .i64 i)/\
 e.cell? (a.add 3)=some (Value.int .i64 h)/\
 e.cell? (a.add 1)=some (Value.int .i64 g)/\
 e.cell? a=some (Value.int .i64 f)/\
 Al e (.cells ⟨(akf (Xz .i64 64 (IntKind.i64.wrap (Int.tdiv af 4))) 1 f 1 ag 2 g 2 ah 2 h 1 i 1 0 2 j 4 k 4)⟩ 367) λai aj=>K ⟨(some ai),10,10⟩ aj)))):=okF iE Tryz.func226 .leaf (by kernel_rfl)
theorem adI {e f c a w K}:fU (Dc e f c a w K)
 (kH c a w λl g=>(cond (!l) (K ⟨none,0,0⟩ 1 g) (fQ e g λh m=>uw h f a m λn i j=>(cond (i !=0) (K ⟨none,0,0⟩ i j) (qj c a j λo p=>jX o p λk q=>iQ (S:=Int×Unit) (λb d r=>(cond (decide (b.1<(k.len:Int))) (iP k 1 b.1 λs=>Ld (.int .u8) d s λt=>iP n 1 b.1 λu=>St d u (.int .u8 t) λv=>r ((IntKind.i64.wrap (b.1+1)),()) v) (K h 0 d))) (0,()) q))))):=okF iE Tryz.func227 (eX (eX (eX (eX (eX (.seq (eX (.blk (.loop [(36,(.int .i64))] .leaf))) .leaf)))))) (by kernel_rfl)
theorem adJ {a w K}:fU (Di a w K)
 (zy a w λb c=>K (IntKind.i64.wrap (65535 - b)) c):=okF iE Tryz.func228 .leaf (by kernel_rfl)
theorem Xi {f w K}:fU (xM f w K)
 (Al w (.cells ⟨(fG 0 0 0 0 0 0 0 false false ⟨none,0,0⟩ ⟨none,0,0⟩)⟩ 68) λb A=>uD f A λB C D E F G H I J L M g N=>Al N (.cells ⟨(fG 0 0 0 0 0 0 0 false false ⟨none,0,0⟩ ⟨none,0,0⟩)⟩ 68) λa O=>iL (fG B C D E F G H I J L M) O a 0 λc=>let h:Bool->Prop:=λP=>((cond P (iL (fG 0 0 0 0 0 0 0 false false ⟨none,0,0⟩ ⟨none,0,0⟩) c b 0 λi=>gI i b λQ R S T U V W X Y Z aa=>K Q R S T U V W X Y Z aa false i) (let j:Bool->b_:=λab d=>((cond ab (iL (fG 0 0 0 0 0 0 0 false false ⟨none,0,0⟩ ⟨none,0,0⟩) d b 0 λk=>gI k b λac ad ae af ag ah ai aj ak al am=>K ac ad ae af ag ah ai aj ak al am false k) (gI d.drew a λl m n o p q r s t u v=>gI d.drew a λan ao ap aq ar au av aw ax ay az=>uZ an ao ap aq ar au av aw ax ay az d.drew λaA x=>S_ (fG l m n o p q r s t u v) x a 0 (
 iL (fG l m n o p q r s t u v) x b 0 λy=>gI y b λaB aC aD aE aF aG aH aI aJ aK aL=>K aB aC aD aE aF aG aH aI aJ aK aL aA y))))
 eF c (a.add 5) λaM=>ku aM c λz e=>(cond (!z) (j (!z) e) (eF e (a.add 6) λaN=>ku aN e λaO aP=>j (!aO) aP)))))
 (cond (g !=0) (h (g !=0)) (eF c (a.add 2) λaQ=>h (decide (aQ>0))))):=okF iE Tryz.func229 .leaf (by kernel_rfl)
theorem Uh {a b c d e f g h i j k l w K}:fU (u_ a b c d e f g h i j k l w K)
 (Al w (.cells ⟨(fG b c d e f g h i j k l)⟩ 68) λo m=>gI m o λp q r s t u v x y z A=>wM p q r s t u v x y z A m λn B=>nJ a 1 0 (if (548:Int)<n then 548 else n) λC=>fQ C B λD E=>K D E):=okF iE Tryz.func230 .leaf (by kernel_rfl)
theorem Ui {g h i d w K}:fU (vg g h i d w K)
 (Al w (.cells ⟨[.int .i64 g,.int .i64 h,.int .i64 i,.slice d.a d.len d.cap]⟩ 168) λb c=>eF c (b.add 0) λm=>eF c (b.add 1) λn=>eF c (b.add 2) λo=>Ld .slice c (b.add 3) λp=>vk m n o p c λj e=>(cond (j !=0) (K ⟨none,0,0⟩ j e) (eF e b λq=>eF e (b.add 1) λr=>Al e (.cells ⟨[.int .u8 (IntKind.u8.wrap q),.int .u8 (IntKind.u8.wrap r),.int .u8 0,.int .u8 0]⟩ 5) λs k=>eF k (b.add 2) λt=>lu ⟨(some s),4,4⟩ t 4 k λu l=>Ld .slice l (b.add 3) λv=>uQ 5 1 1 [(Value.int .u8 0)] u v l λf x=>Al x (.cells ⟨[.slice f.a f.len f.cap]⟩ 37) λy z=>Di ⟨(some y),1,1⟩ z λA B=>Dc f 2 A 2 B λC D E=>K C D E))):=okF iE Tryz.func231 .leaf (by kernel_rfl)
theorem Uk {c w K}:fU (yY c w K)
 (Al w (.cells ⟨[.int .i64 0,.int .i64 0,.int .i64 0,.slice none 0 0]⟩ 168) λb h=>(cond (decide ((c.len:Int)<8)) (iL [.int .i64 0,.int .i64 0,.int .i64 0,.slice none 0 0] h b 0 λd=>eF d (b.add 0) λq=>eF d (b.add 1) λr=>eF d (b.add 2) λs=>Ld .slice d (b.add 3) λt=>K q r s t 3 d) (cond (decide ((c.len:Int)>65535)) (iL [.int .i64 0,.int .i64 0,.int .i64 0,.slice none 0 0] h b 0 λe=>eF e (b.add 0) λu=>eF e (b.add 1) λv=>eF e (b.add 2) λx=>Ld .slice e (b.add 3) λy=>K u v x y 6 e) (Al h (.cells ⟨[.slice c.a c.len c.cap]⟩ 37) λz A=>oL ⟨(some z),1,1⟩ A λB l=>(cond (!B) (iL [.int .i64 0,.int .i64 0,.int .i64 0,.slice none 0 0] l b 0 λf=>eF f (b.add 0) λC=>eF f (b.add 1) λD=>eF f (b.add 2) λE=>Ld .slice f (b.add 3) λF=>K C D E F 5 f) (xK c 4 4 l λG N i=>iP c 1 0 λm=>Ld (.int .u8) i.drew m λn=>iP c 1 1 λo=>Ld (.int .u8) i.drew o λp=>nJ c 1 8 (c.len:Int) λH=>fQ H i.drew λj k=>k.cell? o=some (Value.int .u8 p)/\
 k.cell? m=some (Value.int .u8 n)/\
 iL [.int .i64 (IntKind.i64.wrap n),.int .i64 (IntKind.i64.wrap p),.int .i64 G,.slice j.a j.len j.cap] k b 0 λg=>eF g (b.add 0) λI=>eF g (b.add 1) λJ=>eF g (b.add 2) λL=>Ld .slice g (b.add 3) λM=>K I J L M 0 g)))))):=okF iE Tryz.func232 .leaf (by kernel_rfl)
theorem IQ {a w K}:fU (oP a w K)
 (Al w (.cells ⟨[.int .i64 3,.int .i64 4,.int .i64 5,.int .i64 11,.int .i64 12]⟩ 3) λb c=>wI a ⟨(some b),5,5⟩ c λd e=>K d e):=okF iE Tryz.func233 .leaf (by kernel_rfl)
theorem RI {k w K}:fU (Ci k w K)
 (Al w (.cells ⟨(fG 0 0 0 0 0 0 0 false false ⟨none,0,0⟩ ⟨none,0,0⟩)⟩ 68) λc q=>Al q (.cells ⟨[.int .i64 0,.int .i64 0,.int .i64 0]⟩ 258) λa r=>DX k r λs t u v x y z A B C D E F l G=>Al G (.cells ⟨(zU ⟨none,0,0⟩ 0 0 0 0 0 0 0 false false ⟨none,0,0⟩ ⟨none,0,0⟩ 0)⟩ 447) λi H=>iL (zU s t u v x y z A B C D E F) H i 0 λj=>(cond (l !=0) (iL (fG 0 0 0 0 0 0 0 false false ⟨none,0,0⟩ ⟨none,0,0⟩) j c 0 λI=>iL [.int .i64 0,.int .i64 0,.int .i64 0] I a 0 λe=>gI e c λJ L M N O P Q R S T U=>eF e (a.add 0) λV=>eF e (a.add 1) λW=>eF e (a.add 2) λX=>K J L M N O P Q R S T U V W X l e) (EP j i λY Z aa ab ac ad ae af ag ah ai aj ak=>qB Y Z aa ab ac ad ae af ag ah ai aj ak j λal am an m ao=>Al ao (.cells ⟨[.int .i64 0,.int .i64 0,.int .i64 0]⟩ 258) λb ap=>iL [.int .i64 al,.int .i64 am,.int .i64 an] ap b 0 λd=>(cond (m !=0) (iL (fG 0 0 0 0 0 0 0 false false ⟨none,0,0⟩ ⟨none,0,0⟩) d c 0 λaq=>iL [.int .i64 0,.int .i64 0,.int .i64 0] aq a 0 λf=>gI f c λar au av aw ax ay az aA aB aC aD=>eF f (a.add 0) λaE=>eF f (a.add 1) λaF=>eF f (a.add 2) λaG=>K ar au av aw ax ay az aA aB aC aD aE aF aG m f) (gI d.drew (i.add 1) λaH aI aJ aK aL aM aN aO aP aQ aR=>eF d.drew (b.add 0) λn=>eF d.drew (b.add 1) λo=>eF d.drew (b.add 2) λp=>iL (fG aH aI aJ aK aL aM aN aO aP aQ aR) d.drew c 0 λh=>h.cell? (b.add 0)=some (Value.int .i64 n)/\
 h.cell? (b.add 1)=some (Value.int .i64 o)/\
 h.cell? (b.add 2)=some (Value.int .i64 p)/\
 iL [.int .i64 n,.int .i64 o,.int .i64 p] h a 0 λg=>gI g c λaS aT aU aV aW aX aY aZ a1 a2 a4=>eF g (a.add 0) λa6=>eF g (a.add 1) λa7=>eF g (a.add 2) λa8=>K aS aT aU aV aW aX aY aZ a1 a2 a4 a6 a7 a8 0 g))))):=okF iE Tryz.func234 .leaf (by kernel_rfl)
theorem Pg {o p q r s t u v x y z w K}:fU (Ag o p q r s t u v x y z w K)
 (Al w (.cells ⟨(fG o p q r s t u v x y z)⟩ 68) λc A=>gI A c λI J L M N O P Q R S T=>ni I J L M N O P Q R S T A λB h=>(cond (B !=0) (K Value.nilIface B h) (gI h c λU V W X Y Z aa ab ac ad ae=>uj U V W X Y Z aa ab ac ad ae h λaf b=>(cond (!af) (K Value.nilIface 4 b) (eF b (c.add 4) λi=>(cond (i==17) (eF b (c.add 5) λag=>eF b (c.add 6) λah=>Ld .slice b (c.add 10) λai=>EY ag ah ai b λaj ak al j am an=>Al an (.cells ⟨[.int .i64 0,.int .i64 0,.bool false,.slice none 0 0]⟩ 95) λe ao=>iL [.int .i64 aj,.int .i64 ak,.bool al,.slice j.a j.len j.cap] ao e 0 λf=>eF f (e.add 0) λap=>eF f (e.add 1) λaq=>Ld .bool f (e.add 2) λar=>Ld .slice f (e.add 3) λk=>K (Value.iface 455 (Value.agg ⟨[.int .i64 ap,.int .i64 aq,.bool ar,.slice k.a k.len k.cap]⟩)) am f) (cond (i==6) (eF b (c.add 5) λau=>eF b (c.add 6) λav=>Ld .slice b (c.add 10) λaw=>EX au av aw b λax ay az aA aB aC aD aE aF aG aH aI=>Al aI (.cells ⟨(xG 0 0 0 0 0 0 0 0 ⟨none,0,0⟩ ⟨none,0,0⟩)⟩ 397) λC aJ=>iL (xG ax ay az aA aB aC aD aE aF aG) aJ C 0 λD=>Ip D C λaK aL aM aN aO aP aQ aR aS aT=>K (Value.iface 457 (Value.agg ⟨xG aK aL aM aN aO aP aQ aR aS aT⟩)) aH D) (cond (i==1) (Ld .slice b (c.add 10) λaU=>yY aU b λaV aW aX l E aY=>Al aY (.cells ⟨[.int .i64 0,.int .i64 0,.int .i64 0,.slice none 0 0]⟩ 168) λd aZ=>iL [.int .i64 aV,.int .i64 aW,.int .i64 aX,.slice l.a l.len l.cap] aZ d 0 λm=>let F:Int->b_:=λa0 g=>(eF g (d.add 0) λa1=>eF g (d.add 1) λa2=>eF g (d.add 2) λa4=>Ld .slice g (d.add 3) λn=>K (Value.iface 459 (Value.agg ⟨[.int .i64 a1,.int .i64 a2,.int .i64 a4,.slice n.a n.len n.cap]⟩)) a0 g)
 let G:Bool->b_:=λa5 H=>((cond a5 (F 8 H) (F E H)))
 (cond (E==0) (eF m d λa6=>qN a6 m λa7 a8=>G (!a7) a8) (G false m))) (K Value.nilIface 8 b))))))))):=okF iE Tryz.func236 .leaf (by kernel_rfl)
theorem Xr {y z g w K}:fU (EX y z g w K)
 (iC (Value.slice g.a g.len g.cap)=true/\
 Al w (.cells ⟨[.slice g.a g.len g.cap]⟩ 37) λb R=>Al R (.cells ⟨(xG 0 0 0 0 0 0 0 0 ⟨none,0,0⟩ ⟨none,0,0⟩)⟩ 397) λc d=>Ld .slice d b λS=>(cond (decide ((S.len:Int)<20)) (iL (xG 0 0 0 0 0 0 0 0 ⟨none,0,0⟩ ⟨none,0,0⟩) d c 0 λA=>Ip A c λT U V W X Y Z aa ab ac=>K T U V W X Y Z aa ab ac 3 A) (Ld .slice d b λad=>iP ad 1 12 λae=>Ld (.int .u8) d ae λn=>0<=(4:Int)/\
 (cond (decide ((IntKind.i64.wrap ((IntKind.i64.wrap (jy .u8 n 4)) * 4))<20)) (iL (xG 0 0 0 0 0 0 0 0 ⟨none,0,0⟩ ⟨none,0,0⟩) d c 0 λB=>Ip B c λaf ag ah ai aj ak al am an ao=>K af ag ah ai aj ak al am an ao 4 B) (Ld .slice d b λap=>(cond (decide ((IntKind.i64.wrap ((IntKind.i64.wrap (jy .u8 n 4)) * 4))>(ap.len:Int))) (iL (xG 0 0 0 0 0 0 0 0 ⟨none,0,0⟩ ⟨none,0,0⟩) d c 0 λC=>Ip C c λaq ar au av aw ax ay az aA aB=>K aq ar au av aw ax ay az aA aB 3 C) (Ld .slice d b λaC=>(cond (decide ((aC.len:Int)>65535)) (iL (xG 0 0 0 0 0 0 0 0 ⟨none,0,0⟩ ⟨none,0,0⟩) d c 0 λD=>Ip D c λaD aE aF aG aH aI aJ aK aL aM=>K aD aE aF aG aH aI aJ aK aL aM 6 D) (Ld .slice d.drew b λaN=>Ld .slice d.drew b λi=>qR y z 6 (aN.len:Int) d.drew λq E=>E.cell? b=some (Value.slice i.a i.len i.cap)/\
 Al E (.cells ⟨[.slice q.a q.len q.cap,.slice i.a i.len i.cap]⟩ 37) λaO aP=>oL ⟨(some aO),2,2⟩ aP λaQ F=>(cond (!aQ) (iL (xG 0 0 0 0 0 0 0 0 ⟨none,0,0⟩ ⟨none,0,0⟩) F c 0 λG=>Ip G c λaR aS aT aU aV aW aX aY aZ a3=>K aR aS aT aU aV aW aX aY aZ a3 5 G) (iY Tryz.prog [.one (.int .i64)] (Value.func (.func 319) #[] #[(Value.pointer (some b))]) [(Value.int .i64 0),(Value.int .i64 2)] F λa4 a6=>∃H:Int,a4=(Value.int .i64 H)/\
 iY Tryz.prog [.one (.int .i64)] (Value.func (.func 319) #[] #[(Value.pointer (some b))]) [(Value.int .i64 2),(Value.int .i64 2)] a6 λa8 a9=>∃I:Int,a8=(Value.int .i64 I)/\
 iY Tryz.prog [.one (.int .i64)] (Value.func (.func 319) #[] #[(Value.pointer (some b))]) [(Value.int .i64 4),(Value.int .i64 4)] a9 λba bb=>∃J:Int,ba=(Value.int .i64 J)/\
 iY Tryz.prog [.one (.int .i64)] (Value.func (.func 319) #[] #[(Value.pointer (some b))]) [(Value.int .i64 8),(Value.int .i64 4)] bb λbc bd=>∃L:Int,bc=(Value.int .i64 L)/\
 Al bd (.cells ⟨(xG 0 0 0 0 0 0 0 0 ⟨none,0,0⟩ ⟨none,0,0⟩)⟩ 397) λf be=>iL (xG H I J L 0 0 0 0 ⟨none,0,0⟩ ⟨none,0,0⟩) be f 0 λj=>Ld .slice j.drew b λh=>iP h 1 12 λr=>Ld (.int .u8) j.drew r λs=>Ld .slice j.drew b λe=>iP e 1 13 λo=>Ld (.int .u8) j.drew o λp=>iY Tryz.prog [.one (.int .i64)] (Value.func (.func 319) #[] #[(Value.pointer (some b))]) [(Value.int .i64 14),(Value.int .i64 2)] j.drew λbf k=>∃M:Int,bf=(Value.int .i64 M)/\
 k.cell? o=some (Value.int .u8 p)/\
 k.cell? b=some (Value.slice e.a e.len e.cap)/\
 k.cell? r=some (Value.int .u8 s)/\
 k.cell? b=some (Value.slice h.a h.len h.cap)/\
 iY Tryz.prog [.one (.int .i64)] (Value.func (.func 319) #[] #[(Value.pointer (some b))]) [(Value.int .i64 18),(Value.int .i64 2)] k λbg l=>∃N:Int,bg=(Value.int .i64 N)/\
 l.cell? o=some (Value.int .u8 p)/\
 l.cell? b=some (Value.slice e.a e.len e.cap)/\
 l.cell? r=some (Value.int .u8 s)/\
 l.cell? b=some (Value.slice h.a h.len h.cap)/\
 St l (f.add 4) (.int .i64 (IntKind.i64.wrap (wH .u8 s 15))) λt=>t.cell? o=some (Value.int .u8 p)/\
 t.cell? b=some (Value.slice e.a e.len e.cap)/\
 St t (f.add 5) (.int .i64 (IntKind.i64.wrap p)) λbh=>St bh (f.add 6) (.int .i64 M) λbi=>St bi (f.add 7) (.int .i64 N) λu=>Ld .slice u.drew b λbj=>nJ bj 1 20 (IntKind.i64.wrap ((IntKind.i64.wrap (jy .u8 n 4)) * 4)) λbk=>Ld .slice u.drew b λm=>nJ m 1 (IntKind.i64.wrap ((IntKind.i64.wrap (jy .u8 n 4)) * 4)) (m.len:Int) λbl=>fQ bk u.drew λv O=>O.cell? b=some (Value.slice m.a m.len m.cap)/\
 fQ bl O λx bm=>St bm (f.add 8) (.slice v.a v.len v.cap) λbn=>St bn (f.add 9) (.slice x.a x.len x.cap) λP=>Ip P f λbo bp bq br bs bt bu bv bw bx=>iL (xG bo bp bq br bs bt bu bv bw bx) P c 0 λQ=>Ip Q c λbz bA bB bC bD bE bF bG bH bI=>K bz bA bB bC bD bE bF bG bH bI 0 Q))))))))))):=okF iE Tryz.func250 .leaf (by kernel_rfl)
theorem Xg {c a b w K}:fU (uw c a b w K)
 (let e:Bool->b_:=λh d=>((cond h (K ⟨none,0,0⟩ 1 d) (let f:Bool->Prop:=λi=>((cond i (K ⟨none,0,0⟩ 3 d) (I7 c 1 a (IntKind.i64.wrap (a+b)) (IntKind.i64.wrap (a+b)) λj=>K j 0 d)))
 (cond (decide ((c.len:Int)<b)) (f true) (f (decide (a>(IntKind.i64.wrap ((c.len:Int) - b)))))))))
 t_ b w λk g=>(cond (!k) (e true g) (e (decide (a<0)) g))):=okF iE Tryz.func253 .leaf (by kernel_rfl)
theorem Xu {f w K}:fU (uD f w K)
 (Al w (.cells ⟨(fG 0 0 0 0 0 0 0 false false ⟨none,0,0⟩ ⟨none,0,0⟩)⟩ 68) λc j=>zA f true j λe k l g m=>Al m (.cells ⟨[.slice none 0 0,.int .i64 0,.int .i64 0]⟩ 130) λd n=>iL [.slice e.a e.len e.cap,.int .i64 k,.int .i64 l] n d 0 λb=>(cond (g !=0) (iL (fG 0 0 0 0 0 0 0 false false ⟨none,0,0⟩ ⟨none,0,0⟩) b c 0 λh=>gI h c λo p q r s t u v x y z=>K o p q r s t u v x y z g h) (Ld .slice b (d.add 0) λA=>eF b (d.add 1) λB=>eF b (d.add 2) λC=>jY A B C b λD E F G H I J L M N O P=>iL (fG D E F G H I J L M N O) P c 0 λi=>gI i c λQ R S T U V W X Y Z aa=>K Q R S T U V W X Y Z aa 0 i))):=okF iE Tryz.func257 .leaf (by kernel_rfl)
theorem FQ {a0 f0 f1 w K}:fU (TI a0 f0 f1 w K)
 (eF w f0 λe=>iQ (S:=Int×Unit) (λa b f=>(cond (decide (a.1>=0)) (eF b f1 λg=>0<=(IntKind.i64.wrap (8 * a.1))/\
 iY Tryz.prog [.one .bool] a0 [(Value.int .u8 (IntKind.u8.wrap (jy .i64 g (IntKind.i64.wrap (8 * a.1)))))] b λh c=>∃d:Bool,h=(Value.bool d)/\
 (cond (!d) (K c) (f ((IntKind.i64.wrap (a.1 - 1)),()) c))) (K b))) ((IntKind.i64.wrap (e - 1)),()) w):=okF iE Tryz.func272 (eX (.blk (.loop [(4,(.int .i64))] .leaf))) (by kernel_rfl)
theorem O_ {a w K}:fU (qy a w K)
 (Al w (.cells ⟨[.int .i64 1,.int .i64 6,.int .i64 17]⟩ 3) λb c=>gQ ⟨(some b),3,3⟩ a c λd e=>K d e):=okF iE Tryz.func276 .leaf (by kernel_rfl)
theorem tH {b d w K}:fU (iJ b d w K)
 (iQ (S:=Int×Unit) (λa c g=>(cond (decide (a.1<(b.len:Int))) (iP b 16 a.1 λh=>uT c h λi j k l m n o p q r s t u v x y=>iY Tryz.prog [.one .bool] d [(Value.agg ⟨nK i j k l m n o p q r s t u v x y⟩)] c λz e=>∃f:Bool,z=(Value.bool f)/\
 (cond f (K a.1 e) (g ((IntKind.i64.wrap (a.1+1)),()) e))) (K (-1) c))) (0,()) w):=okF iE Tryz.func277 (eX (.seq (eX (.blk (.loop [(8,(.int .i64))] .leaf))) .leaf)) (by kernel_rfl)
theorem zo {b d w K}:fU (jf b d w K)
 (iQ (S:=Int×Unit) (λa c g=>(cond (decide (a.1<(b.len:Int))) (iP b 1 a.1 λh=>eF c h λi=>iY Tryz.prog [.one .bool] d [(Value.int .i64 i)] c λj e=>∃f:Bool,j=(Value.bool f)/\
 (cond f (K a.1 e) (g ((IntKind.i64.wrap (a.1+1)),()) e))) (K (-1) c))) (0,()) w):=okF iE Tryz.func278 (eX (.seq (eX (.blk (.loop [(8,(.int .i64))] .leaf))) .leaf)) (by kernel_rfl)
theorem pz {d e w K}:fU (gY d e w K)
 (iQ (S:=Int×Unit) (λc a h=>(cond (decide (c.1<(d.len:Int))) (iP d 7 c.1 λb=>eF a (b.add 0) λi=>eF a (b.add 1) λj=>eF a (b.add 2) λk=>eF a (b.add 3) λl=>eF a (b.add 4) λm=>eF a (b.add 5) λn=>eF a (b.add 6) λo=>iY Tryz.prog [.one .bool] e [(Value.agg ⟨[.int .i64 i,.int .i64 j,.int .i64 k,.int .i64 l,.int .i64 m,.int .i64 n,.int .i64 o]⟩)] a λp f=>∃g:Bool,p=(Value.bool g)/\
 (cond g (K c.1 f) (h ((IntKind.i64.wrap (c.1+1)),()) f))) (K (-1) a))) (0,()) w):=okF iE Tryz.func279 (eX (.seq (eX (.blk (.loop [(8,(.int .i64))] .leaf))) .leaf)) (by kernel_rfl)
theorem vP {a0 f0 f1 w K}:fU (vY a0 f0 f1 w K)
 (Ld .slice w f0 λd=>iQ (S:=Int×Unit) (λa b y=>(cond (decide (a.1<(d.len:Int))) (iP d 16 a.1 λz=>uT b z λA B C D E F G H I J L M N O P Q=>Al b (.cells ⟨(nK 0 0 0 0 0 0 0 0 0 0 0 0 0 0 0 0)⟩ 23) λe R=>iL (nK A B C D E F G H I J L M N O P Q) R e 0 λc=>Ld .any c f1 λT=>uT c e λU V W X Y Z aa ab ac ad ae af ag ah ai aj=>iY Tryz.prog [.agg abz] T [(Value.agg ⟨nK U V W X Y Z aa ab ac ad ae af ag ah ai aj⟩)] c λak al=>∃f:Int,∃g:Int,∃h:Int,∃i:Int,∃j:Int,∃k:Int,∃l:Int,∃m:Int,∃n:Int,∃o:Int,∃p:Int,∃q:Int,∃r:Int,∃s:Int,∃t:Int,∃u:Int,ak=(Value.agg ⟨nK f g h i j k l m n o p q r s t u⟩)/\
 iY Tryz.prog [.one .bool] a0 [(Value.agg ⟨nK f g h i j k l m n o p q r s t u⟩)] al λam v=>∃x:Bool,am=(Value.bool x)/\
 (cond (!x) (K v) (y ((IntKind.i64.wrap (a.1+1)),()) v))) (K b))) (0,()) w):=okF iE Tryz.func280 (eX (.blk (.loop [(8,(.int .i64))] .leaf))) (by kernel_rfl)
theorem CG {a0 f0 f1 w K}:fU (Df a0 f0 f1 w K)
 (Ld .slice w f0 λc=>iQ (S:=Int×Unit) (λb a g=>(cond (decide (b.1<(c.len:Int))) (iP c 1 b.1 λh=>eF a h λi=>Ld .any a f1 λj=>iY Tryz.prog [.one (.int .i64)] j [(Value.int .i64 i)] a λk l=>∃d:Int,k=(Value.int .i64 d)/\
 iY Tryz.prog [.one .bool] a0 [(Value.int .i64 d)] l λm e=>∃f:Bool,m=(Value.bool f)/\
 (cond (!f) (K e) (g ((IntKind.i64.wrap (b.1+1)),()) e))) (K a))) (0,()) w):=okF iE Tryz.func281 (eX (.blk (.loop [(8,(.int .i64))] .leaf))) (by kernel_rfl)
theorem rC {a0 f0 f1 w K}:fU (rH a0 f0 f1 w K)
 (Ld .slice w f0 λf=>iQ (S:=Int×Unit) (λe a m=>(cond (decide (e.1<(f.len:Int))) (iP f 7 e.1 λd=>eF a (d.add 0) λn=>eF a (d.add 1) λo=>eF a (d.add 2) λp=>eF a (d.add 3) λq=>eF a (d.add 4) λr=>eF a (d.add 5) λs=>eF a (d.add 6) λt=>Al a (.cells ⟨[.int .i64 0,.int .i64 0,.int .i64 0,.int .i64 0,.int .i64 0,.int .i64 0,.int .i64 0]⟩ 121) λc u=>iL [.int .i64 n,.int .i64 o,.int .i64 p,.int .i64 q,.int .i64 r,.int .i64 s,.int .i64 t] u c 0 λb=>Ld .any b f1 λv=>eF b (c.add 0) λx=>eF b (c.add 1) λy=>eF b (c.add 2) λz=>eF b (c.add 3) λA=>eF b (c.add 4) λB=>eF b (c.add 5) λC=>eF b (c.add 6) λD=>iY Tryz.prog [.agg [(.int .i64),(.int .i64),(.int .i64),(.int .i64)]] v [(Value.agg ⟨[.int .i64 x,.int .i64 y,.int .i64 z,.int .i64 A,.int .i64 B,.int .i64 C,.int .i64 D]⟩)] b λE F=>∃g:Int,∃h:Int,∃i:Int,∃j:Int,E=(Value.agg ⟨[.int .i64 g,.int .i64 h,.int .i64 i,.int .i64 j]⟩)/\
 iY Tryz.prog [.one .bool] a0 [(Value.agg ⟨[.int .i64 g,.int .i64 h,.int .i64 i,.int .i64 j]⟩)] F λG k=>∃l:Bool,G=(Value.bool l)/\
 (cond (!l) (K k) (m ((IntKind.i64.wrap (e.1+1)),()) k))) (K a))) (0,()) w):=okF iE Tryz.func282 (eX (.blk (.loop [(8,(.int .i64))] .leaf))) (by kernel_rfl)
theorem rD {a0 f0 f1 w K}:fU (rJ a0 f0 f1 w K)
 (Ld .slice w f0 λf=>iQ (S:=Int×Unit) (λe a l=>(cond (decide (e.1<(f.len:Int))) (iP f 7 e.1 λd=>eF a (d.add 0) λm=>eF a (d.add 1) λn=>eF a (d.add 2) λo=>eF a (d.add 3) λp=>eF a (d.add 4) λq=>eF a (d.add 5) λr=>eF a (d.add 6) λs=>Al a (.cells ⟨[.int .i64 0,.int .i64 0,.int .i64 0,.int .i64 0,.int .i64 0,.int .i64 0,.int .i64 0]⟩ 121) λc t=>iL [.int .i64 m,.int .i64 n,.int .i64 o,.int .i64 p,.int .i64 q,.int .i64 r,.int .i64 s] t c 0 λb=>Ld .any b f1 λu=>eF b (c.add 0) λv=>eF b (c.add 1) λx=>eF b (c.add 2) λy=>eF b (c.add 3) λz=>eF b (c.add 4) λA=>eF b (c.add 5) λB=>eF b (c.add 6) λC=>iY Tryz.prog [.agg [(.int .i64),(.int .i64),(.int .i64)]] u [(Value.agg ⟨[.int .i64 v,.int .i64 x,.int .i64 y,.int .i64 z,.int .i64 A,.int .i64 B,.int .i64 C]⟩)] b λD E=>∃g:Int,∃h:Int,∃i:Int,D=(Value.agg ⟨[.int .i64 g,.int .i64 h,.int .i64 i]⟩)/\
 iY Tryz.prog [.one .bool] a0 [(Value.agg ⟨[.int .i64 g,.int .i64 h,.int .i64 i]⟩)] E λF j=>∃k:Bool,F=(Value.bool k)/\
 (cond (!k) (K j) (l ((IntKind.i64.wrap (e.1+1)),()) j))) (K a))) (0,()) w):=okF iE Tryz.func283 (eX (.blk (.loop [(8,(.int .i64))] .leaf))) (by kernel_rfl)
theorem BN {d e b w K}:fU (kX d e b w K)
 (Al w (.cells ⟨[.int .i64 d,.int .i64 e]⟩ 334) λf g=>eF g (f.add 1) λa=>let h:Bool->b_:=λi j=>(K i j)
 kT b g.drew λk c=>(cond k (0<=(IntKind.i64.wrap (32 - a))/\
 eF c f λl=>0<=(IntKind.i64.wrap (32 - a))/\
 h ((jy .i64 b (IntKind.i64.wrap (32 - a)))==(jy .i64 l (IntKind.i64.wrap (32 - a)))) c) (h false c))):=okF iE Tryz.func284 .leaf (by kernel_rfl)
theorem H_ {a w K}:fU (lF a w K)
 (let b:Bool->Prop:=λc=>(K c w)
 (cond (!(Option.isNone a)) (Pt a λd=>Ld .bool w (d.add 3) λe=>b e) (b false))):=okF iE Tryz.func285 .leaf (by kernel_rfl)
theorem AQ {k l w K}:fU (jL k l w K)
 (iC (Value.pointer k)=true/\
 Al w (.cells ⟨[.pointer k]⟩ 214) λh u=>iC (Value.string l)=true/\
 Al u (.cells ⟨[.string l]⟩ 9) λr v=>Al v (.cells ⟨[.int .i64 0]⟩ 3) λe x=>Al x (.cells ⟨[.bool false]⟩ 4) λf b=>Ld .ptr b h λy=>Pt y λz=>Ld .slice b z λA=>(cond ((A.len:Int)==0) (St b e (.int .i64 0) λB=>St B f (.bool false) λm=>eF m e λC=>Ld .bool m f λD=>K C D m) (Ld .ptr b.drew h λs=>Ld .str b.drew r λE=>Ld .ptr b.drew h λF=>Pt F λG=>Ld .slice b.drew G λH=>xO E (H.len:Int) b.drew λI t=>t.cell? h=some (Value.pointer s)/\
 mJ s I t λJ a=>Ez Tryz.prog none [.one (.int .i64)] J a (λc n d o=>d.heap[c]? =d.heap[c]? /\
 Ld .ptr (fF d c) h λL=>Pt L λM=>Ld .slice (fF d c) M λN=>iP N 3 n.1 λp=>Ld .str (fF d c) (p.add 0) λO=>eF (fF d c) (p.add 1) λP=>Ld .bool (fF d c) (p.add 2) λQ=>Al (fF d c) (.cells ⟨[.string (bs []),.int .i64 0,.bool false]⟩ 435) λq R=>iL [.string O,.int .i64 P,.bool Q] R q 0 λg=>Ld .bool g (q.add 2) λS=>(cond (!S) (St g e (.int .i64 n.1) λT=>St T f (.bool false) λU=>o .ret U) (Ld .str g q λV=>Ld .str g r λW=>(cond (strEq V W) (St g e (.int .i64 n.1) λX=>St X f (.bool true) λY=>o .ret Y) (o .normal g)))))
 (λZ=>St Z e (.int .i64 0) λaa=>St aa f (.bool false) λi=>i.heap[a.heap.size]? =some (.deferred (some []))/\
 eF (i.putObj a.heap.size (.deferred none)) e λab=>Ld .bool (i.putObj a.heap.size (.deferred none)) f λac=>K ab ac (i.putObj a.heap.size (.deferred none)))
 (λj=>j.heap[a.heap.size]? =some (.deferred (some []))/\
 eF (j.putObj a.heap.size (.deferred none)) e λad=>Ld .bool (j.putObj a.heap.size (.deferred none)) f λae=>K ad ae (j.putObj a.heap.size (.deferred none)))
 []))):=okF iE Tryz.func286 (eX (eX (.seq (eX (.blk (.rng [.one (.int .i64)] .leaf .leaf))) .leaf))) (by kernel_rfl)
theorem Zb {c w K}:fU (zY c w K)
 (iQ (S:=eY×Int×Unit) (λa b e=>(cond (decide (a.2.1<(c.len:Int))) (iP c 1 a.2.1 λf=>eF b f λd=>0<=(32:Int)/\
 lu a.1 (wH .i64 (jy .i64 d 32) 4294967295) 4 b λg h=>lu g (wH .i64 d 4294967295) 4 h λi j=>e (i,(IntKind.i64.wrap (a.2.1+1)),()) j) (uS b a.1 λk=>K k b))) (⟨none,0,0⟩,0,()) w):=okF iE Tryz.func287 (eX (eX (.seq (eX (.blk (.loop [(3,.slice),(8,(.int .i64))] .leaf))) .leaf))) (by kernel_rfl)
theorem Ou {b w K}:fU (I9 b w K)
 (iC (Value.slice b.a b.len b.cap)=true/\
 Al w (.cells ⟨[.slice b.a b.len b.cap]⟩ 37) λc d=>K (Value.func (.func 337) #[] #[(Value.pointer (some c))]) d):=okF iE Tryz.func289 .leaf (by kernel_rfl)
theorem Bl {c d w K}:fU (sN c d w K)
 (iQ (S:=Int×Unit) (λa b e=>(cond (decide (a.1<(c.len:Int))) (iP c 1 a.1 λf=>Ld .bool b f λg=>(cond ((d:Bool)==g) (K a.1 b) (e ((IntKind.i64.wrap (a.1+1)),()) b))) (K (-1) b))) (0,()) w):=okF iE Tryz.func290 (eX (.seq (eX (.blk (.loop [(8,(.int .i64))] .leaf))) .leaf)) (by kernel_rfl)
theorem nH {a b w K}:fU (gK a b w K)
 (gV a b w λc d=>K (decide (c>=0)) d):=okF iE Tryz.func291 .leaf (by kernel_rfl)
theorem LK {h i c j k d w K}:fU (Dh h i c j k d w K)
 (Al w (.cells ⟨[.int .i64 h,.bool i,.slice c.a c.len c.cap]⟩ 353) λe l=>Al l (.cells ⟨[.int .i64 j,.bool k,.slice d.a d.len d.cap]⟩ 353) λf b=>let g:Bool->b_:=λm n=>(K m n)
 eF b e λo=>eF b f λp=>(cond (o==p) (Ld .bool b (e.add 1) λq=>Ld .bool b (f.add 1) λr=>(cond ((q:Bool)==r) (Ld .slice b (e.add 2) λs=>Ld .slice b (f.add 2) λt=>r_ s t b λu v=>g u v) (g false b))) (g false b))):=okF iE Tryz.func292 .leaf (by kernel_rfl)
theorem JG {h w K}:fU (mO h w K)
 (Pt h λk=>Ld .slice w k λi=>iQ (S:=Int×Int×Unit) (λb c l=>(cond (decide (b.2.1<(i.len:Int))) (iP i 3 b.2.1 λf=>eF c (f.add 0) λm=>Ld .bool c (f.add 1) λn=>Ld .slice c (f.add 2) λg=>Al c (.cells ⟨[.int .i64 0,.bool false,.slice none 0 0]⟩ 353) λd o=>iL [.int .i64 m,.bool n,.slice g.a g.len g.cap] o d 0 λe=>eF e (d.add 0) λp=>Ld .bool e (d.add 1) λq=>Ld .slice e (d.add 2) λr=>iq p q r e λj s=>l ((if j>b.1 then j else b.1),(IntKind.i64.wrap (b.2.1+1)),()) s) (K b.1 c))) (0,0,()) w):=okF iE Tryz.func293 (eX (eX (.seq (eX (.blk (.loop [(3,(.int .i64)),(11,(.int .i64))] .leaf))) .leaf))) (by kernel_rfl)
theorem Ue {b w K}:fU (uX b w K)
 (iQ (S:=Int×Unit) (λc a e=>(cond (decide (c.1<(b.len:Int))) (iP b 1 c.1 λf=>eF a f λd=>(cond (d !=0) (K d a) (e ((IntKind.i64.wrap (c.1+1)),()) a))) (K 0 a))) (0,()) w):=okF iE Tryz.func294 (eX (eX (.seq (eX (.blk (.loop [(8,(.int .i64))] .leaf))) .leaf))) (by kernel_rfl)
theorem JB {b c w K}:fU (kJ b c w K)
 (mg b w λe f=>mg c f λd a=>(cond e (cond d (K 0 a) (K (-1) a)) (cond d (K 1 a) (cond (decide (b<c)) (K (-1) a) (cond (decide (b>c)) (K 1 a) (K 0 a)))))):=okF iE Tryz.func295 .leaf (by kernel_rfl)
theorem EI {a0 f0 w K}:fU (EW a0 f0 w K)
 (Ld .ptr w f0 λn=>iM n w λo f=>(cond (!o) (K f) (Ld .ptr f f0 λp=>Pt p λq=>Ld .slice f q λj=>iQ (S:=Int×Int×Unit) (λc b r=>(cond (decide (c.2.1<(j.len:Int))) (iP j 3 c.2.1 λh=>eF b (h.add 0) λs=>Ld .bool b (h.add 1) λt=>Ld .slice b (h.add 2) λi=>Al b (.cells ⟨[.int .i64 0,.bool false,.slice none 0 0]⟩ 353) λd u=>iL [.int .i64 s,.bool t,.slice i.a i.len i.cap] u d 0 λg=>let k:Bool->b_:=λv e=>((cond v (K e) (eF e (d.add 0) λx=>Ld .bool e (d.add 1) λy=>Ld .slice e (d.add 2) λz=>iq x y z e λl A=>r ((if l>c.1 then l else c.1),(IntKind.i64.wrap (c.2.1+1)),()) A)))
 eF g d λB=>(cond (decide (B>c.1)) (eF g d λC=>iY Tryz.prog [.one .bool] a0 [(Value.int .i64 c.1),(Value.int .i64 C)] g λD E=>∃m:Bool,D=(Value.bool m)/\
 k (!m) E) (k false g))) (Ld .ptr b f0 λF=>Pt F λG=>eF b (G.add 2) λH=>(cond (decide (H>c.1)) (Ld .ptr b f0 λI=>Pt I λJ=>eF b (J.add 2) λL=>iY Tryz.prog [.one .bool] a0 [(Value.int .i64 c.1),(Value.int .i64 L)] b λM N=>∃O:Bool,M=(Value.bool O)/\
 K N) (K b))))) (0,0,()) f))):=okF iE Tryz.func298 (eX (eX (.seq (eX (.blk (.loop [(3,(.int .i64)),(14,(.int .i64))] .leaf))) .leaf))) (by kernel_rfl)
theorem Zp {c d e f g h i j k l m w K}:fU (Aj c d e f g h i j k l m w K)
 (Al w (.cells ⟨(fG c d e f g h i j k l m)⟩ 68) λb a=>eF a (b.add 2) λn=>(8:Int)≠0/\
 let o:Int->Prop:=λp=>(let q:Int->Prop:=λr=>(K r a)
 Ld .bool a (b.add 8) λs=>(cond s (q (Xz .i64 p 8192)) (q p)))
 Ld .bool a (b.add 7) λt=>(cond t (o (Xz .i64 (IntKind.i64.wrap (Int.tdiv n 8)) 16384)) (o (IntKind.i64.wrap (Int.tdiv n 8))))):=okF iE Tryz.func299 .leaf (by kernel_rfl)
theorem En {a w K}:fU (jX a w K)
 (iD ⟨none,0,0⟩ a w λb c=>K b c):=okF iE Tryz.func300 .leaf (by kernel_rfl)
theorem Ug {c d e f g h i j k l m w K}:fU (uZ c d e f g h i j k l m w K)
 (Al w (.cells ⟨(fG c d e f g h i j k l m)⟩ 68) λb a=>eF a (b.add 4) λo=>(cond (o !=1) (K true a) (let n:Bool->b_:=λp q=>(K p q)
 Ld .slice a (b.add 10) λr=>(cond (decide ((r.len:Int)>0)) (Ld .slice a (b.add 10) λs=>iP s 1 0 λt=>Ld (.int .u8) a t λu=>oP (IntKind.i64.wrap u) a λv x=>n (!v) x) (n false a))))):=okF iE Tryz.func301 .leaf (by kernel_rfl)
theorem Uj {h i j b w K}:fU (vk h i j b w K)
 (Al w (.cells ⟨[.int .i64 h,.int .i64 i,.int .i64 j,.slice b.a b.len b.cap]⟩ 168) λc k=>let e:Bool->b_:=λl d=>((cond l (K 1 d) (Ld .slice d (c.add 3) λm=>(cond (decide ((m.len:Int)>65527)) (K 6 d) (K 0 d)))))
 eF k c λn=>kH n 1 k λo f=>(cond (!o) (e true f) (eF f (c.add 1) λp=>kH p 1 f λq g=>(cond (!q) (e true g) (eF g (c.add 2) λr=>kH r 4 g λs t=>e (!s) t))))):=okF iE Tryz.func302 .leaf (by kernel_rfl)
theorem Ox {a b w K}:fU (wI a b w K)
 (gQ b a w λc d=>K c d):=okF iE Tryz.func303 .leaf (by kernel_rfl)
theorem Ur {d w K}:fU (DX d w K)
 (Al w (.cells ⟨(zU ⟨none,0,0⟩ 0 0 0 0 0 0 0 false false ⟨none,0,0⟩ ⟨none,0,0⟩ 0)⟩ 447) λa v=>uD d v λx y z A B C D E F G H e I=>Al I (.cells ⟨(fG 0 0 0 0 0 0 0 false false ⟨none,0,0⟩ ⟨none,0,0⟩)⟩ 68) λc J=>iL (fG x y z A B C D E F G H) J c 0 λb=>(cond (e !=0) (iL (zU ⟨none,0,0⟩ 0 0 0 0 0 0 0 false false ⟨none,0,0⟩ ⟨none,0,0⟩ 0) b a 0 λf=>EP f a λL M N O P Q R S T U V W X=>K L M N O P Q R S T U V W X e f) (eF b (c.add 2) λY=>(cond (decide (Y>0)) (iL (zU ⟨none,0,0⟩ 0 0 0 0 0 0 0 false false ⟨none,0,0⟩ ⟨none,0,0⟩ 0) b a 0 λg=>EP g a λZ aa ab ac ad ae af ag ah ai aj ak al=>K Z aa ab ac ad ae af ag ah ai aj ak al 4 g) (Ld .slice b (c.add 10) λam=>(cond (decide ((am.len:Int)<8)) (iL (zU ⟨none,0,0⟩ 0 0 0 0 0 0 0 false false ⟨none,0,0⟩ ⟨none,0,0⟩ 0) b a 0 λh=>EP h a λan ao ap aq ar au av aw ax ay az aA aB=>K an ao ap aq ar au av aw ax ay az aA aB 3 h) (gI b.drew c λi j k l m n o p q r s=>gI b.drew c λaC aD aE aF aG aH aI aJ aK aL aM=>wK aC aD aE aF aG aH aI aJ aK aL aM b.drew λaN t=>S_ (fG i j k l m n o p q r s) t c 0 (
 iL (zU d i j k l m n o p q r s aN) t a 0 λu=>EP u a λaO aP aQ aR aS aT aU aV aW aX aY aZ a1=>K aO aP aQ aR aS aT aU aV aW aX aY aZ a1 0 u)))))))):=okF iE Tryz.func304 .leaf (by kernel_rfl)
theorem EJ {k l m n o p q r s t u v x w K}:fU (qB k l m n o p q r s t u v x w K)
 (Al w (.cells ⟨(zU k l m n o p q r s t u v x)⟩ 447) λb w2=>Al w2 (.cells ⟨[.int .i64 0,.int .i64 0,.int .i64 0]⟩ 258) λa c=>let y:b_:=λw7=>(iL [.int .i64 0,.int .i64 0,.int .i64 0] w7 a 0 λd=>eF d (a.add 0) λy9=>eF d (a.add 1) λag=>eF d (a.add 2) λah=>K y9 ag ah 8 d)
 eF c ((b.add 1).add 4) λe=>let z:Bool->Prop:=λai=>((cond ai (eF c.drew ((b.add 1).add 4) λi=>EP c.drew b λaj ak al am an ao ap aq ar au av aw ax=>EP c.drew b λA B C D E F G H I J L M N=>jd aj ak al am an ao ap aq ar au av aw ax 0 c.drew λay j=>S_ (zU A B C D E F G H I J L M N) j b 0 (
 j.cell? ((b.add 1).add 4)=some (Value.int .i64 i)/\
 jd A B C D E F G H I J L M N 2 j λaz O=>O.cell? ((b.add 1).add 4)=some (Value.int .i64 i)/\
 iL [.int .i64 i,.int .i64 ay,.int .i64 az] O a 0 λf=>eF f (a.add 0) λaA=>eF f (a.add 1) λaB=>eF f (a.add 2) λaC=>K aA aB aC 0 f)) (cond (e==1) (Ld .slice c ((b.add 1).add 10) λaD=>iP aD 1 0 λaE=>Ld (.int .u8) c aE λaF=>qN (IntKind.i64.wrap aF) c λaG g=>(cond aG (EP g.drew b λaH aI aJ aK aL aM aN aO aP aQ aR aS aT=>EP g.drew b λP Q R S T U V W X Y Z aa ab=>jd aH aI aJ aK aL aM aN aO aP aQ aR aS aT 4 g.drew λaU ac=>S_ (zU P Q R S T U V W X Y Z aa ab) ac b 0 (
 jd P Q R S T U V W X Y Z aa ab 4 ac λaV aW=>iL [.int .i64 1,.int .i64 aU,.int .i64 aV] aW a 0 λh=>eF h (a.add 0) λaX=>eF h (a.add 1) λaY=>eF h (a.add 2) λaZ=>K aX aY aZ 0 h)) (y g))) (y c))))
 (cond (e==6) (z (e==6)) (z (e==17)))):=okF iE Tryz.func305 .leaf (by kernel_rfl)
theorem Xt {v x d w K}:fU (EY v x d w K)
 (Al w (.cells ⟨[.int .i64 0,.int .i64 0,.bool false,.slice none 0 0]⟩ 95) λc y=>(cond (decide ((d.len:Int)<8)) (iL [.int .i64 0,.int .i64 0,.bool false,.slice none 0 0] y c 0 λm=>eF m (c.add 0) λD=>eF m (c.add 1) λE=>Ld .bool m (c.add 2) λF=>Ld .slice m (c.add 3) λG=>K D E F G 3 m) (Al y (.cells ⟨[.int .i64 0,.int .i64 0,.int .i64 0,.int .i64 0]⟩ 505) λe H=>nJ d 1 0 8 λI=>I9 I H λJ b=>Ez Tryz.prog none [.one (.int .i64),.one (.int .i64)] J b (λq n r L=>r.heap[q]? =r.heap[q]? /\
 (2:Int)≠0/\
 (0:Int)<=(IntKind.i64.wrap (Int.tdiv n.1 2))/\(IntKind.i64.wrap (Int.tdiv n.1 2))<(4:Int)/\
 St (fF r q) (e.add (Int.toNat (IntKind.i64.wrap (Int.tdiv n.1 2)) * 1)) (Value.int .i64 n.2.1) λM=>L .normal M)
 (λf=>(0:Int)<=2/\2<(4:Int)/\
 eF f.drew (e.add (Int.toNat 2 * 1)) λo=>(0:Int)<=3/\3<(4:Int)/\
 eF f.drew (e.add (Int.toNat 3 * 1)) λz=>(cond (decide (o<8)) (iL [.int .i64 0,.int .i64 0,.bool false,.slice none 0 0] f.drew c 0 λg=>g.heap[b.heap.size]? =some (.deferred (some []))/\
 eF (g.putObj b.heap.size (.deferred none)) (c.add 0) λN=>eF (g.putObj b.heap.size (.deferred none)) (c.add 1) λO=>Ld .bool (g.putObj b.heap.size (.deferred none)) (c.add 2) λP=>Ld .slice (g.putObj b.heap.size (.deferred none)) (c.add 3) λQ=>K N O P Q 4 (g.putObj b.heap.size (.deferred none))) (cond (decide (o>(d.len:Int))) (iL [.int .i64 0,.int .i64 0,.bool false,.slice none 0 0] f.drew c 0 λh=>h.heap[b.heap.size]? =some (.deferred (some []))/\
 eF (h.putObj b.heap.size (.deferred none)) (c.add 0) λR=>eF (h.putObj b.heap.size (.deferred none)) (c.add 1) λS=>Ld .bool (h.putObj b.heap.size (.deferred none)) (c.add 2) λT=>Ld .slice (h.putObj b.heap.size (.deferred none)) (c.add 3) λU=>K R S T U 3 (h.putObj b.heap.size (.deferred none))) (cond (decide (o<(d.len:Int))) (iL [.int .i64 0,.int .i64 0,.bool false,.slice none 0 0] f.drew c 0 λi=>i.heap[b.heap.size]? =some (.deferred (some []))/\
 eF (i.putObj b.heap.size (.deferred none)) (c.add 0) λV=>eF (i.putObj b.heap.size (.deferred none)) (c.add 1) λW=>Ld .bool (i.putObj b.heap.size (.deferred none)) (c.add 2) λX=>Ld .slice (i.putObj b.heap.size (.deferred none)) (c.add 3) λY=>K V W X Y 4 (i.putObj b.heap.size (.deferred none))) (let A:Bool->b_:=λZ p=>((cond Z (iL [.int .i64 0,.int .i64 0,.bool false,.slice none 0 0] p c 0 λj=>j.heap[b.heap.size]? =some (.deferred (some []))/\
 eF (j.putObj b.heap.size (.deferred none)) (c.add 0) λaa=>eF (j.putObj b.heap.size (.deferred none)) (c.add 1) λab=>Ld .bool (j.putObj b.heap.size (.deferred none)) (c.add 2) λac=>Ld .slice (j.putObj b.heap.size (.deferred none)) (c.add 3) λad=>K aa ab ac ad 5 (j.putObj b.heap.size (.deferred none))) ((0:Int)<=0/\0<(4:Int)/\
 eF p.drew (e.add (Int.toNat 0 * 1)) λB=>(0:Int)<=1/\1<(4:Int)/\
 eF p.drew (e.add (Int.toNat 1 * 1)) λC=>nJ d 1 8 (d.len:Int) λae=>fQ ae p.drew λs t=>t.cell? (e.add (Int.toNat 1 * 1))=some (Value.int .i64 C)/\
 t.cell? (e.add (Int.toNat 0 * 1))=some (Value.int .i64 B)/\
 iL [.int .i64 B,.int .i64 C,.bool (z==0),.slice s.a s.len s.cap] t c 0 λk=>k.heap[b.heap.size]? =some (.deferred (some []))/\
 eF (k.putObj b.heap.size (.deferred none)) (c.add 0) λaf=>eF (k.putObj b.heap.size (.deferred none)) (c.add 1) λag=>Ld .bool (k.putObj b.heap.size (.deferred none)) (c.add 2) λah=>Ld .slice (k.putObj b.heap.size (.deferred none)) (c.add 3) λai=>K af ag ah ai 0 (k.putObj b.heap.size (.deferred none)))))
 (cond (z !=0) (qR v x 17 o f.drew λu aj=>Al aj (.cells ⟨[.slice u.a u.len u.cap,.slice d.a d.len d.cap]⟩ 37) λak al=>oL ⟨(some ak),2,2⟩ al λam an=>A (!am) an) (A false f.drew)))))))
 (λl=>l.heap[b.heap.size]? =some (.deferred (some []))/\
 eF (l.putObj b.heap.size (.deferred none)) (c.add 0) λao=>eF (l.putObj b.heap.size (.deferred none)) (c.add 1) λap=>Ld .bool (l.putObj b.heap.size (.deferred none)) (c.add 2) λaq=>Ld .slice (l.putObj b.heap.size (.deferred none)) (c.add 3) λar=>K ao ap aq ar 0 (l.putObj b.heap.size (.deferred none)))
 []))):=okF iE Tryz.func307 (eX (eX (eX (.seq (eX (.blk (.rng [.one (.int .i64),.one (.int .i64)] .leaf .leaf))) .leaf)))) (by kernel_rfl)
theorem Ul {a w K}:fU (qN a w K)
 (Al w (.cells ⟨[.int .i64 0,.int .i64 8]⟩ 3) λb c=>wI a ⟨(some b),2,2⟩ c λd e=>K d e):=okF iE Tryz.func308 .leaf (by kernel_rfl)
theorem Uw {a b c d w K}:fU (qR a b c d w K)
 (uz a 4 w λe f=>lu ⟨none,0,0⟩ e 4 f λg h=>uz b 4 h λi j=>lu g i 4 j λk l=>uz c 1 l λm n=>lu k m 2 n λo p=>uz d 2 p λq r=>lu o q 2 r λs t=>K s t):=okF iE Tryz.func318 .leaf (by kernel_rfl)
theorem RS {a0 a1 f0 w K}:fU (TL a0 a1 f0 w K)
 (Ld .slice w f0 λa=>xK a a0 a1 w λb d c=>K b c):=okF iE Tryz.func319 .leaf (by kernel_rfl)
theorem JD {a b w K}:fU (mJ a b w K)
 (iC (Value.pointer a)=true/\
 Al w (.cells ⟨[.pointer a]⟩ 214) λc d=>iC (Value.int .i64 b)=true/\
 Al d (.cells ⟨[.int .i64 b]⟩ 3) λe f=>K (Value.func (.func 359) #[] #[(Value.pointer (some c)),(Value.pointer (some e))]) f):=okF iE Tryz.func335 .leaf (by kernel_rfl)
theorem Xk {b c w K}:fU (xO b c w K)
 (iQ (S:=Int×Int×Unit) (λa d e=>(cond (decide (a.2.1<(b.size:Int))) (aej b a.2.1 λf=>e ((IntKind.u32.wrap ((ad4 .u32 a.1 (IntKind.u32.wrap f)) * 16777619)),(IntKind.i64.wrap (a.2.1+1)),()) d) ((IntKind.u32.wrap c)≠0/\
 K (IntKind.i64.wrap (Int.tmod a.1 (IntKind.u32.wrap c))) d))) (2166136261,0,()) w):=okF iE Tryz.func336 (eX (eX (.seq (eX (.blk (.loop [(5,(.int .u32)),(9,(.int .i64))] .leaf))) .leaf))) (by kernel_rfl)
theorem Ud {a0 f0 w K}:fU (VU a0 f0 w K)
 (iQ (S:=Int×Unit) (λb a g=>Ld .slice a f0 λh=>(cond (decide (b.1<(h.len:Int))) (Ld .slice a f0 λi=>iP i 1 b.1 λj=>Ld (.int .u8) a j λc=>0<=(8:Int)/\
 let d:Int->Prop:=λk=>(iY Tryz.prog [.one .bool] a0 [(Value.int .i64 b.1),(Value.int .i64 k)] a λl e=>∃f:Bool,l=(Value.bool f)/\
 (cond (!f) (K e) (g ((IntKind.i64.wrap (b.1+2)),()) e)))
 Ld .slice a f0 λm=>(cond (decide ((IntKind.i64.wrap (b.1+1))<(m.len:Int))) (Ld .slice a f0 λn=>iP n 1 (IntKind.i64.wrap (b.1+1)) λo=>Ld (.int .u8) a o λp=>d (Xz .i64 (LY .i64 (IntKind.i64.wrap c) 8) (IntKind.i64.wrap p))) (d (LY .i64 (IntKind.i64.wrap c) 8)))) (K a))) (0,()) w):=okF iE Tryz.func337 (eX (.blk (.loop [(3,(.int .i64))] .leaf))) (by kernel_rfl)
theorem oJ {d g w K}:fU (gV d g w K)
 (iQ (S:=Int×Unit) (λc b j=>(cond (decide (c.1<(d.len:Int))) (iP d 3 c.1 λe=>eF b (e.add 0) λk=>Ld .bool b (e.add 1) λl=>Ld .slice b (e.add 2) λf=>iY Tryz.prog [.one .bool] g [(Value.agg ⟨[.int .i64 k,.bool l,.slice f.a f.len f.cap]⟩)] b λm h=>∃i:Bool,m=(Value.bool i)/\
 (cond i (K c.1 h) (j ((IntKind.i64.wrap (c.1+1)),()) h))) (K (-1) b))) (0,()) w):=okF iE Tryz.func338 (eX (.seq (eX (.blk (.loop [(8,(.int .i64))] .leaf))) .leaf)) (by kernel_rfl)
theorem Ry {a b w K}:fU (r_ a b w K)
 (uS w a λc=>uS w b λd=>K (strEq c d) w):=okF iE Tryz.func339 .leaf (by kernel_rfl)
theorem Ns {a w K}:fU (mg a w K)
 (K (a !=a) w):=okF iE Tryz.func340 .leaf (by kernel_rfl)
theorem Ik {a b c d e f g h i j k l m n w K}:fU (jd a b c d e f g h i j k l m n w K)
 (Al w (.cells ⟨(zU a b c d e f g h i j k l m)⟩ 447) λp o=>Ld .slice o ((p.add 1).add 10) λq=>xK q n 2 o λr t s=>K r s):=okF iE Tryz.func342 .leaf (by kernel_rfl)
theorem aa1 {b a w K}:fU (uz b a w K)
 (0<=(IntKind.i64.wrap (8 * a))/\
 K (wH .i64 b (IntKind.i64.wrap ((LY .i64 1 (IntKind.i64.wrap (8 * a))) - 1))) w):=okF iE Tryz.func348 .leaf (by kernel_rfl)
theorem FY {a0 f0 f1 w K}:fU (Hg a0 f0 f1 w K)
 (Ld .ptr w f0 λf=>Pt f λg=>Ld .slice w g λh=>iQ (S:=Int×Unit) (λb a i=>(cond (decide (b.1<(h.len:Int))) (eF a.drew f1 λj=>Ld .ptr a.drew f0 λk=>Pt k λl=>Ld .slice a.drew l λc=>(c.len:Int)≠0/\
 iY Tryz.prog [.one .bool] a0 [(Value.int .i64 (Int.tmod (IntKind.i64.wrap (j+b.1)) (c.len:Int)))] a.drew λm d=>∃e:Bool,m=(Value.bool e)/\
 (cond (!e) (K d) (i ((IntKind.i64.wrap (b.1+1)),()) d))) (K a))) (0,()) w):=okF iE Tryz.func359 (eX (.blk (.loop [(10,(.int .i64))] .leaf))) (by kernel_rfl)
end Go.Proofs
