import Derived.Test.YtfndjkoiappemaaGreatW3
import Derived.Test.YtfndjkoiappemaaGreatProg
import Derived.KernelRfl
set_option maxRecDepth 100000
set_option maxHeartbeats 4000000
namespace Go.Proofs
open Gp
abbrev f_:=Ld (.int .i64)
abbrev h_ (T:Type):=Int->Int->Int->Int->Int->Int->Int->Int->T
abbrev ig (x:Ann):Ann:= .seq .leaf x
theorem ji:Xh Tryz.prog:=Xh.aiN (by kernel_rfl) (by kernel_rfl)
abbrev ai_:List Kind:=(.int .i64)::(.int .i64)::(.int .i64)::(.int .u8)::(.int .u8)::(.int .u8)::(.int .u8)::(.int .u8)::(.int .u8)::(.int .u8)::(.int .u8)::(.int .u8)::(.int .u8)::(.int .u8)::(.int .u8)::(.int .u8)::(.int .u8)::(.int .u8)::(.int .u8)::(.int .u8)::(.int .u8)::(.int .u8)::(.int .u8)::(.int .u8)::(.int .u8)::(.int .u8)::(.int .u8)::(.int .u8)::(.int .u8)::(.int .u8)::(.int .u8)::(.int .i64)::(.int .i64)::(.int .i64)::(.int .i64)::[]
@[reducible] def Nc (a b c d e f g h i j k l m n o p q r s t u v w x y z A B C D E F G H I:Int):List Value:= .int .i64 a:: .int .i64 b:: .int .i64 c:: .int .u8 d:: .int .u8 e:: .int .u8 f:: .int .u8 g:: .int .u8 h:: .int .u8 i:: .int .u8 j:: .int .u8 k:: .int .u8 l:: .int .u8 m:: .int .u8 n:: .int .u8 o:: .int .u8 p:: .int .u8 q:: .int .u8 r:: .int .u8 s:: .int .u8 t:: .int .u8 u:: .int .u8 v:: .int .u8 w:: .int .u8 x:: .int .u8 y:: .int .u8 z:: .int .u8 A:: .int .u8 B:: .int .u8 C:: .int .u8 D:: .int .u8 E:: .int .i64 F:: .int .i64 G:: .int .i64 H:: .int .i64 I::[]
@[reducible] def ahT (w:World) (a:Addr) (K:h_ (h_ (h_ (h_ (Int->Int->Int->Prop))))):Prop:=Ld (.int .i64) w (a.add 0) λb=>Ld (.int .i64) w (a.add 1) λc=>Ld (.int .i64) w (a.add 2) λd=>Ld (.int .u8) w (a.add 3) λe=>Ld (.int .u8) w (a.add 4) λf=>Ld (.int .u8) w (a.add 5) λg=>Ld (.int .u8) w (a.add 6) λh=>Ld (.int .u8) w (a.add 7) λi=>Ld (.int .u8) w (a.add 8) λj=>Ld (.int .u8) w (a.add 9) λk=>Ld (.int .u8) w (a.add 10) λl=>Ld (.int .u8) w (a.add 11) λm=>Ld (.int .u8) w (a.add 12) λn=>Ld (.int .u8) w (a.add 13) λo=>Ld (.int .u8) w (a.add 14) λp=>Ld (.int .u8) w (a.add 15) λq=>Ld (.int .u8) w (a.add 16) λr=>Ld (.int .u8) w (a.add 17) λs=>Ld (.int .u8) w (a.add 18) λt=>Ld (.int .u8) w (a.add 19) λu=>Ld (.int .u8) w (a.add 20) λv=>Ld (.int .u8) w (a.add 21) λx=>Ld (.int .u8) w (a.add 22) λy=>Ld (.int .u8) w (a.add 23) λz=>Ld (.int .u8) w (a.add 24) λA=>Ld (.int .u8) w (a.add 25) λB=>Ld (.int .u8) w (a.add 26) λC=>Ld (.int .u8) w (a.add 27) λD=>Ld (.int .u8) w (a.add 28) λE=>Ld (.int .u8) w (a.add 29) λF=>Ld (.int .u8) w (a.add 30) λG=>Ld (.int .i64) w (a.add 31) λH=>Ld (.int .i64) w (a.add 32) λI=>Ld (.int .i64) w (a.add 33) λJ=>Ld (.int .i64) w (a.add 34) λL=>K b c d e f g h i j k l m n o p q r s t u v x y z A B C D E F G H I J L
abbrev aja:List Kind:=(.int .u8)::(.int .u8)::(.int .u8)::(.int .u8)::(.int .u8)::(.int .u8)::(.int .u8)::(.int .u8)::(.int .u8)::(.int .u8)::(.int .u8)::(.int .u8)::(.int .u8)::(.int .u8)::(.int .u8)::(.int .u8):: .slice:: .slice::(.int .i64)::(.int .i64)::(.int .i64)::(.int .i64)::(.int .i64)::(.int .i64)::(.int .i64)::(.int .i64)::(.int .i64)::(.int .i64)::(.int .i64)::(.int .i64)::(.int .i64)::(.int .i64)::(.int .i64)::(.int .i64)::(.int .i64):: .slice::[]
@[reducible] def jV (e f g h i j k l m n o p q r s t:Int) (b c:iq) (u v w x y z A B C D E F G H I J K:Int) (d:iq):List Value:= .int .u8 e:: .int .u8 f:: .int .u8 g:: .int .u8 h:: .int .u8 i:: .int .u8 j:: .int .u8 k:: .int .u8 l:: .int .u8 m:: .int .u8 n:: .int .u8 o:: .int .u8 p:: .int .u8 q:: .int .u8 r:: .int .u8 s:: .int .u8 t:: .slice b.a b.len b.cap:: .slice c.a c.len c.cap:: .int .i64 u:: .int .i64 v:: .int .i64 w:: .int .i64 x:: .int .i64 y:: .int .i64 z:: .int .i64 A:: .int .i64 B:: .int .i64 C:: .int .i64 D:: .int .i64 E:: .int .i64 F:: .int .i64 G:: .int .i64 H:: .int .i64 I:: .int .i64 J:: .int .i64 K:: .slice d.a d.len d.cap::[]
@[reducible] def vH (w:World) (a:Addr) (K:h_ (h_ (iq->iq->Int->Int->Int->Int->Int->Int->Int->Int->Int->Int->Int->Int->Int->Int->Int->Int->Int->iq->Prop))):Prop:=Ld (.int .u8) w (a.add 0) λb=>Ld (.int .u8) w (a.add 1) λc=>Ld (.int .u8) w (a.add 2) λd=>Ld (.int .u8) w (a.add 3) λe=>Ld (.int .u8) w (a.add 4) λf=>Ld (.int .u8) w (a.add 5) λg=>Ld (.int .u8) w (a.add 6) λh=>Ld (.int .u8) w (a.add 7) λi=>Ld (.int .u8) w (a.add 8) λj=>Ld (.int .u8) w (a.add 9) λk=>Ld (.int .u8) w (a.add 10) λl=>Ld (.int .u8) w (a.add 11) λm=>Ld (.int .u8) w (a.add 12) λn=>Ld (.int .u8) w (a.add 13) λo=>Ld (.int .u8) w (a.add 14) λp=>Ld (.int .u8) w (a.add 15) λq=>Ld .slice w (a.add 16) λr=>Ld .slice w (a.add 17) λs=>Ld (.int .i64) w (a.add 18) λt=>Ld (.int .i64) w (a.add 19) λu=>Ld (.int .i64) w (a.add 20) λv=>Ld (.int .i64) w (a.add 21) λx=>Ld (.int .i64) w (a.add 22) λy=>Ld (.int .i64) w (a.add 23) λz=>Ld (.int .i64) w (a.add 24) λA=>Ld (.int .i64) w (a.add 25) λB=>Ld (.int .i64) w (a.add 26) λC=>Ld (.int .i64) w (a.add 27) λD=>Ld (.int .i64) w (a.add 28) λE=>Ld (.int .i64) w (a.add 29) λF=>Ld (.int .i64) w (a.add 30) λG=>Ld (.int .i64) w (a.add 31) λH=>Ld (.int .i64) w (a.add 32) λI=>Ld (.int .i64) w (a.add 33) λJ=>Ld (.int .i64) w (a.add 34) λL=>Ld .slice w (a.add 35) λM=>K b c d e f g h i j k l m n o p q r s t u v x y z A B C D E F G H I J L M
@[reducible] def ajg (e f g h i:g_) (j k l m n o p q r s t u v w x y:Int) (b c:iq) (z A B C D E F G H I J K L M N O P:Int) (d:iq) (Q:Int):List Value:= .pointer e:: .pointer f:: .pointer g:: .pointer h:: .pointer i:: .int .u8 j:: .int .u8 k:: .int .u8 l:: .int .u8 m:: .int .u8 n:: .int .u8 o:: .int .u8 p:: .int .u8 q:: .int .u8 r:: .int .u8 s:: .int .u8 t:: .int .u8 u:: .int .u8 v:: .int .u8 w:: .int .u8 x:: .int .u8 y:: .slice b.a b.len b.cap:: .slice c.a c.len c.cap:: .int .i64 z:: .int .i64 A:: .int .i64 B:: .int .i64 C:: .int .i64 D:: .int .i64 E:: .int .i64 F:: .int .i64 G:: .int .i64 H:: .int .i64 I:: .int .i64 J:: .int .i64 K:: .int .i64 L:: .int .i64 M:: .int .i64 N:: .int .i64 O:: .int .i64 P:: .slice d.a d.len d.cap:: .int .i64 Q::[]
@[reducible] def aje (a b c d e f g h i j k l m n o p q r s t u v w x y z A B C D E F:Int):List Value:= .int .u8 a:: .int .u8 b:: .int .u8 c:: .int .u8 d:: .int .u8 e:: .int .u8 f:: .int .u8 g:: .int .u8 h:: .int .u8 i:: .int .u8 j:: .int .u8 k:: .int .u8 l:: .int .u8 m:: .int .u8 n:: .int .u8 o:: .int .u8 p:: .int .u8 q:: .int .u8 r:: .int .u8 s:: .int .u8 t:: .int .u8 u:: .int .u8 v:: .int .u8 w:: .int .u8 x:: .int .u8 y:: .int .u8 z:: .int .u8 A:: .int .u8 B:: .int .u8 C:: .int .u8 D:: .int .u8 E:: .int .u8 F::[]
abbrev RH:List Kind:=(.int .i64)::(.int .u8)::(.int .u8)::(.int .u8)::(.int .u8)::(.int .u8)::(.int .u8)::(.int .u8)::(.int .u8)::(.int .u8)::(.int .u8)::(.int .u8)::(.int .u8)::(.int .u8)::(.int .u8)::(.int .u8)::(.int .u8)::(.int .u8)::(.int .u8)::(.int .u8)::(.int .u8)::(.int .u8)::(.int .u8)::(.int .u8)::(.int .u8)::(.int .u8)::(.int .u8)::(.int .u8)::(.int .u8)::(.int .i64)::(.int .i64)::(.int .i64)::(.int .i64)::[]
@[reducible] def iU (a b c d e f g h i j k l m n o p q r s t u v w x y z A B C D E F G:Int):List Value:= .int .i64 a:: .int .u8 b:: .int .u8 c:: .int .u8 d:: .int .u8 e:: .int .u8 f:: .int .u8 g:: .int .u8 h:: .int .u8 i:: .int .u8 j:: .int .u8 k:: .int .u8 l:: .int .u8 m:: .int .u8 n:: .int .u8 o:: .int .u8 p:: .int .u8 q:: .int .u8 r:: .int .u8 s:: .int .u8 t:: .int .u8 u:: .int .u8 v:: .int .u8 w:: .int .u8 x:: .int .u8 y:: .int .u8 z:: .int .u8 A:: .int .u8 B:: .int .u8 C:: .int .i64 D:: .int .i64 E:: .int .i64 F:: .int .i64 G::[]
@[reducible] def jD (w:World) (a:Addr) (K:h_ (h_ (h_ (h_ (Int->Prop))))):Prop:=Ld (.int .i64) w (a.add 0) λb=>Ld (.int .u8) w (a.add 1) λc=>Ld (.int .u8) w (a.add 2) λd=>Ld (.int .u8) w (a.add 3) λe=>Ld (.int .u8) w (a.add 4) λf=>Ld (.int .u8) w (a.add 5) λg=>Ld (.int .u8) w (a.add 6) λh=>Ld (.int .u8) w (a.add 7) λi=>Ld (.int .u8) w (a.add 8) λj=>Ld (.int .u8) w (a.add 9) λk=>Ld (.int .u8) w (a.add 10) λl=>Ld (.int .u8) w (a.add 11) λm=>Ld (.int .u8) w (a.add 12) λn=>Ld (.int .u8) w (a.add 13) λo=>Ld (.int .u8) w (a.add 14) λp=>Ld (.int .u8) w (a.add 15) λq=>Ld (.int .u8) w (a.add 16) λr=>Ld (.int .u8) w (a.add 17) λs=>Ld (.int .u8) w (a.add 18) λt=>Ld (.int .u8) w (a.add 19) λu=>Ld (.int .u8) w (a.add 20) λv=>Ld (.int .u8) w (a.add 21) λx=>Ld (.int .u8) w (a.add 22) λy=>Ld (.int .u8) w (a.add 23) λz=>Ld (.int .u8) w (a.add 24) λA=>Ld (.int .u8) w (a.add 25) λB=>Ld (.int .u8) w (a.add 26) λC=>Ld (.int .u8) w (a.add 27) λD=>Ld (.int .u8) w (a.add 28) λE=>Ld (.int .i64) w (a.add 29) λF=>Ld (.int .i64) w (a.add 30) λG=>Ld (.int .i64) w (a.add 31) λH=>Ld (.int .i64) w (a.add 32) λI=>K b c d e f g h i j k l m n o p q r s t u v x y z A B C D E F G H I
abbrev RG:List Kind:=(.int .u8)::(.int .u8)::(.int .u8)::(.int .u8)::(.int .u8)::(.int .u8)::(.int .u8)::(.int .u8)::(.int .u8)::(.int .u8)::(.int .u8)::(.int .u8)::(.int .u8)::(.int .u8)::(.int .u8)::(.int .u8)::[]
@[reducible] def jH (a b c d e f g h i j k l m n o p:Int):List Value:= .int .u8 a:: .int .u8 b:: .int .u8 c:: .int .u8 d:: .int .u8 e:: .int .u8 f:: .int .u8 g:: .int .u8 h:: .int .u8 i:: .int .u8 j:: .int .u8 k:: .int .u8 l:: .int .u8 m:: .int .u8 n:: .int .u8 o:: .int .u8 p::[]
@[reducible] def oV (w:World) (a:Addr) (K:h_ (h_ (Prop))):Prop:=Ld (.int .u8) w (a.add 0) λb=>Ld (.int .u8) w (a.add 1) λc=>Ld (.int .u8) w (a.add 2) λd=>Ld (.int .u8) w (a.add 3) λe=>Ld (.int .u8) w (a.add 4) λf=>Ld (.int .u8) w (a.add 5) λg=>Ld (.int .u8) w (a.add 6) λh=>Ld (.int .u8) w (a.add 7) λi=>Ld (.int .u8) w (a.add 8) λj=>Ld (.int .u8) w (a.add 9) λk=>Ld (.int .u8) w (a.add 10) λl=>Ld (.int .u8) w (a.add 11) λm=>Ld (.int .u8) w (a.add 12) λn=>Ld (.int .u8) w (a.add 13) λo=>Ld (.int .u8) w (a.add 14) λp=>Ld (.int .u8) w (a.add 15) λq=>K b c d e f g h i j k l m n o p q
@[reducible] def Uj (a b c d e f g:Int) (h i:Bool):List Value:= .int .i64 a:: .int .i64 b:: .int .i64 c:: .int .i64 d:: .int .i64 e:: .int .i64 f:: .int .i64 g:: .bool h:: .bool i::[]
@[reducible] def ahU (w:World) (a:Addr) (K:Int->Int->Int->Int->Int->Int->Int->Bool->Bool->Prop):Prop:=Ld (.int .i64) w (a.add 0) λb=>Ld (.int .i64) w (a.add 1) λc=>Ld (.int .i64) w (a.add 2) λd=>Ld (.int .i64) w (a.add 3) λe=>Ld (.int .i64) w (a.add 4) λf=>Ld (.int .i64) w (a.add 5) λg=>Ld (.int .i64) w (a.add 6) λh=>Ld .bool w (a.add 7) λi=>Ld .bool w (a.add 8) λj=>K b c d e f g h i j
@[reducible] def ahW (a b c d e f g h i j:Int):List Value:= .int .i64 a:: .int .i64 b:: .int .i64 c:: .int .i64 d:: .int .i64 e:: .int .i64 f:: .int .i64 g:: .int .i64 h:: .int .i64 i:: .int .i64 j::[]
@[reducible] def ajh (a b c d e f g h i j k l m n o p q r s t u v w x y z A B C D E F G H I J K L M N O P Q R S T U V W X Y Z aa ab ac ad ae:Int):List Value:= .int .i64 a:: .int .i64 b:: .int .i64 c:: .int .i64 d:: .int .i64 e:: .int .i64 f:: .int .i64 g:: .int .i64 h:: .int .i64 i:: .int .i64 j:: .int .i64 k:: .int .i64 l:: .int .i64 m:: .int .i64 n:: .int .i64 o:: .int .i64 p:: .int .i64 q:: .int .i64 r:: .int .i64 s:: .int .i64 t:: .int .i64 u:: .int .i64 v:: .int .i64 w:: .int .i64 x:: .int .i64 y:: .int .i64 z:: .int .i64 A:: .int .i64 B:: .int .i64 C:: .int .i64 D:: .int .i64 E:: .int .i64 F:: .int .i64 G:: .int .i64 H:: .int .i64 I:: .int .i64 J:: .int .i64 K:: .int .i64 L:: .int .i64 M:: .int .i64 N:: .int .i64 O:: .int .i64 P:: .int .i64 Q:: .int .i64 R:: .int .i64 S:: .int .i64 T:: .int .i64 U:: .int .i64 V:: .int .i64 W:: .int .i64 X:: .int .i64 Y:: .int .i64 Z:: .int .i64 aa:: .int .i64 ab:: .int .i64 ac:: .int .i64 ad:: .int .i64 ae::[]
@[reducible] def aji (a b c d e f g h i:Int):List Value:= .int .i64 a:: .int .i64 b:: .int .i64 c:: .int .i64 d:: .int .i64 e:: .int .i64 f:: .int .i64 g:: .int .i64 h:: .int .i64 i::[]
def D9 (a b c d e f g h i j k l m n o p:Int) (q r:iq) (s t u v x y z A B C D E F G H I J:Int) (L:iq) (w:World) (K:(g_)->Int->b_):Prop:=
 iw Tryz.prog 6 [.agg ⟨jV a b c d e f g h i j k l m n o p q r s t u v x y z A B C D E F G H I J L⟩] [.one .ptr,.one (.int .i64)] w K
def wG (w:World) (K:h_ (h_ (iq->iq->Int->Int->Int->Int->Int->Int->Int->Int->Int->Int->Int->Int->Int->Int->Int->Int->Int->iq->b_))):Prop:=
 iw Tryz.prog 7 [] [.agg aja] w K
theorem Wn {w K a}:wG w K->(∀b c d e f g h i j k l m n o p q r s t u v x y z A B C D E F G H I J L M w,K b c d e f g h i j k l m n o p q r s t u v x y z A B C D E F G H I J L M w->a b c d e f g h i j k l m n o p q r s t u v x y z A B C D E F G H I J L M w)->wG w a:=iw.mono
def vO (a:g_) (b:Int) (w:World) (K:(g_)->Int->b_):Prop:=
 iw Tryz.prog 8 [.pointer a,.int .i64 b] [.one .ptr,.one (.int .i64)] w K
theorem Jp {a b w K c}:vO a b w K->(∀d e w,K d e w->c d e w)->vO a b w c:=iw.mono
def mD (w:World) (K:Bool->b_):Prop:=
 iw Tryz.prog 9 [] [.one .bool] w K
theorem Jk {w K a}:mD w K->(∀b w,K b w->a b w)->mD w a:=iw.mono
def ni (c:g_) (d e:Int) (b:iq) (w:World) (K:iq->Int->b_):Prop:=
 iw Tryz.prog 10 [.pointer c,.int .i64 d,.int .i64 e,.slice b.a b.len b.cap] [.one .slice,.one (.int .i64)] w K
def BL (a b c d e:Int) (w:World) (K:iq->b_):Prop:=
 iw Tryz.prog 11 [.int .i64 a,.int .i64 b,.int .i64 c,.int .i64 d,.int .i64 e] [.one .slice] w K
theorem Yg {a b c d e w K f}:BL a b c d e w K->(∀g w,K g w->f g w)->BL a b c d e w f:=iw.mono
def jO (a:g_) (b:Int) (w:World) (K:Int->b_):Prop:=
 iw Tryz.prog 12 [.pointer a,.int .i64 b] [.one (.int .i64)] w K
theorem zO {a b w K c}:jO a b w K->(∀d w,K d w->c d w)->jO a b w c:=iw.mono
def lH (a:g_) (w:World) (K:Int->iq->iq->Int->Int->Int->iq->b_):Prop:=
 iw Tryz.prog 13 [.pointer a] [.agg [(.int .i64),.slice,.slice,(.int .i64),(.int .i64),(.int .i64),.slice]] w K
def Ho (b:iq) (w:World) (K:h_ (h_ (h_ (h_ (Int->Int->Int->Int->b_))))):Prop:=
 iw Tryz.prog 14 [.slice b.a b.len b.cap] [.agg ai_,.one (.int .i64)] w K
def Fz (a b c d e f g h i j k l m n o p:Int) (q r:iq) (s t u v x y z A B C D E F G H I J:Int) (L:iq) (w:World) (K:Bool->b_):Prop:=
 iw Tryz.prog 15 [.agg ⟨jV a b c d e f g h i j k l m n o p q r s t u v x y z A B C D E F G H I J L⟩] [.one .bool] w K
def qR (a:g_) (w:World) (K:Value->b_):Prop:=
 iw Tryz.prog 16 [.pointer a] [.one .any] w K
def vJ (a b c d e f g h i j k l m n o p:Int) (q r:iq) (s t u v x y z A B C D E F G H I J:Int) (L:iq) (w:World) (K:Int->b_):Prop:=
 iw Tryz.prog 29 [.agg ⟨jV a b c d e f g h i j k l m n o p q r s t u v x y z A B C D E F G H I J L⟩] [.one (.int .i64)] w K
theorem SX {a b c d e f g h i j k l m n o p q r s t u v x y z A B C D E F G H I J L w K M}:vJ a b c d e f g h i j k l m n o p q r s t u v x y z A B C D E F G H I J L w K->(∀N w,K N w->M N w)->vJ a b c d e f g h i j k l m n o p q r s t u v x y z A B C D E F G H I J L w M:=iw.mono
def D_ (b:iq) (c d:Int) (w:World) (K:(g_)->Int->b_):Prop:=
 iw Tryz.prog 30 [.slice b.a b.len b.cap,.int .i64 c,.int .i64 d] [.one .ptr,.one (.int .i64)] w K
theorem ZG {a b c w K d}:D_ a b c w K->(∀e f w,K e f w->d e f w)->D_ a b c w d:=iw.mono
def BN (a b:Int) (w:World) (K:(g_)->Int->b_):Prop:=
 iw Tryz.prog 31 [.int .i64 a,.int .i64 b] [.one .ptr,.one (.int .i64)] w K
theorem Yi {a b w K c}:BN a b w K->(∀d e w,K d e w->c d e w)->BN a b w c:=iw.mono
def D6 (a:Int) (w:World) (K:(g_)->Int->b_):Prop:=
 iw Tryz.prog 32 [.int .i64 a] [.one .ptr,.one (.int .i64)] w K
theorem ZF {a w K b}:D6 a w K->(∀c d w,K c d w->b c d w)->D6 a w b:=iw.mono
def yc (a:Int) (w:World) (K:(g_)->Int->b_):Prop:=
 iw Tryz.prog 33 [.int .i64 a] [.one .ptr,.one (.int .i64)] w K
theorem UF {a w K b}:yc a w K->(∀c d w,K c d w->b c d w)->yc a w b:=iw.mono
def yZ (a:Int) (w:World) (K:(g_)->Int->b_):Prop:=
 iw Tryz.prog 34 [.int .i64 a] [.one .ptr,.one (.int .i64)] w K
theorem Po {a w K b}:yZ a w K->(∀c d w,K c d w->b c d w)->yZ a w b:=iw.mono
def oq (a:g_) (b c d e f g h:Int) (w:World) (K:Int->b_):Prop:=
 iw Tryz.prog 35 [.pointer a,(.agg ⟨[.int .i64 b,.int .i64 c,.int .i64 d,.int .i64 e,.int .i64 f,.int .i64 g,.int .i64 h]⟩)] [.one (.int .i64)] w K
theorem Eb {a b c d e f g h w K i}:oq a b c d e f g h w K->(∀j w,K j w->i j w)->oq a b c d e f g h w i:=iw.mono
def yJ (b:iq) (w:World) (K:h_ (h_ (b_))):Prop:=
 iw Tryz.prog 36 [.slice b.a b.len b.cap] [.agg RG] w K
theorem Jr {a w K b}:yJ a w K->(∀c d e f g h i j k l m n o p q r w,K c d e f g h i j k l m n o p q r w->b c d e f g h i j k l m n o p q r w)->yJ a w b:=iw.mono
def qO (a:g_) (w:World) (K:Int->b_):Prop:=
 iw Tryz.prog 37 [.pointer a] [.one (.int .i64)] w K
theorem NK {a w K b}:qO a w K->(∀c w,K c w->b c w)->qO a w b:=iw.mono
def kH (a:g_) (b:Int) (w:World) (K:iq->b_):Prop:=
 iw Tryz.prog 38 [.pointer a,.int .i64 b] [.one .slice] w K
theorem oU {a b w K c}:kH a b w K->(∀d w,K d w->c d w)->kH a b w c:=iw.mono
def kD (a:g_) (w:World) (K:Bool->b_):Prop:=
 iw Tryz.prog 39 [.pointer a] [.one .bool] w K
theorem nV {a w K b}:kD a w K->(∀c w,K c w->b c w)->kD a w b:=iw.mono
def Jd (b:iq) (w:World) (K:h_ (h_ (h_ (h_ (Int->Int->b_))))):Prop:=
 iw Tryz.prog 40 [.slice b.a b.len b.cap] [.agg RH,.one (.int .i64)] w K
def zA (a:Int) (w:World) (K:h_ (h_ (b_))):Prop:=
 iw Tryz.prog 41 [.int .i64 a] [.agg RG] w K
def zB (a:g_) (b c d e f g h i j k l m n o p q r s t u v x y z A B C D E F G H I J L M N:Int) (w:World) (K:h_ (h_ (h_ (h_ (Int->Int->b_))))):Prop:=
 iw Tryz.prog 42 [.pointer a,(.agg ⟨[.int .i64 b,.int .i64 c,.int .i64 d,.int .i64 e]⟩),.agg ⟨iU f g h i j k l m n o p q r s t u v x y z A B C D E F G H I J L M N⟩] [.one (.int .i64),.agg RH] w K
def wC (a b c d e f g h i j k l m n o p q r s t u v x y z A B C D E F G H I J:Int) (w:World) (K:iq->Int->b_):Prop:=
 iw Tryz.prog 43 [.agg ⟨Nc a b c d e f g h i j k l m n o p q r s t u v x y z A B C D E F G H I J⟩] [.one .slice,.one (.int .i64)] w K
theorem Wi {a b c d e f g h i j k l m n o p q r s t u v x y z A B C D E F G H I J w K L}:wC a b c d e f g h i j k l m n o p q r s t u v x y z A B C D E F G H I J w K->(∀M N w,K M N w->L M N w)->wC a b c d e f g h i j k l m n o p q r s t u v x y z A B C D E F G H I J w L:=iw.mono
def BM (a b c d e f g h i j k l m n o p q r s t u v x y z A B C D E F G H:Int) (w:World) (K:iq->Int->b_):Prop:=
 iw Tryz.prog 44 [.agg ⟨iU a b c d e f g h i j k l m n o p q r s t u v x y z A B C D E F G H⟩] [.one .slice,.one (.int .i64)] w K
theorem Yh {a b c d e f g h i j k l m n o p q r s t u v x y z A B C D E F G H w K I}:BM a b c d e f g h i j k l m n o p q r s t u v x y z A B C D E F G H w K->(∀J L w,K J L w->I J L w)->BM a b c d e f g h i j k l m n o p q r s t u v x y z A B C D E F G H w I:=iw.mono
def oC (a:g_) (b c:Int) (w:World) (K:Int->b_):Prop:=
 iw Tryz.prog 45 [.pointer a,.int .i64 b,.int .i64 c] [.one (.int .i64)] w K
theorem Ed {a b c w K d}:oC a b c w K->(∀e w,K e w->d e w)->oC a b c w d:=iw.mono
def nH (a b:g_) (w:World) (K:b_):Prop:=
 iw Tryz.prog 46 [.pointer a,.pointer b] [] w K
theorem xB {a b w K c}:nH a b w K->(∀w,K w->c w)->nH a b w c:=iw.mono
def jR (a:g_) (w:World) (K:Bool->b_):Prop:=
 iw Tryz.prog 47 [.pointer a] [.one .bool] w K
theorem lV {a w K b}:jR a w K->(∀c w,K c w->b c w)->jR a w b:=iw.mono
def mO (a:g_) (w:World) (K:Int->b_):Prop:=
 iw Tryz.prog 48 [.pointer a] [.one (.int .i64)] w K
theorem Ee {a w K b}:mO a w K->(∀c w,K c w->b c w)->mO a w b:=iw.mono
def Bl (a:g_) (w:World) (K:Value->b_):Prop:=
 iw Tryz.prog 49 [.pointer a] [.one .any] w K
def w_ (a:g_) (w:World) (K:Value->b_):Prop:=
 iw Tryz.prog 50 [.pointer a] [.one .any] w K
def Hq (b:iq) (c:Int) (w:World) (K:h_ (h_ (h_ (h_ (Int->Int->b_))))):Prop:=
 iw Tryz.prog 51 [.slice b.a b.len b.cap,.int .u8 c] [.agg RH,.one (.int .i64)] w K
def D5 (b:iq) (c d:Int) (w:World) (K:Int->Int->b_):Prop:=
 iw Tryz.prog 52 [.slice b.a b.len b.cap,.int .i64 c,.int .i64 d] [.one (.int .i64),.one (.int .i64)] w K
theorem QF {a b c w K d}:D5 a b c w K->(∀e f w,K e f w->d e f w)->D5 a b c w d:=iw.mono
def xQ (a b c d e f g h i j k l m n o p:Int) (q r:iq) (s t u v x y z A B C D E F G H I J:Int) (L:iq) (w:World) (K:Bool->b_):Prop:=
 iw Tryz.prog 53 [.agg ⟨jV a b c d e f g h i j k l m n o p q r s t u v x y z A B C D E F G H I J L⟩] [.one .bool] w K
theorem Uz {a b c d e f g h i j k l m n o p q r s t u v x y z A B C D E F G H I J L w K M}:xQ a b c d e f g h i j k l m n o p q r s t u v x y z A B C D E F G H I J L w K->(∀N w,K N w->M N w)->xQ a b c d e f g h i j k l m n o p q r s t u v x y z A B C D E F G H I J L w M:=iw.mono
def uN (a b c d e f g h i j k l m n o p:Int) (q r:iq) (s t u v x y z A B C D E F G H I J:Int) (L:iq) (w:World) (K:Int->b_):Prop:=
 iw Tryz.prog 54 [.agg ⟨jV a b c d e f g h i j k l m n o p q r s t u v x y z A B C D E F G H I J L⟩] [.one (.int .i64)] w K
theorem Js {a b c d e f g h i j k l m n o p q r s t u v x y z A B C D E F G H I J L w K M}:uN a b c d e f g h i j k l m n o p q r s t u v x y z A B C D E F G H I J L w K->(∀N w,K N w->M N w)->uN a b c d e f g h i j k l m n o p q r s t u v x y z A B C D E F G H I J L w M:=iw.mono
abbrev zY:FuncId:=55
def Hr (a:Value) (b:Addr) (w:World) (K:b_):Prop:=
 iw Tryz.prog 55 [a,(.pointer (some b))] [] w K
def jd (b:iq) (c:Value) (w:World) (K:b_):Prop:=
 iw Tryz.prog 56 [.slice b.a b.len b.cap,c] [] w K
theorem uT {a b w K c}:jd a b w K->(∀w,K w->c w)->jd a b w c:=iw.mono
abbrev Du:FuncId:=57
def Ht (a b:g_) (w:World) (K:Int->b_):Prop:=
 iw Tryz.prog 57 [.pointer a,.pointer b] [.one (.int .i64)] w K
def Hw (a:g_) (b:Int) (w:World) (K:Bool->b_):Prop:=
 iw Tryz.prog 69 [.pointer a,.int .i64 b] [.one .bool] w K
def kG (a:g_) (b:Int) (w:World) (K:b_):Prop:=
 iw Tryz.prog 71 [.pointer a,.int .i64 b] [] w K
theorem HY {a b w K c}:kG a b w K->(∀w,K w->c w)->kG a b w c:=iw.mono
def ng (a:g_) (b:Int) (w:World) (K:b_):Prop:=
 iw Tryz.prog 76 [.pointer a,.int .i64 b] [] w K
theorem Cb {a b w K c}:ng a b w K->(∀w,K w->c w)->ng a b w c:=iw.mono
def uj (a b c d e f g h i j k l m n o p:Int) (q r:iq) (s t u v x y z A B C D E F G H I J:Int) (L:iq) (w:World) (K:iq->b_):Prop:=
 iw Tryz.prog 79 [.agg ⟨jV a b c d e f g h i j k l m n o p q r s t u v x y z A B C D E F G H I J L⟩] [.one .slice] w K
theorem QG {a b c d e f g h i j k l m n o p q r s t u v x y z A B C D E F G H I J L w K M}:uj a b c d e f g h i j k l m n o p q r s t u v x y z A B C D E F G H I J L w K->(∀N w,K N w->M N w)->uj a b c d e f g h i j k l m n o p q r s t u v x y z A B C D E F G H I J L w M:=iw.mono
def kJ (a b c:Int) (w:World) (K:Bool->b_):Prop:=
 iw Tryz.prog 80 [(.agg ⟨[.int .i64 a,.int .i64 b,.int .i64 c]⟩)] [.one .bool] w K
theorem qm {a b c w K d}:kJ a b c w K->(∀e w,K e w->d e w)->kJ a b c w d:=iw.mono
def vN (a:Int) (w:World) (K:Bool->b_):Prop:=
 iw Tryz.prog 81 [.int .i64 a] [.one .bool] w K
theorem S_ {a w K b}:vN a w K->(∀c w,K c w->b c w)->vN a w b:=iw.mono
def vK (a b c d e f g h i j k l m n o p:Int) (q r:iq) (s t u v x y z A B C D E F G H I J:Int) (L:iq) (w:World) (K:Bool->b_):Prop:=
 iw Tryz.prog 82 [.agg ⟨jV a b c d e f g h i j k l m n o p q r s t u v x y z A B C D E F G H I J L⟩] [.one .bool] w K
theorem SY {a b c d e f g h i j k l m n o p q r s t u v x y z A B C D E F G H I J L w K M}:vK a b c d e f g h i j k l m n o p q r s t u v x y z A B C D E F G H I J L w K->(∀N w,K N w->M N w)->vK a b c d e f g h i j k l m n o p q r s t u v x y z A B C D E F G H I J L w M:=iw.mono
def rQ (a b c d e f g h i j k l m n o p:Int) (q r:iq) (s t u v x y z A B C D E F G H I J:Int) (L:iq) (w:World) (K:Bool->b_):Prop:=
 iw Tryz.prog 83 [.agg ⟨jV a b c d e f g h i j k l m n o p q r s t u v x y z A B C D E F G H I J L⟩] [.one .bool] w K
theorem O_ {a b c d e f g h i j k l m n o p q r s t u v x y z A B C D E F G H I J L w K M}:rQ a b c d e f g h i j k l m n o p q r s t u v x y z A B C D E F G H I J L w K->(∀N w,K N w->M N w)->rQ a b c d e f g h i j k l m n o p q r s t u v x y z A B C D E F G H I J L w M:=iw.mono
def qK (a:Int) (w:World) (K:Bool->b_):Prop:=
 iw Tryz.prog 84 [.int .i64 a] [.one .bool] w K
theorem zN {a w K b}:qK a w K->(∀c w,K c w->b c w)->qK a w b:=iw.mono
def jF (b:iq) (c:Int) (w:World) (K:Bool->b_):Prop:=
 iw Tryz.prog 85 [.slice b.a b.len b.cap,.int .i64 c] [.one .bool] w K
theorem mP {a b w K c}:jF a b w K->(∀d w,K d w->c d w)->jF a b w c:=iw.mono
def kS (b:iq) (w:World) (K:iq->b_):Prop:=
 iw Tryz.prog 86 [.slice b.a b.len b.cap] [.one .slice] w K
theorem zf {a w K b}:kS a w K->(∀c w,K c w->b c w)->kS a w b:=iw.mono
def yI (a:Int) (w:World) (K:(g_)->Int->b_):Prop:=
 iw Tryz.prog 87 [.int .i64 a] [.one .ptr,.one (.int .i64)] w K
theorem Jj {a w K b}:yI a w K->(∀c d w,K c d w->b c d w)->yI a w b:=iw.mono
def qQ (a:g_) (b c d e f g h:Int) (w:World) (K:Bool->b_):Prop:=
 iw Tryz.prog 88 [.pointer a,(.agg ⟨[.int .i64 b,.int .i64 c,.int .i64 d,.int .i64 e,.int .i64 f,.int .i64 g,.int .i64 h]⟩)] [.one .bool] w K
theorem NM {a b c d e f g h w K i}:qQ a b c d e f g h w K->(∀j w,K j w->i j w)->qQ a b c d e f g h w i:=iw.mono
def pF (a:g_) (b c d e:Int) (w:World) (K:Int->Bool->b_):Prop:=
 iw Tryz.prog 89 [.pointer a,(.agg ⟨[.int .i64 b,.int .i64 c,.int .i64 d,.int .i64 e]⟩)] [.one (.int .i64),.one .bool] w K
theorem CV {a b c d e w K f}:pF a b c d e w K->(∀g h w,K g h w->f g h w)->pF a b c d e w f:=iw.mono
def rO (a:g_) (b c d:Int) (w:World) (K:Int->Bool->b_):Prop:=
 iw Tryz.prog 90 [.pointer a,(.agg ⟨[.int .i64 b,.int .i64 c,.int .i64 d]⟩)] [.one (.int .i64),.one .bool] w K
theorem Ip {a b c d w K e}:rO a b c d w K->(∀f g w,K f g w->e f g w)->rO a b c d w e:=iw.mono
def oN (a:g_) (b:Int) (w:World) (K:Int->b_):Prop:=
 iw Tryz.prog 91 [.pointer a,.int .i64 b] [.one (.int .i64)] w K
theorem Jq {a b w K c}:oN a b w K->(∀d w,K d w->c d w)->oN a b w c:=iw.mono
def pI (a:g_) (w:World) (K:Bool->b_):Prop:=
 iw Tryz.prog 92 [.pointer a] [.one .bool] w K
theorem LH {a w K b}:pI a w K->(∀c w,K c w->b c w)->pI a w b:=iw.mono
def pK (a:g_) (b:Int) (w:World) (K:Int->b_):Prop:=
 iw Tryz.prog 93 [.pointer a,.int .i64 b] [.one (.int .i64)] w K
theorem LK {a b w K c}:pK a b w K->(∀d w,K d w->c d w)->pK a b w c:=iw.mono
def rZ (a:g_) (b c d:Int) (w:World) (K:Int->b_):Prop:=
 iw Tryz.prog 94 [.pointer a,(.agg ⟨[.int .i64 b,.int .i64 c,.int .i64 d]⟩)] [.one (.int .i64)] w K
theorem Pj {a b c d w K e}:rZ a b c d w K->(∀f w,K f w->e f w)->rZ a b c d w e:=iw.mono
def xK (a:g_) (b c d e f g h:Int) (i:Bool) (w:World) (K:Int->Int->b_):Prop:=
 iw Tryz.prog 95 [.pointer a,(.agg ⟨[.int .i64 b,.int .i64 c,.int .i64 d,.int .i64 e,.int .i64 f,.int .i64 g,.int .i64 h,.bool i]⟩)] [.one (.int .i64),.one (.int .i64)] w K
theorem Us {a b c d e f g h i w K j}:xK a b c d e f g h i w K->(∀k l w,K k l w->j k l w)->xK a b c d e f g h i w j:=iw.mono
def kE (a:g_) (w:World) (K:Bool->b_):Prop:=
 iw Tryz.prog 96 [.pointer a] [.one .bool] w K
theorem nX {a w K b}:kE a w K->(∀c w,K c w->b c w)->kE a w b:=iw.mono
def qh (a:g_) (w:World) (K:Int->Bool->b_):Prop:=
 iw Tryz.prog 97 [.pointer a] [.one (.int .i64),.one .bool] w K
theorem LY {a w K b}:qh a w K->(∀c d w,K c d w->b c d w)->qh a w b:=iw.mono
def lU (a:g_) (b:Int) (w:World) (K:b_):Prop:=
 iw Tryz.prog 98 [.pointer a,.int .i64 b] [] w K
theorem Ap {a b w K c}:lU a b w K->(∀w,K w->c w)->lU a b w c:=iw.mono
def rC (a:g_) (w:World) (K:iq->b_):Prop:=
 iw Tryz.prog 99 [.pointer a] [.one .slice] w K
theorem NT {a w K b}:rC a w K->(∀c w,K c w->b c w)->rC a w b:=iw.mono
def Dk (w:World) (K:h_ (h_ (b_))):Prop:=
 iw Tryz.prog 100 [] [.agg RG] w K
def BH (b:iq) (c d:Int) (w:World) (K:iq->b_):Prop:=
 iw Tryz.prog 101 [.slice b.a b.len b.cap,.int .i64 c,.int .i64 d] [.one .slice] w K
theorem KW {a b c w K d}:BH a b c w K->(∀e w,K e w->d e w)->BH a b c w d:=iw.mono
def wZ (a b:g_) (c d e f g h i j k l m n o p q r s t u v x y z A B C D E F G H I J L M N:Int) (w:World) (K:h_ (h_ (h_ (h_ (Int->Int->b_))))):Prop:=
 iw Tryz.prog 102 [.pointer a,.pointer b,(.agg ⟨[.int .i64 c,.int .i64 d,.int .i64 e]⟩),.agg ⟨iU f g h i j k l m n o p q r s t u v x y z A B C D E F G H I J L M N⟩] [.one (.int .i64),.agg RH] w K
def wY (a:g_) (b c d e f g h i j k l m n o p q r s t u v x y z A B C D E F G H I J L M N O P Q:Int) (w:World) (K:h_ (h_ (h_ (h_ (Int->Int->b_))))):Prop:=
 iw Tryz.prog 103 [.pointer a,(.agg ⟨[.int .i64 b,.int .i64 c,.int .i64 d,.int .i64 e]⟩),(.agg ⟨[.int .i64 f,.int .i64 g,.int .i64 h]⟩),.agg ⟨iU i j k l m n o p q r s t u v x y z A B C D E F G H I J L M N O P Q⟩] [.one (.int .i64),.agg RH] w K
def uM (a b c d e f g h i j k l m n o p q r s t u v x y z A B C D E F G H:Int) (w:World) (K:Bool->b_):Prop:=
 iw Tryz.prog 104 [.agg ⟨iU a b c d e f g h i j k l m n o p q r s t u v x y z A B C D E F G H⟩] [.one .bool] w K
theorem Jo {a b c d e f g h i j k l m n o p q r s t u v x y z A B C D E F G H w K I}:uM a b c d e f g h i j k l m n o p q r s t u v x y z A B C D E F G H w K->(∀J w,K J w->I J w)->uM a b c d e f g h i j k l m n o p q r s t u v x y z A B C D E F G H w I:=iw.mono
def DK (b:iq) (w:World) (K:Bool->b_):Prop:=
 iw Tryz.prog 105 [.slice b.a b.len b.cap] [.one .bool] w K
theorem Ux {a w K b}:DK a w K->(∀c w,K c w->b c w)->DK a w b:=iw.mono
def wE (b c:iq) (w:World) (K:iq->b_):Prop:=
 iw Tryz.prog 106 [.slice b.a b.len b.cap,.slice c.a c.len c.cap] [.one .slice] w K
theorem Ec {a b w K c}:wE a b w K->(∀d w,K d w->c d w)->wE a b w c:=iw.mono
def rX (c d e f g h i j k l m n o p q r s t u v x y z A B C D E F G H I J:Int) (b:iq) (w:World) (K:iq->b_):Prop:=
 iw Tryz.prog 107 [.agg ⟨iU c d e f g h i j k l m n o p q r s t u v x y z A B C D E F G H I J⟩,.slice b.a b.len b.cap] [.one .slice] w K
theorem Iq {a b c d e f g h i j k l m n o p q r s t u v x y z A B C D E F G H I w K J}:rX a b c d e f g h i j k l m n o p q r s t u v x y z A B C D E F G H I w K->(∀L w,K L w->J L w)->rX a b c d e f g h i j k l m n o p q r s t u v x y z A B C D E F G H I w J:=iw.mono
def nO (a:g_) (b c d:Int) (w:World) (K:b_):Prop:=
 iw Tryz.prog 108 [.pointer a,(.agg ⟨[.int .i64 b,.int .i64 c,.int .i64 d]⟩)] [] w K
theorem Df {a b c d w K e}:nO a b c d w K->(∀w,K w->e w)->nO a b c d w e:=iw.mono
def oD (a:g_) (b c d:Int) (w:World) (K:b_):Prop:=
 iw Tryz.prog 109 [.pointer a,(.agg ⟨[.int .i64 b,.int .i64 c,.int .i64 d]⟩)] [] w K
theorem Ef {a b c d w K e}:oD a b c d w K->(∀w,K w->e w)->oD a b c d w e:=iw.mono
def oM (a:g_) (b c d e:Int) (w:World) (K:Int->b_):Prop:=
 iw Tryz.prog 110 [.pointer a,(.agg ⟨[.int .i64 b,.int .i64 c,.int .i64 d,.int .i64 e]⟩)] [.one (.int .i64)] w K
theorem Jm {a b c d e w K f}:oM a b c d e w K->(∀g w,K g w->f g w)->oM a b c d e w f:=iw.mono
def lS (a:g_) (b:Int) (w:World) (K:Bool->b_):Prop:=
 iw Tryz.prog 111 [.pointer a,.int .i64 b] [.one .bool] w K
theorem Am {a b w K c}:lS a b w K->(∀d w,K d w->c d w)->lS a b w c:=iw.mono
abbrev Iu:FuncId:=112
def SL (a:Value) (b:Addr) (w:World) (K:b_):Prop:=
 iw Tryz.prog 112 [a,(.pointer (some b))] [] w K
def kP (a:g_) (w:World) (K:Bool->b_):Prop:=
 iw Tryz.prog 113 [.pointer a] [.one .bool] w K
theorem pq {a w K b}:kP a w K->(∀c w,K c w->b c w)->kP a w b:=iw.mono
abbrev Aq:FuncId:=114
def IC (a:Value) (b:Addr) (w:World) (K:b_):Prop:=
 iw Tryz.prog 114 [a,(.pointer (some b))] [] w K
def kY (a:g_) (w:World) (K:Bool->b_):Prop:=
 iw Tryz.prog 115 [.pointer a] [.one .bool] w K
theorem zS {a w K b}:kY a w K->(∀c w,K c w->b c w)->kY a w b:=iw.mono
def Je (a b c d e f g h i j k l m n o p:Int) (w:World) (K:Int->Bool->b_):Prop:=
 iw Tryz.prog 116 [.agg ⟨jH a b c d e f g h i j k l m n o p⟩] [.one (.int .i64),.one .bool] w K
abbrev YM:FuncId:=117
def Ya (a b:Int) (c:Addr) (w:World) (K:Int->b_):Prop:=
 iw Tryz.prog 117 [.int .i64 a,.int .i64 b,(.pointer (some c))] [.one (.int .i64)] w K
def BJ (b:iq) (c d:Int) (w:World) (K:iq->Int->b_):Prop:=
 iw Tryz.prog 118 [.slice b.a b.len b.cap,.int .i64 c,.int .i64 d] [.one .slice,.one (.int .i64)] w K
theorem Ye {a b c w K d}:BJ a b c w K->(∀e f w,K e f w->d e f w)->BJ a b c w d:=iw.mono
def um (a b c d e f g h i j k l m n o p:Int) (q r:iq) (s t u v x y z A B C D E F G H I J:Int) (L:iq) (w:World) (K:Bool->b_):Prop:=
 iw Tryz.prog 119 [.agg ⟨jV a b c d e f g h i j k l m n o p q r s t u v x y z A B C D E F G H I J L⟩] [.one .bool] w K
theorem QH {a b c d e f g h i j k l m n o p q r s t u v x y z A B C D E F G H I J L w K M}:um a b c d e f g h i j k l m n o p q r s t u v x y z A B C D E F G H I J L w K->(∀N w,K N w->M N w)->um a b c d e f g h i j k l m n o p q r s t u v x y z A B C D E F G H I J L w M:=iw.mono
def xX (a b c d e f g h i j k l m n o p:Int) (q r:iq) (s t u v x y z A B C D E F G H I J:Int) (L:iq) (w:World) (K:Bool->b_):Prop:=
 iw Tryz.prog 120 [.agg ⟨jV a b c d e f g h i j k l m n o p q r s t u v x y z A B C D E F G H I J L⟩] [.one .bool] w K
theorem UC {a b c d e f g h i j k l m n o p q r s t u v x y z A B C D E F G H I J L w K M}:xX a b c d e f g h i j k l m n o p q r s t u v x y z A B C D E F G H I J L w K->(∀N w,K N w->M N w)->xX a b c d e f g h i j k l m n o p q r s t u v x y z A B C D E F G H I J L w M:=iw.mono
def xY (a b c d e f g h i j k l m n o p:Int) (q r:iq) (s t u v x y z A B C D E F G H I J:Int) (L:iq) (w:World) (K:Bool->b_):Prop:=
 iw Tryz.prog 121 [.agg ⟨jV a b c d e f g h i j k l m n o p q r s t u v x y z A B C D E F G H I J L⟩] [.one .bool] w K
theorem UD {a b c d e f g h i j k l m n o p q r s t u v x y z A B C D E F G H I J L w K M}:xY a b c d e f g h i j k l m n o p q r s t u v x y z A B C D E F G H I J L w K->(∀N w,K N w->M N w)->xY a b c d e f g h i j k l m n o p q r s t u v x y z A B C D E F G H I J L w M:=iw.mono
def jf (b:iq) (c d e:Int) (f:Value) (w:World) (K:b_):Prop:=
 iw Tryz.prog 122 [.slice b.a b.len b.cap,.int .i64 c,.int .i64 d,.int .i64 e,f] [] w K
theorem yw {a b c d e w K f}:jf a b c d e w K->(∀w,K w->f w)->jf a b c d e w f:=iw.mono
def oI (a:Int) (w:World) (K:Int->b_):Prop:=
 iw Tryz.prog 123 [.int .u64 a] [.one (.int .i64)] w K
theorem Gi {a w K b}:oI a w K->(∀c w,K c w->b c w)->oI a w b:=iw.mono
def zy (b:iq) (w:World) (K:Int->b_):Prop:=
 iw Tryz.prog 124 [.slice b.a b.len b.cap] [.one (.int .i64)] w K
theorem V_ {a w K b}:zy a w K->(∀c w,K c w->b c w)->zy a w b:=iw.mono
def jX (a b:Int) (w:World) (K:Int->b_):Prop:=
 iw Tryz.prog 125 [.int .i64 a,.int .i64 b] [.one (.int .i64)] w K
theorem nR {a b w K c}:jX a b w K->(∀d w,K d w->c d w)->jX a b w c:=iw.mono
def qU (a:Int) (w:World) (K:Bool->b_):Prop:=
 iw Tryz.prog 126 [.int .i64 a] [.one .bool] w K
theorem Bo {a w K b}:qU a w K->(∀c w,K c w->b c w)->qU a w b:=iw.mono
def mZ (a:g_) (b:ByteArray) (w:World) (K:Bool->b_):Prop:=
 iw Tryz.prog 144 [.pointer a,.string b] [.one .bool] w K
theorem B_ {a b w K c}:mZ a b w K->(∀d w,K d w->c d w)->mZ a b w c:=iw.mono
def uI (a:g_) (b:Int) (w:World) (K:Int->Int->Int->Int->Int->Int->Int->Bool->Bool->b_):Prop:=
 iw Tryz.prog 148 [.pointer a,.int .i64 b] [.agg [(.int .i64),(.int .i64),(.int .i64),(.int .i64),(.int .i64),(.int .i64),(.int .i64),.bool],.one .bool] w K
theorem Jh {a b w K c}:uI a b w K->(∀d e f g h i j k l w,K d e f g h i j k l w->c d e f g h i j k l w)->uI a b w c:=iw.mono
def qg (a:g_) (b:Int) (w:World) (K:Value->b_):Prop:=
 iw Tryz.prog 149 [.pointer a,.int .i64 b] [.one .any] w K
theorem LX {a b w K c}:qg a b w K->(∀d w,K d w->c d w)->qg a b w c:=iw.mono
def rP (a:g_) (b:Int) (w:World) (K:Bool->b_):Prop:=
 iw Tryz.prog 150 [.pointer a,.int .i64 b] [.one .bool] w K
theorem O9 {a b w K c}:rP a b w K->(∀d w,K d w->c d w)->rP a b w c:=iw.mono
def rY (a:g_) (b c d:Int) (w:World) (K:Bool->b_):Prop:=
 iw Tryz.prog 151 [.pointer a,(.agg ⟨[.int .i64 b,.int .i64 c,.int .i64 d]⟩)] [.one .bool] w K
theorem Ph {a b c d w K e}:rY a b c d w K->(∀f w,K f w->e f w)->rY a b c d w e:=iw.mono
def pJ (a:g_) (b:Int) (w:World) (K:Int->b_):Prop:=
 iw Tryz.prog 152 [.pointer a,.int .i64 b] [.one (.int .i64)] w K
theorem LJ {a b w K c}:pJ a b w K->(∀d w,K d w->c d w)->pJ a b w c:=iw.mono
def Jb (a:g_) (b:Int) (w:World) (K:b_):Prop:=
 iw Tryz.prog 158 [.pointer a,.int .i64 b] [] w K
abbrev QW:FuncId:=159
def QB (a b c d e f g h i j k l m n o p:Int) (w:World) (K:Bool->b_):Prop:=
 iw Tryz.prog 159 [.agg ⟨jH a b c d e f g h i j k l m n o p⟩] [.one .bool] w K
def AB (a b c d e f g h i j k l m n o p:Int) (w:World) (K:Bool->b_):Prop:=
 iw Tryz.prog 160 [.agg ⟨jH a b c d e f g h i j k l m n o p⟩] [.one .bool] w K
theorem RU {a b c d e f g h i j k l m n o p w K q}:AB a b c d e f g h i j k l m n o p w K->(∀r w,K r w->q r w)->AB a b c d e f g h i j k l m n o p w q:=iw.mono
abbrev QY:FuncId:=161
def QC (a:Int) (w:World) (K:Bool->b_):Prop:=
 iw Tryz.prog 161 [.int .i64 a] [.one .bool] w K
abbrev QZ:FuncId:=162
def QD (a b c d e f g:Int) (h:Addr) (w:World) (K:Bool->b_):Prop:=
 iw Tryz.prog 162 [(.agg ⟨[.int .i64 a,.int .i64 b,.int .i64 c,.int .i64 d,.int .i64 e,.int .i64 f,.int .i64 g]⟩),(.pointer (some h))] [.one .bool] w K
def xO (a b c d e f g h i j k l m n o p:Int) (q r:iq) (s t u v x y z A B C D E F G H I J:Int) (L:iq) (M N O P Q R S:Int) (w:World) (K:Bool->b_):Prop:=
 iw Tryz.prog 163 [.agg ⟨jV a b c d e f g h i j k l m n o p q r s t u v x y z A B C D E F G H I J L⟩,(.agg ⟨[.int .i64 M,.int .i64 N,.int .i64 O,.int .i64 P,.int .i64 Q,.int .i64 R,.int .i64 S]⟩)] [.one .bool] w K
theorem Uw {a b c d e f g h i j k l m n o p q r s t u v x y z A B C D E F G H I J L M N O P Q R S w K T}:xO a b c d e f g h i j k l m n o p q r s t u v x y z A B C D E F G H I J L M N O P Q R S w K->(∀U w,K U w->T U w)->xO a b c d e f g h i j k l m n o p q r s t u v x y z A B C D E F G H I J L M N O P Q R S w T:=iw.mono
def jE (b:iq) (c:Value) (w:World) (K:Bool->b_):Prop:=
 iw Tryz.prog 164 [.slice b.a b.len b.cap,c] [.one .bool] w K
theorem vW {a b w K c}:jE a b w K->(∀d w,K d w->c d w)->jE a b w c:=iw.mono
def jQ (b:iq) (c:Value) (w:World) (K:Bool->b_):Prop:=
 iw Tryz.prog 165 [.slice b.a b.len b.cap,c] [.one .bool] w K
theorem sH {a b w K c}:jQ a b w K->(∀d w,K d w->c d w)->jQ a b w c:=iw.mono
def jh (b:iq) (c:Value) (w:World) (K:Bool->b_):Prop:=
 iw Tryz.prog 166 [.slice b.a b.len b.cap,c] [.one .bool] w K
theorem sG {a b w K c}:jh a b w K->(∀d w,K d w->c d w)->jh a b w c:=iw.mono
def jI (b:iq) (w:World) (K:iq->b_):Prop:=
 iw Tryz.prog 167 [.slice b.a b.len b.cap] [.one .slice] w K
theorem rG {a w K b}:jI a w K->(∀c w,K c w->b c w)->jI a w b:=iw.mono
abbrev Oc:FuncId:=168
def D7 (a b c d e f g:Int) (w:World) (K:Int->Int->Int->Int->b_):Prop:=
 iw Tryz.prog 168 [(.agg ⟨[.int .i64 a,.int .i64 b,.int .i64 c,.int .i64 d,.int .i64 e,.int .i64 f,.int .i64 g]⟩)] [.agg [(.int .i64),(.int .i64),(.int .i64),(.int .i64)]] w K
abbrev Oe:FuncId:=169
def D8 (a b c d e f g:Int) (w:World) (K:Int->Int->Int->b_):Prop:=
 iw Tryz.prog 169 [(.agg ⟨[.int .i64 a,.int .i64 b,.int .i64 c,.int .i64 d,.int .i64 e,.int .i64 f,.int .i64 g]⟩)] [.agg [(.int .i64),(.int .i64),(.int .i64)]] w K
def mF (a:Value) (w:World) (K:Bool->b_):Prop:=
 iw Tryz.prog 170 [a] [.one .bool] w K
theorem Gh {a w K b}:mF a w K->(∀c w,K c w->b c w)->mF a w b:=iw.mono
def jY (b:iq) (c:Value) (w:World) (K:Value->b_):Prop:=
 iw Tryz.prog 171 [.slice b.a b.len b.cap,c] [.one .any] w K
theorem AP {a b w K c}:jY a b w K->(∀d w,K d w->c d w)->jY a b w c:=iw.mono
abbrev Gy:FuncId:=172
def yU (a b c d e f g h i j k l m n o p:Int) (w:World) (K:h_ (h_ (b_))):Prop:=
 iw Tryz.prog 172 [.agg ⟨jH a b c d e f g h i j k l m n o p⟩] [.agg RG] w K
def pG (a:Value) (w:World) (K:Bool->b_):Prop:=
 iw Tryz.prog 173 [a] [.one .bool] w K
theorem LG {a w K b}:pG a w K->(∀c w,K c w->b c w)->pG a w b:=iw.mono
def nG (b:iq) (c:Value) (w:World) (K:Value->b_):Prop:=
 iw Tryz.prog 174 [.slice b.a b.len b.cap,c] [.one .any] w K
theorem Hy {a b w K c}:nG a b w K->(∀d w,K d w->c d w)->nG a b w c:=iw.mono
abbrev LZ:FuncId:=175
def Ls (a:Int) (w:World) (K:Int->b_):Prop:=
 iw Tryz.prog 175 [.int .i64 a] [.one (.int .i64)] w K
def kZ (a:Value) (w:World) (K:Bool->b_):Prop:=
 iw Tryz.prog 176 [a] [.one .bool] w K
theorem Ez {a w K b}:kZ a w K->(∀c w,K c w->b c w)->kZ a w b:=iw.mono
def jK (b:iq) (c:Value) (w:World) (K:Value->b_):Prop:=
 iw Tryz.prog 177 [.slice b.a b.len b.cap,c] [.one .any] w K
theorem yh {a b w K c}:jK a b w K->(∀d w,K d w->c d w)->jK a b w c:=iw.mono
def lg (a:Value) (w:World) (K:Bool->b_):Prop:=
 iw Tryz.prog 178 [a] [.one .bool] w K
theorem EC {a w K b}:lg a w K->(∀c w,K c w->b c w)->lg a w b:=iw.mono
def jL (b:iq) (c:Value) (w:World) (K:Value->b_):Prop:=
 iw Tryz.prog 179 [.slice b.a b.len b.cap,c] [.one .any] w K
theorem yj {a b w K c}:jL a b w K->(∀d w,K d w->c d w)->jL a b w c:=iw.mono
abbrev Og:FuncId:=180
def ND (a:Int) (b:Addr) (w:World) (K:Bool->b_):Prop:=
 iw Tryz.prog 180 [.int .i64 a,(.pointer (some b))] [.one .bool] w K
def wB (a:Int) (w:World) (K:Bool->b_):Prop:=
 iw Tryz.prog 181 [.int .i64 a] [.one .bool] w K
theorem FD {a w K b}:wB a w K->(∀c w,K c w->b c w)->wB a w b:=iw.mono
def Hl (c:Int) (b:iq) (w:World) (K:Bool->b_):Prop:=
 iw Tryz.prog 182 [.int .i64 c,.slice b.a b.len b.cap] [.one .bool] w K
theorem RS {a0 a1 w K K'}:Hl a0 a1 w K->(∀x0 w,K x0 w->K' x0 w)->Hl a0 a1 w K':=iw.mono
def mM (b:iq) (c:Int) (w:World) (K:Int->b_):Prop:=
 iw Tryz.prog 183 [.slice b.a b.len b.cap,.int .i64 c] [.one (.int .i64)] w K
theorem Gs {a b w K c}:mM a b w K->(∀d w,K d w->c d w)->mM a b w c:=iw.mono
def qG (a:g_) (b:Int) (w:World) (K:Bool->b_):Prop:=
 iw Tryz.prog 184 [.pointer a,.int .i64 b] [.one .bool] w K
theorem Gl {a b w K c}:qG a b w K->(∀d w,K d w->c d w)->qG a b w c:=iw.mono
def yV (a:Int) (w:World) (K:Bool->b_):Prop:=
 iw Tryz.prog 185 [.int .i64 a] [.one .bool] w K
theorem Pg {a w K b}:yV a w K->(∀c w,K c w->b c w)->yV a w b:=iw.mono
def mG (a:g_) (b:Int) (w:World) (K:Bool->b_):Prop:=
 iw Tryz.prog 186 [.pointer a,.int .i64 b] [.one .bool] w K
theorem Gj {a b w K c}:mG a b w K->(∀d w,K d w->c d w)->mG a b w c:=iw.mono
def o8 (a:g_) (b:ByteArray) (w:World) (K:Int->Bool->b_):Prop:=
 iw Tryz.prog 187 [.pointer a,.string b] [.one (.int .i64),.one .bool] w K
theorem EY {a b w K c}:o8 a b w K->(∀d e w,K d e w->c d e w)->o8 a b w c:=iw.mono
def oG (a b c d:Int) (w:World) (K:ByteArray->b_):Prop:=
 iw Tryz.prog 188 [(.agg ⟨[.int .i64 a,.int .i64 b,.int .i64 c,.int .i64 d]⟩)] [.one .str] w K
theorem AL {a b c d w K e}:oG a b c d w K->(∀f w,K f w->e f w)->oG a b c d w e:=iw.mono
def oH (a b c:Int) (w:World) (K:ByteArray->b_):Prop:=
 iw Tryz.prog 189 [(.agg ⟨[.int .i64 a,.int .i64 b,.int .i64 c]⟩)] [.one .str] w K
theorem AO {a b c w K d}:oH a b c w K->(∀e w,K e w->d e w)->oH a b c w d:=iw.mono
def nK (a:g_) (b:Int) (w:World) (K:(g_)->Int->b_):Prop:=
 iw Tryz.prog 190 [.pointer a,.int .i64 b] [.one .ptr,.one (.int .i64)] w K
theorem zQ {a b w K c}:nK a b w K->(∀d e w,K d e w->c d e w)->nK a b w c:=iw.mono
def xM (a:g_) (w:World) (K:Int->b_):Prop:=
 iw Tryz.prog 191 [.pointer a] [.one (.int .i64)] w K
theorem Ut {a w K b}:xM a w K->(∀c w,K c w->b c w)->xM a w b:=iw.mono
def pO (a b:Int) (w:World) (K:Bool->b_):Prop:=
 iw Tryz.prog 192 [(.agg ⟨[.int .i64 a,.int .i64 b]⟩)] [.one .bool] w K
theorem LM {a b w K c}:pO a b w K->(∀d w,K d w->c d w)->pO a b w c:=iw.mono
def mJ (a:g_) (w:World) (K:Bool->b_):Prop:=
 iw Tryz.prog 193 [.pointer a] [.one .bool] w K
theorem yN {a w K b}:mJ a w K->(∀c w,K c w->b c w)->mJ a w b:=iw.mono
def zC (a:Int) (w:World) (K:Bool->b_):Prop:=
 iw Tryz.prog 194 [.int .i64 a] [.one .bool] w K
theorem Wj {a w K b}:zC a w K->(∀c w,K c w->b c w)->zC a w b:=iw.mono
def vI (a:g_) (w:World) (K:Int->Bool->b_):Prop:=
 iw Tryz.prog 195 [.pointer a] [.one (.int .i64),.one .bool] w K
theorem SQ {a w K b}:vI a w K->(∀c d w,K c d w->b c d w)->vI a w b:=iw.mono
def o9 (a:g_) (b:ByteArray) (c:Int) (w:World) (K:Int->b_):Prop:=
 iw Tryz.prog 196 [.pointer a,.string b,.int .i64 c] [.one (.int .i64)] w K
theorem EZ {a b c w K d}:o9 a b c w K->(∀e w,K e w->d e w)->o9 a b c w d:=iw.mono
def jy (b:iq) (c:Value) (w:World) (K:Int->Int->Int->b_):Prop:=
 iw Tryz.prog 197 [.slice b.a b.len b.cap,c] [.agg [(.int .i64),(.int .i64),(.int .i64)]] w K
theorem uy {a b w K c}:jy a b w K->(∀d e f w,K d e f w->c d e f w)->jy a b w c:=iw.mono
abbrev JM:FuncId:=198
def BX (a b c d e f:Int) (w:World) (K:Int->b_):Prop:=
 iw Tryz.prog 198 [(.agg ⟨[.int .i64 a,.int .i64 b,.int .i64 c]⟩),(.agg ⟨[.int .i64 d,.int .i64 e,.int .i64 f]⟩)] [.one (.int .i64)] w K
def uO (a b:Int) (w:World) (K:Int->b_):Prop:=
 iw Tryz.prog 199 [.int .i64 a,.int .i64 b] [.one (.int .i64)] w K
theorem Jw {a b w K c}:uO a b w K->(∀d w,K d w->c d w)->uO a b w c:=iw.mono
def lI (a:g_) (b:Int) (w:World) (K:(g_)->b_):Prop:=
 iw Tryz.prog 200 [.pointer a,.int .i64 b] [.one .ptr] w K
theorem xG {a b w K c}:lI a b w K->(∀d w,K d w->c d w)->lI a b w c:=iw.mono
def iP (b:iq) (c:Value) (w:World) (K:iq->b_):Prop:=
 iw Tryz.prog 201 [.slice b.a b.len b.cap,c] [.one .slice] w K
theorem jW {a b w K c}:iP a b w K->(∀d w,K d w->c d w)->iP a b w c:=iw.mono
def jB (b:iq) (w:World) (K:iq->b_):Prop:=
 iw Tryz.prog 202 [.slice b.a b.len b.cap] [.one .slice] w K
theorem vg {a w K b}:jB a w K->(∀c w,K c w->b c w)->jB a w b:=iw.mono
abbrev L9:FuncId:=203
def CZ (a b c:Int) (d:Addr) (w:World) (K:Bool->b_):Prop:=
 iw Tryz.prog 203 [(.agg ⟨[.int .i64 a,.int .i64 b,.int .i64 c]⟩),(.pointer (some d))] [.one .bool] w K
abbrev L_:FuncId:=204
def C9 (a b c:Int) (d:Addr) (w:World) (K:Bool->b_):Prop:=
 iw Tryz.prog 204 [(.agg ⟨[.int .i64 a,.int .i64 b,.int .i64 c]⟩),(.pointer (some d))] [.one .bool] w K
def iY (b:iq) (c:Value) (w:World) (K:b_):Prop:=
 iw Tryz.prog 205 [.slice b.a b.len b.cap,c] [] w K
theorem tV {a b w K c}:iY a b w K->(∀w,K w->c w)->iY a b w c:=iw.mono
abbrev rM:FuncId:=206
def xu (a b c d e f:Int) (w:World) (K:Int->b_):Prop:=
 iw Tryz.prog 206 [(.agg ⟨[.int .i64 a,.int .i64 b,.int .i64 c]⟩),(.agg ⟨[.int .i64 d,.int .i64 e,.int .i64 f]⟩)] [.one (.int .i64)] w K
def lu (b:iq) (w:World) (K:iq->b_):Prop:=
 iw Tryz.prog 207 [.slice b.a b.len b.cap] [.one .slice] w K
theorem ED {a w K b}:lu a w K->(∀c w,K c w->b c w)->lu a w b:=iw.mono
def DJ (a b:Int) (w:World) (K:Bool->b_):Prop:=
 iw Tryz.prog 208 [.int .i64 a,.int .i64 b] [.one .bool] w K
theorem Ur {a b w K c}:DJ a b w K->(∀d w,K d w->c d w)->DJ a b w c:=iw.mono
def ku (b:iq) (c:Value) (w:World) (K:iq->b_):Prop:=
 iw Tryz.prog 209 [.slice b.a b.len b.cap,c] [.one .slice] w K
theorem Ce {a b w K c}:ku a b w K->(∀d w,K d w->c d w)->ku a b w c:=iw.mono
def BI (a b:Int) (w:World) (K:Value->b_):Prop:=
 iw Tryz.prog 210 [.int .i64 a,.int .i64 b] [.one .any] w K
theorem Yd {a b w K c}:BI a b w K->(∀d w,K d w->c d w)->BI a b w c:=iw.mono
def nJ (a b:g_) (c:Int) (w:World) (K:b_):Prop:=
 iw Tryz.prog 211 [.pointer a,.pointer b,.int .i64 c] [] w K
theorem C_ {a b c w K d}:nJ a b c w K->(∀w,K w->d w)->nJ a b c w d:=iw.mono
def xP (a:Int) (w:World) (K:Int->b_):Prop:=
 iw Tryz.prog 212 [.int .i64 a] [.one (.int .i64)] w K
theorem Uy {a w K b}:xP a w K->(∀c w,K c w->b c w)->xP a w b:=iw.mono
def jm (b:iq) (c:Value) (w:World) (K:Bool->b_):Prop:=
 iw Tryz.prog 213 [.slice b.a b.len b.cap,c] [.one .bool] w K
theorem tN {a b w K c}:jm a b w K->(∀d w,K d w->c d w)->jm a b w c:=iw.mono
abbrev aaj:FuncId:=214
def ZC (a b:Int) (w:World) (K:Bool->b_):Prop:=
 iw Tryz.prog 214 [(.agg ⟨[.int .i64 a,.int .i64 b]⟩)] [.one .bool] w K
abbrev JO:FuncId:=215
def BZ (a b c:Int) (d:Addr) (w:World) (K:Bool->b_):Prop:=
 iw Tryz.prog 215 [(.agg ⟨[.int .i64 a,.int .i64 b,.int .i64 c]⟩),(.pointer (some d))] [.one .bool] w K
def lC (b c:iq) (w:World) (K:Bool->b_):Prop:=
 iw Tryz.prog 216 [.slice b.a b.len b.cap,.slice c.a c.len c.cap] [.one .bool] w K
theorem EF {a b w K c}:lC a b w K->(∀d w,K d w->c d w)->lC a b w c:=iw.mono
def Az (a:Int) (w:World) (K:Bool->b_):Prop:=
 iw Tryz.prog 217 [.int .i64 a] [.one .bool] w K
theorem RN {a w K b}:Az a w K->(∀c w,K c w->b c w)->Az a w b:=iw.mono
def jq (a b c:Int) (w:World) (K:Bool->b_):Prop:=
 iw Tryz.prog 218 [.int .i64 a,.int .i64 b,.int .i64 c] [.one .bool] w K
theorem ZH {a b c w K d}:jq a b c w K->(∀e w,K e w->d e w)->jq a b c w d:=iw.mono
def wF (a b c d e f g h i j k l m n o p:Int) (w:World) (K:Bool->b_):Prop:=
 iw Tryz.prog 219 [.agg ⟨jH a b c d e f g h i j k l m n o p⟩] [.one .bool] w K
theorem Nh {a b c d e f g h i j k l m n o p w K q}:wF a b c d e f g h i j k l m n o p w K->(∀r w,K r w->q r w)->wF a b c d e f g h i j k l m n o p w q:=iw.mono
def vP (a b c d e f g h i j k l m n o p:Int) (q r:iq) (s t u v x y z A B C D E F G H I J:Int) (L:iq) (M N O P Q R S:Int) (w:World) (K:Bool->b_):Prop:=
 iw Tryz.prog 220 [.agg ⟨jV a b c d e f g h i j k l m n o p q r s t u v x y z A B C D E F G H I J L⟩,(.agg ⟨[.int .i64 M,.int .i64 N,.int .i64 O,.int .i64 P,.int .i64 Q,.int .i64 R,.int .i64 S]⟩)] [.one .bool] w K
theorem Tc {a b c d e f g h i j k l m n o p q r s t u v x y z A B C D E F G H I J L M N O P Q R S w K T}:vP a b c d e f g h i j k l m n o p q r s t u v x y z A B C D E F G H I J L M N O P Q R S w K->(∀U w,K U w->T U w)->vP a b c d e f g h i j k l m n o p q r s t u v x y z A B C D E F G H I J L M N O P Q R S w T:=iw.mono
def jA (b:iq) (c d:Int) (e:Value) (w:World) (K:b_):Prop:=
 iw Tryz.prog 221 [.slice b.a b.len b.cap,.int .i64 c,.int .i64 d,e] [] w K
theorem uz {a b c d w K e}:jA a b c d w K->(∀w,K w->e w)->jA a b c d w e:=iw.mono
def yg (b:iq) (c d:Int) (e:Value) (w:World) (K:b_):Prop:=
 iw Tryz.prog 222 [.slice b.a b.len b.cap,.int .i64 c,.int .i64 d,e] [] w K
def uQ (b:iq) (c d:Int) (e:Value) (w:World) (K:b_):Prop:=
 iw Tryz.prog 223 [.slice b.a b.len b.cap,.int .i64 c,.int .i64 d,e] [] w K
def vV (b:iq) (c d:Int) (e:Value) (w:World) (K:Int->Int->b_):Prop:=
 iw Tryz.prog 224 [.slice b.a b.len b.cap,.int .i64 c,.int .i64 d,e] [.one (.int .i64),.one (.int .i64)] w K
def u_ (b:iq) (c d:Int) (e:Value) (w:World) (K:b_):Prop:=
 iw Tryz.prog 225 [.slice b.a b.len b.cap,.int .i64 c,.int .i64 d,e] [] w K
def ru (b:iq) (c d:Int) (e:Value) (w:World) (K:Bool->b_):Prop:=
 iw Tryz.prog 226 [.slice b.a b.len b.cap,.int .i64 c,.int .i64 d,e] [.one .bool] w K
def uq (b:iq) (c d e:Int) (f:Value) (w:World) (K:Int->b_):Prop:=
 iw Tryz.prog 227 [.slice b.a b.len b.cap,.int .i64 c,.int .i64 d,.int .i64 e,f] [.one (.int .i64)] w K
def xq (b:iq) (c d e:Int) (f:Value) (w:World) (K:Int->Bool->b_):Prop:=
 iw Tryz.prog 228 [.slice b.a b.len b.cap,.int .i64 c,.int .i64 d,.int .i64 e,f] [.one (.int .i64),.one .bool] w K
def qN (a:Int) (w:World) (K:Int->b_):Prop:=
 iw Tryz.prog 230 [.int .u64 a] [.one (.int .i64)] w K
theorem NJ {a w K b}:qN a w K->(∀c w,K c w->b c w)->qN a w b:=iw.mono
def qF (a:Int) (w:World) (K:Bool->b_):Prop:=
 iw Tryz.prog 231 [.int .i64 a] [.one .bool] w K
theorem Gg {a w K b}:qF a w K->(∀c w,K c w->b c w)->qF a w b:=iw.mono
def lG (a:g_) (w:World) (K:Bool->b_):Prop:=
 iw Tryz.prog 239 [.pointer a] [.one .bool] w K
theorem xA {a w K b}:lG a w K->(∀c w,K c w->b c w)->lG a w b:=iw.mono
def jJ (a:g_) (b:ByteArray) (w:World) (K:Int->Bool->b_):Prop:=
 iw Tryz.prog 240 [.pointer a,.string b] [.one (.int .i64),.one .bool] w K
theorem kM {a b w K c}:jJ a b w K->(∀d e w,K d e w->c d e w)->jJ a b w c:=iw.mono
def og (a:g_) (b:Int) (w:World) (K:Value->b_):Prop:=
 iw Tryz.prog 241 [.pointer a,.int .i64 b] [.one .any] w K
theorem Ea {a b w K c}:og a b w K->(∀d w,K d w->c d w)->og a b w c:=iw.mono
def kL (b:iq) (c:Value) (w:World) (K:Int->b_):Prop:=
 iw Tryz.prog 242 [.slice b.a b.len b.cap,c] [.one (.int .i64)] w K
theorem Dp {a b w K c}:kL a b w K->(∀d w,K d w->c d w)->kL a b w c:=iw.mono
def uJ (a:g_) (b:Int) (w:World) (K:Bool->b_):Prop:=
 iw Tryz.prog 243 [.pointer a,.int .i64 b] [.one .bool] w K
theorem Ji {a b w K c}:uJ a b w K->(∀d w,K d w->c d w)->uJ a b w c:=iw.mono
abbrev Cm:FuncId:=244
def Jg (a:Value) (b c:Addr) (w:World) (K:b_):Prop:=
 iw Tryz.prog 244 [a,(.pointer (some b)),(.pointer (some c))] [] w K
def vM (a:Int) (w:World) (K:Bool->b_):Prop:=
 iw Tryz.prog 245 [.int .i64 a] [.one .bool] w K
theorem S9 {a w K b}:vM a w K->(∀c w,K c w->b c w)->vM a w b:=iw.mono
def jM (b:iq) (c:Value) (w:World) (K:Int->b_):Prop:=
 iw Tryz.prog 246 [.slice b.a b.len b.cap,c] [.one (.int .i64)] w K
theorem yu {a b w K c}:jM a b w K->(∀d w,K d w->c d w)->jM a b w c:=iw.mono
def jv (b:iq) (c:Value) (w:World) (K:Int->b_):Prop:=
 iw Tryz.prog 247 [.slice b.a b.len b.cap,c] [.one (.int .i64)] w K
theorem uw {a b w K c}:jv a b w K->(∀d w,K d w->c d w)->jv a b w c:=iw.mono
abbrev Ai:FuncId:=248
def Ag (a:Value) (b c:Addr) (w:World) (K:b_):Prop:=
 iw Tryz.prog 248 [a,(.pointer (some b)),(.pointer (some c))] [] w K
abbrev Gx:FuncId:=249
def Gf (a:Value) (b c:Addr) (w:World) (K:b_):Prop:=
 iw Tryz.prog 249 [a,(.pointer (some b)),(.pointer (some c))] [] w K
abbrev xH:FuncId:=250
def wW (a:Value) (b c:Addr) (w:World) (K:b_):Prop:=
 iw Tryz.prog 250 [a,(.pointer (some b)),(.pointer (some c))] [] w K
abbrev xI:FuncId:=251
def wX (a:Value) (b c:Addr) (w:World) (K:b_):Prop:=
 iw Tryz.prog 251 [a,(.pointer (some b)),(.pointer (some c))] [] w K
def rU (a b c:Int) (w:World) (K:Bool->b_):Prop:=
 iw Tryz.prog 252 [(.agg ⟨[.int .i64 a,.int .i64 b]⟩),.int .i64 c] [.one .bool] w K
theorem EX {a b c w K d}:rU a b c w K->(∀e w,K e w->d e w)->rU a b c w d:=iw.mono
def AA (b:iq) (w:World) (K:ByteArray->b_):Prop:=
 iw Tryz.prog 253 [.slice b.a b.len b.cap] [.one .str] w K
theorem RQ {a w K b}:AA a w K->(∀c w,K c w->b c w)->AA a w b:=iw.mono
def qM (a:g_) (w:World) (K:b_):Prop:=
 iw Tryz.prog 254 [.pointer a] [] w K
theorem NI {a w K b}:qM a w K->(∀w,K w->b w)->qM a w b:=iw.mono
def jk (b:iq) (c:Value) (w:World) (K:Int->b_):Prop:=
 iw Tryz.prog 255 [.slice b.a b.len b.cap,c] [.one (.int .i64)] w K
theorem sW {a b w K c}:jk a b w K->(∀d w,K d w->c d w)->jk a b w c:=iw.mono
def iZ (b:iq) (c d e:Int) (f:Value) (w:World) (K:b_):Prop:=
 iw Tryz.prog 256 [.slice b.a b.len b.cap,.int .i64 c,.int .i64 d,.int .i64 e,f] [] w K
theorem xE {a b c d e w K f}:iZ a b c d e w K->(∀w,K w->f w)->iZ a b c d e w f:=iw.mono
abbrev WE:FuncId:=257
def V9 (a:Value) (b c:Addr) (w:World) (K:b_):Prop:=
 iw Tryz.prog 257 [a,(.pointer (some b)),(.pointer (some c))] [] w K
def jC (b:iq) (c:Value) (w:World) (K:Int->b_):Prop:=
 iw Tryz.prog 258 [.slice b.a b.len b.cap,c] [.one (.int .i64)] w K
theorem vk {a b w K c}:jC a b w K->(∀d w,K d w->c d w)->jC a b w c:=iw.mono
def zD (a b c d e f g h i j k l m n o p:Int) (q r:iq) (s t u v x y z A B C D E F G H I J:Int) (L:iq) (M:Int) (w:World) (K:Bool->b_):Prop:=
 iw Tryz.prog 259 [.agg ⟨jV a b c d e f g h i j k l m n o p q r s t u v x y z A B C D E F G H I J L⟩,.int .i64 M] [.one .bool] w K
theorem Wp {a b c d e f g h i j k l m n o p q r s t u v x y z A B C D E F G H I J L M w K N}:zD a b c d e f g h i j k l m n o p q r s t u v x y z A B C D E F G H I J L M w K->(∀O w,K O w->N O w)->zD a b c d e f g h i j k l m n o p q r s t u v x y z A B C D E F G H I J L M w N:=iw.mono
def BK (a:ByteArray) (b:Int) (w:World) (K:Int->b_):Prop:=
 iw Tryz.prog 266 [.string a,.int .i64 b] [.one (.int .i64)] w K
theorem Yf {a b w K c}:BK a b w K->(∀d w,K d w->c d w)->BK a b w c:=iw.mono
abbrev Dh:FuncId:=267
def Lu (a:Value) (b c:Addr) (w:World) (K:b_):Prop:=
 iw Tryz.prog 267 [a,(.pointer (some b)),(.pointer (some c))] [] w K
def jo (b:iq) (c d:Int) (e:Value) (w:World) (K:b_):Prop:=
 iw Tryz.prog 268 [.slice b.a b.len b.cap,.int .i64 c,.int .i64 d,e] [] w K
theorem tX {a b c d w K e}:jo a b c d w K->(∀w,K w->e w)->jo a b c d w e:=iw.mono
def xk (b:iq) (c d:Int) (e:Value) (w:World) (K:b_):Prop:=
 iw Tryz.prog 269 [.slice b.a b.len b.cap,.int .i64 c,.int .i64 d,e] [] w K
def uo (b:iq) (c d:Int) (e:Value) (w:World) (K:b_):Prop:=
 iw Tryz.prog 270 [.slice b.a b.len b.cap,.int .i64 c,.int .i64 d,e] [] w K
def uZ (b:iq) (c d:Int) (e:Value) (w:World) (K:Int->Int->b_):Prop:=
 iw Tryz.prog 271 [.slice b.a b.len b.cap,.int .i64 c,.int .i64 d,e] [.one (.int .i64),.one (.int .i64)] w K
def uS (b:iq) (c d:Int) (e:Value) (w:World) (K:b_):Prop:=
 iw Tryz.prog 272 [.slice b.a b.len b.cap,.int .i64 c,.int .i64 d,e] [] w K
def qC (b:iq) (c d:Int) (e:Value) (w:World) (K:Bool->b_):Prop:=
 iw Tryz.prog 273 [.slice b.a b.len b.cap,.int .i64 c,.int .i64 d,e] [.one .bool] w K
def tK (b:iq) (c d e:Int) (f:Value) (w:World) (K:Int->b_):Prop:=
 iw Tryz.prog 274 [.slice b.a b.len b.cap,.int .i64 c,.int .i64 d,.int .i64 e,f] [.one (.int .i64)] w K
def wI (b:iq) (c d e:Int) (f:Value) (w:World) (K:Int->Bool->b_):Prop:=
 iw Tryz.prog 275 [.slice b.a b.len b.cap,.int .i64 c,.int .i64 d,.int .i64 e,f] [.one (.int .i64),.one .bool] w K
theorem aap {k l m n o p q r s t u v x y z A B C D E F G H I J L M N O P Q R T U V W w K}:iH (D9 k l m n o p q r s t u v x y z A B C D E F G H I J L M N O P Q R T U V W w K)
 (Al w (.cells ⟨(jV k l m n o p q r s t u v x y z A B C D E F G H I J L M N O P Q R T U V W)⟩ 33) λa X=>vH X a λx4 x5 x6 x7 x8 x9 ak al am an ao ap aq ar au av aw ax ay az aA aB aC aD aE aF aG aH aI aJ aK aL aM aN aO aP=>vJ x4 x5 x6 x7 x8 x9 ak al am an ao ap aq ar au av aw ax ay az aA aB aC aD aE aF aG aH aI aJ aK aL aM aN aO aP X λY h=>(cond (Y !=0) (K none Y h) (vH h a λaQ aR aS aT aU aV aW aX aY aZ a0 a1 a2 a4 a5 a6 a7 a8 a9 ba bb bc bd be bf bg bh bi bj bk bl bm bn bo bp bq=>Al h (.cells ⟨(ajg none none none none none aQ aR aS aT aU aV aW aX aY aZ a0 a1 a2 a4 a5 a6 a7 a8 a9 ba bb bc bd be bf bg bh bi bj bk bl bm bn bo bp bq 0)⟩ 93) λe g=>Ld .slice g (a.add 17) λbr=>f_ g (a.add 18) λbs=>f_ g (a.add 19) λbt=>D_ br bs bt g λbu b6 bv=>Pt (some e) λbw=>St bv bw (.pointer bu) λi=>Ld .slice i (a.add 16) λbx=>f_ i (a.add 20) λbz=>BN (bx.len:Int) bz i λbA b7 bB=>Pt (some e) λbC=>St bB (bC.add 1) (.pointer bA) λZ=>f_ Z (a.add 21) λbD=>D6 bD Z λbE b8 bF=>Pt (some e) λbG=>St bF (bG.add 2) (.pointer bE) λaa=>f_ aa (a.add 22) λbH=>yc bH aa λbI b9 bJ=>Pt (some e) λbK=>St bJ (bK.add 3) (.pointer bI) λab=>f_ ab (a.add 22) λbL=>yZ bL ab λbM ca bN=>Pt (some e) λbO=>St bN (bO.add 4) (.pointer bM) λac=>Ld .slice ac (a.add 35) λad=>iT (S:=Int×Unit) (λj b bP=>(cond (decide (j.1<(ad.len:Int))) (iO ad 7 j.1 λf=>f_ b (f.add 0) λbQ=>f_ b (f.add 1) λbR=>f_ b (f.add 2) λbS=>f_ b (f.add 3) λbT=>f_ b (f.add 4) λbU=>f_ b (f.add 5) λbV=>f_ b (f.add 6) λbW=>Al b (.cells ⟨[.int .i64 0,.int .i64 0,.int .i64 0,.int .i64 0,.int .i64 0,.int .i64 0,.int .i64 0]⟩ 105) λc bX=>lM [.int .i64 bQ,.int .i64 bR,.int .i64 bS,.int .i64 bT,.int .i64 bU,.int .i64 bV,.int .i64 bW] bX c 0 λd=>f_ d (c.add 0) λbY=>f_ d (c.add 1) λbZ=>f_ d (c.add 2) λb0=>f_ d (c.add 3) λb1=>f_ d (c.add 4) λb2=>f_ d (c.add 5) λb3=>f_ d (c.add 6) λb4=>oq (some e) bY bZ b0 b1 b2 b3 b4 d λcb b5=>bP ((IntKind.i64.wrap (j.1+1)),()) b5) (K (some e) 0 b))) (0,()) ac))):=okF ji Tryz.func6 (ig (ig (ig (ig (ig (ig (ig (ig (.seq (ig (.blk (.loop [(76,(.int .i64))] .leaf))) .leaf))))))))) (by kernel_rfl)
theorem WX {w K}:iH (wG w K)
 (Al w (.cells ⟨(jV 0 0 0 0 0 0 0 0 0 0 0 0 0 0 0 0 ⟨none,0,0⟩ ⟨none,0,0⟩ 0 0 0 0 0 0 0 0 0 0 0 0 0 0 0 0 0 ⟨none,0,0⟩)⟩ 33) λa c=>Al c (.cells ⟨[.int .i64 8193,.int .i64 3512,.int .i64 0,.int .i64 0,.int .i64 0,.int .i64 0,.int .i64 0,.int .i64 1]⟩ 3) λd e=>yJ ⟨(some d),8,8⟩ e λf g h i j k l m n o p q r s t u v=>Al v (.cells ⟨[.int .i64 8193,.int .i64 3512,.int .i64 1,.int .i64 0,.int .i64 0,.int .i64 0,.int .i64 0,.int .i64 1]⟩ 3) λx y=>yJ ⟨(some x),8,8⟩ y λz A B C D E F G H I J L M N O P Q=>Al Q (.cells ⟨[.int .i64 8193,.int .i64 3512,.int .i64 2,.int .i64 0,.int .i64 0,.int .i64 0,.int .i64 0,.int .i64 1]⟩ 3) λR S=>yJ ⟨(some R),8,8⟩ S λT U V W X Y Z aa ab ac ad ae af ag ah ai aj=>Al aj (.cells ⟨(aje z A B C D E F G H I J L M N O P T U V W X Y Z aa ab ac ad ae af ag ah ai)⟩ 28) λak al=>Al al (.cells ⟨[.int .i64 3325256705]⟩ 3) λam an=>lM (jV f g h i j k l m n o p q r s t u ⟨(some ak),2,2⟩ ⟨(some am),1,1⟩ 1024 65535 16 64 128 8 1048576 1500 1500 64 0 2 300 7440 240 60 60 ⟨none,0,0⟩) an a 0 λb=>vH b a λao ap aq ar au av aw ax ay az aA aB aC aD aE aF aG aH aI aJ aK aL aM aN aO aP aQ aR aS aT aU aV aW aX aY aZ=>K ao ap aq ar au av aw ax ay az aA aB aC aD aE aF aG aH aI aJ aK aL aM aN aO aP aQ aR aS aT aU aV aW aX aY aZ b):=okF ji Tryz.func7 .leaf (by kernel_rfl)
theorem Sv {b a w K}:iH (vO b a w K)
 (let d:Bool->Prop:=λk=>((cond k (K none 1 w) (yZ a w λe f g=>(cond (f !=0) (K none f g) (qO b g λl m=>Al m (.cells ⟨[.pointer b,.pointer e,.map none,.map none,.int .i64 l,.int .i64 0,.int .i64 a]⟩ 111) λc h=>Al h (.map #[] 0) λu i=>Al i (.map #[] 0) λv n=>Pt (some c) λo=>St n (o.add 2) (.map (some h.heap.size)) λp=>Pt (some c) λq=>St p (q.add 3) (.map (some i.heap.size)) λj=>Pt (some c) λr=>f_ j (r.add 4) λs=>kH e s j λx t=>K (some c) 0 t)))))
 (cond (Option.isNone b) (d true) (cond (decide (a<1)) (d true) (d (decide (a>4096)))))):=okF ji Tryz.func8 .leaf (by kernel_rfl)
theorem Vl {w K}:iH (mD w K)
 (wG w λj k l m n o p q r s t u v x y z A B C D E F G H I J L M N O P Q R S T U V=>D9 j k l m n o p q r s t u v x y z A B C D E F G H I J L M N O P Q R S T U V λc W X=>vO c 4 X λd Y g=>let e:Bool->Prop:=λZ=>((cond Z (K false g) (BL 1 167772161 60 80 8080 g λaa ab=>ni d 1 167772161 aa ab λac ad ae=>Ho ac ae λaf ag ah ai aj ak al am an ao ap aq ar au av aw ax ay az aA aB aC aD aE aF aG aH aI aJ aK aL aM aN aO aP aQ aR=>Al aR (.cells ⟨(Nc 0 0 0 0 0 0 0 0 0 0 0 0 0 0 0 0 0 0 0 0 0 0 0 0 0 0 0 0 0 0 0 0 0 0 0)⟩ 53) λf aS=>lM (Nc af ag ah ai aj ak al am an ao ap aq ar au av aw ax ay az aA aB aC aD aE aF aG aH aI aJ aK aL aM aN aO aP) aS f 0 λa=>let b:Bool->b_:=λaT aU=>(K aT aU)
 (cond (ad==0) (cond (aQ==0) (f_ a f λaV=>(cond (aV==0) (f_ a (f.add 2) λaW=>(cond (aW==60) (lH c a λa1 aX a2 a3 a4 a5 a6 h=>(cond ((aX.len:Int)==1) (jO d 60 h λaY i=>(cond (aY==1) (lH c i λa7 aZ a8 a9 ba bb bc a0=>b ((aZ.len:Int)==0) a0) (b false i))) (b false h))) (b false a))) (b false a))) (b false a)) (b false a)))))
 (cond (W !=0) (e true) (cond (Y !=0) (e true) (e (Option.isNone d))))):=okF ji Tryz.func9 .leaf (by kernel_rfl)
theorem J_ {c g d h w K}:iH (ni c g d h w K)
 (kD c w λF i=>(cond (!F) (K ⟨none,0,0⟩ 2 i) (Jd h i λG H I J L M N O P Q R S T U V W X Y Z aa ab ac ad ae af ag ah ai aj ak al am an j ao=>Al ao (.cells ⟨(iU 0 0 0 0 0 0 0 0 0 0 0 0 0 0 0 0 0 0 0 0 0 0 0 0 0 0 0 0 0 0 0 0 0)⟩ 51) λa ap=>lM (iU G H I J L M N O P Q R S T U V W X Y Z aa ab ac ad ae af ag ah ai aj ak al am an) ap a 0 λe=>(cond (j !=0) (K ⟨none,0,0⟩ j e) (let k:Int->b_:=λl m=>(let n:b_:=λf=>(Pt c λaq=>f_ f.drew (aq.add 4) λar=>jD f.drew a λau av aw ax ay az aA aB aC aD aE aF aG aH aI aJ aK aL aM aN aO aP aQ aR aS aT aU aV aW aX aY aZ a4=>wC l (DY .i64 ar 4294967295) au av aw ax ay az aA aB aC aD aE aF aG aH aI aJ aK aL aM aN aO aP aQ aR aS aT aU aV aW aX aY aZ a4 f.drew λa5 a6 a7=>K a5 a6 a7)
 (cond (l !=0) (St m a (.int .i64 30) λa8=>n a8) (n m)))
 oV e.drew (a.add 1) λo p q r s t u v x y z A B C D E=>zA d e.drew λa9 ba bb bc bd be bf bg bh bi bj bk bl bm bn bo b=>CkN (jH o p q r s t u v x y z A B C D E) b (a.add 1) 0 (
 (cond ((o==a9) && ((p==ba) && ((q==bb) && ((r==bc) && ((s==bd) && ((t==be) && ((u==bf) && ((v==bg) && ((x==bh) && ((y==bi) && ((z==bj) && ((A==bk) && ((B==bl) && ((C==bm) && ((D==bn) && ((E==bo) && true)))))))))))))))) (f_ b (a.add 29) λbp=>f_ b (a.add 30) λbq=>jD b a λbr bs bt bu bv bw bx bz bA bB bC bD bE bF bG bH bI bJ bK bL bM bN bO bP bQ bR bS bT bU bV bW bX bY=>zB c g bp d bq br bs bt bu bv bw bx bz bA bB bC bD bE bF bG bH bI bJ bK bL bM bN bO bP bQ bR bS bT bU bV bW bX bY b λbZ b0 b1 b2 b3 b4 b5 b6 b7 b8 b9 ca cb cc cd ce cf cg ch ci cj ck cl cm cn co cp cq cr cs ct cu cv cw cx=>lM (iU b0 b1 b2 b3 b4 b5 b6 b7 b8 b9 ca cb cc cd ce cf cg ch ci cj ck cl cm cn co cp cq cr cs ct cu cv cw) cx a 0 λcy=>k bZ cy) (k 12 b)))))))):=okF ji Tryz.func10 .leaf (by kernel_rfl)
theorem YR {e a b c d w K}:iH (BL e a b c d w K)
 (zA a w λf g h i j k l m n o p q r s t u v=>BM b f g h i j k l m n o p q r s t u 0 0 0 0 0 0 0 0 0 0 0 0 17 c d 3325256705 v λx z y=>K x y):=okF ji Tryz.func11 .leaf (by kernel_rfl)
theorem Ac {a d w K}:iH (jO a d w K)
 (kD a w λl e=>(cond (!l) (K 0 e) (Pt a λm=>f_ e (m.add 4) λg=>Pt a λn=>St e (n.add 4) (.int .i64 (if (if (1099511627776:Int)<d then 1099511627776 else d)>g then (if (1099511627776:Int)<d then 1099511627776 else d) else g)) λf=>Pt a λo=>Ld .ptr f.drew (o.add 1) λp=>Pt a λq=>f_ f.drew (q.add 4) λr=>kH p r f.drew λh s=>iT (S:=Int×Int×Unit) (λc b t=>(cond (decide (c.2.1<(h.len:Int))) (let i:Int->b_:=λu v=>(t (u,(IntKind.i64.wrap (c.2.1+1)),()) v)
 iO h 1 c.2.1 λx=>f_ b x λj=>Pt a λy=>Ld .map b (y.add 3) λz=>wV Tryz.prog 3 .ptr z (Value.int .i64 j) (Value.pointer none) b λk=>Pt k λA=>f_ b.drew (A.add 7) λB=>Pt a λC=>f_ b.drew (C.add 4) λD=>(cond (decide (B>D)) (Pt a λE=>Ld .ptr b.drew (E.add 1) λF=>oC F j 1099511627776 b.drew λI G=>i c.1 G) (nH a k b.drew λH=>i (IntKind.i64.wrap (c.1+1)) H))) (K c.1 b))) (0,0,()) s))):=okF ji Tryz.func12 (ig (ig (ig (ig (.seq (ig (.blk (.loop [(5,(.int .i64)),(32,(.int .i64))] .leaf))) .leaf))))) (by kernel_rfl)
theorem MF {p w K}:iH (lH p w K)
 (Al w (.cells ⟨[.int .i64 0,.slice none 0 0,.slice none 0 0,.int .i64 0,.int .i64 0,.int .i64 0,.slice none 0 0]⟩ 47) λb U=>jR p U λV s=>(cond (!V) (lM [.int .i64 0,.slice none 0 0,.slice none 0 0,.int .i64 0,.int .i64 0,.int .i64 0,.slice none 0 0] s b 0 λl=>f_ l (b.add 0) λW=>Ld .slice l (b.add 1) λX=>Ld .slice l (b.add 2) λY=>f_ l (b.add 3) λZ=>f_ l (b.add 4) λaa=>f_ l (b.add 5) λab=>Ld .slice l (b.add 6) λac=>K W X Y Z aa ab ac l) (let J:Addr->b_:=λe L=>(Al L (.map #[] 0) λbo ad=>Al ad (.cells ⟨[.map none]⟩ 125) λA ae=>St ae A (.map (some L.heap.size)) λM=>Pt p λaf=>Ld .ptr M (af.add 2) λag=>Bl ag M λah c=>F7 Tryz.prog none [.one (.int .i64),.agg [(.int .i64),(.int .i64),(.int .i64),(.int .i64),(.int .i64),(.int .i64),(.int .i64),.bool]] ah c (λt i N ai=>Al N (.cells ⟨[.int .i64 0,.int .i64 0,.int .i64 0,.int .i64 0,.int .i64 0,.int .i64 0,.int .i64 0,.bool false]⟩ 130) λj aj=>lM [.int .i64 i.2.1.1,.int .i64 i.2.1.2.1,.int .i64 i.2.1.2.2.1,.int .i64 i.2.1.2.2.2.1,.int .i64 i.2.1.2.2.2.2.1,.int .i64 i.2.1.2.2.2.2.2.1,.int .i64 i.2.1.2.2.2.2.2.2.1,.bool i.2.1.2.2.2.2.2.2.2.1] aj j 0 λy=>y.heap[t]? =N.heap[t]? /\
 Ld .map (iD y t) A λak=>Ld .slice (iD y t) (e.add 1) λal=>CU Tryz.prog 3 ak (Value.int .i64 i.1) (Value.int .i64 (al.len:Int)) (iD y t) λf=>Ld .slice f (e.add 1) λam=>f_ f (j.add 0) λan=>f_ f (j.add 1) λao=>f_ f (j.add 2) λap=>f_ f (j.add 3) λaq=>f_ f (j.add 4) λar=>f_ f (j.add 5) λau=>f_ f (j.add 6) λav=>Ld .bool f (j.add 7) λaw=>Al f (.cells ⟨[.int .i64 an,.int .i64 ao,.int .i64 ap,.int .i64 aq,.int .i64 ar,.int .i64 au,.int .i64 av,.bool aw]⟩ 130) λax ay=>j_ 130 8 64 [(Value.int .i64 0),(Value.int .i64 0),(Value.int .i64 0),(Value.int .i64 0),(Value.int .i64 0),(Value.int .i64 0),(Value.int .i64 0),(Value.bool false)] am ⟨(some ax),1,1⟩ ay λB az=>St az (e.add 1) (.slice B.a B.len B.cap) λaA=>ai .normal aA)
 (λO=>Pt p λaB=>Ld .ptr O (aB.add 3) λaC=>w_ aC O λaD d=>F7 Tryz.prog none [.one (.int .i64),.agg [(.int .i64),(.int .i64),(.int .i64),(.int .i64),(.int .i64)]] aD d (λq u P aE=>Al P (.cells ⟨[.int .i64 0,.int .i64 0,.int .i64 0,.int .i64 0,.int .i64 0]⟩ 137) λm aF=>lM [.int .i64 u.2.1.1,.int .i64 u.2.1.2.1,.int .i64 u.2.1.2.2.1,.int .i64 u.2.1.2.2.2.1,.int .i64 u.2.1.2.2.2.2.1] aF m 0 λv=>v.heap[q]? =P.heap[q]? /\
 Ld .map (iD v q) A λaG=>f_ (iD v q) m λaH=>wV Tryz.prog 3 (.int .i64) aG (Value.int .i64 aH) (Value.int .i64 0) (iD v q) λaI=>St (iD v q) m (Value.int .i64 aI) λo=>Ld .slice o (e.add 2) λaJ=>f_ o (m.add 0) λaK=>f_ o (m.add 1) λaL=>f_ o (m.add 2) λaM=>f_ o (m.add 3) λaN=>f_ o (m.add 4) λaO=>Al o (.cells ⟨[.int .i64 aK,.int .i64 aL,.int .i64 aM,.int .i64 aN,.int .i64 aO]⟩ 137) λaP aQ=>j_ 137 5 40 [(Value.int .i64 0),(Value.int .i64 0),(Value.int .i64 0),(Value.int .i64 0),(Value.int .i64 0)] aJ ⟨(some aP),1,1⟩ aQ λC aR=>St aR (e.add 2) (.slice C.a C.len C.cap) λaS=>aE .normal aS)
 (λn=>f_ n (e.add 0) λaT=>Ld .slice n (e.add 1) λD=>Ld .slice n (e.add 2) λE=>f_ n (e.add 3) λaU=>f_ n (e.add 4) λaV=>f_ n (e.add 5) λaW=>Ld .slice n (e.add 6) λF=>lM [.int .i64 aT,.slice D.a D.len D.cap,.slice E.a E.len E.cap,.int .i64 aU,.int .i64 aV,.int .i64 aW,.slice F.a F.len F.cap] n b 0 λg=>g.heap[d.heap.size]? =some (.deferred (some []))/\
 (g.putObj d.heap.size (.deferred none)).heap[c.heap.size]? =some (.deferred (some []))/\
 f_ ((g.putObj d.heap.size (.deferred none)).putObj c.heap.size (.deferred none)) (b.add 0) λaX=>Ld .slice ((g.putObj d.heap.size (.deferred none)).putObj c.heap.size (.deferred none)) (b.add 1) λaY=>Ld .slice ((g.putObj d.heap.size (.deferred none)).putObj c.heap.size (.deferred none)) (b.add 2) λaZ=>f_ ((g.putObj d.heap.size (.deferred none)).putObj c.heap.size (.deferred none)) (b.add 3) λa1=>f_ ((g.putObj d.heap.size (.deferred none)).putObj c.heap.size (.deferred none)) (b.add 4) λa2=>f_ ((g.putObj d.heap.size (.deferred none)).putObj c.heap.size (.deferred none)) (b.add 5) λa4=>Ld .slice ((g.putObj d.heap.size (.deferred none)).putObj c.heap.size (.deferred none)) (b.add 6) λa5=>K aX aY aZ a1 a2 a4 a5 ((g.putObj d.heap.size (.deferred none)).putObj c.heap.size (.deferred none)))
 (λh=>h.heap[d.heap.size]? =some (.deferred (some []))/\
 (h.putObj d.heap.size (.deferred none)).heap[c.heap.size]? =some (.deferred (some []))/\
 f_ ((h.putObj d.heap.size (.deferred none)).putObj c.heap.size (.deferred none)) (b.add 0) λa6=>Ld .slice ((h.putObj d.heap.size (.deferred none)).putObj c.heap.size (.deferred none)) (b.add 1) λa7=>Ld .slice ((h.putObj d.heap.size (.deferred none)).putObj c.heap.size (.deferred none)) (b.add 2) λa8=>f_ ((h.putObj d.heap.size (.deferred none)).putObj c.heap.size (.deferred none)) (b.add 3) λa9=>f_ ((h.putObj d.heap.size (.deferred none)).putObj c.heap.size (.deferred none)) (b.add 4) λba=>f_ ((h.putObj d.heap.size (.deferred none)).putObj c.heap.size (.deferred none)) (b.add 5) λbb=>Ld .slice ((h.putObj d.heap.size (.deferred none)).putObj c.heap.size (.deferred none)) (b.add 6) λbc=>K a6 a7 a8 a9 ba bb bc ((h.putObj d.heap.size (.deferred none)).putObj c.heap.size (.deferred none)))
 [])
 (λk=>k.heap[c.heap.size]? =some (.deferred (some []))/\
 f_ (k.putObj c.heap.size (.deferred none)) (b.add 0) λbd=>Ld .slice (k.putObj c.heap.size (.deferred none)) (b.add 1) λbe=>Ld .slice (k.putObj c.heap.size (.deferred none)) (b.add 2) λbf=>f_ (k.putObj c.heap.size (.deferred none)) (b.add 3) λbg=>f_ (k.putObj c.heap.size (.deferred none)) (b.add 4) λbh=>f_ (k.putObj c.heap.size (.deferred none)) (b.add 5) λbi=>Ld .slice (k.putObj c.heap.size (.deferred none)) (b.add 6) λbj=>K bd be bf bg bh bi bj (k.putObj c.heap.size (.deferred none)))
 [])
 Pt p λx=>f_ s.drew (x.add 41) λr=>Pt p λG=>Ld .ptr s.drew (G.add 4) λz=>(mO z s.drew λbk Q=>Q.cell? (x.add 41)=some (Value.int .i64 r)/\
 Al Q (.cells ⟨[.int .i64 0,.slice none 0 0,.slice none 0 0,.int .i64 0,.int .i64 0,.int .i64 0,.slice none 0 0]⟩ 47) λR H=>H.cell? (G.add 4)=some (Value.pointer z)/\
 H.cell? (x.add 41)=some (Value.int .i64 r)/\
 lM [.int .i64 r,.slice none 0 0,.slice none 0 0,.int .i64 0,.int .i64 0,.int .i64 bk,.slice none 0 0] H R 0 λbl=>J R bl)/\
 (Al s.drew (.cells ⟨[.int .i64 0,.slice none 0 0,.slice none 0 0,.int .i64 0,.int .i64 0,.int .i64 0,.slice none 0 0]⟩ 47) λS I=>I.cell? (G.add 4)=some (Value.pointer z)/\
 I.cell? (x.add 41)=some (Value.int .i64 r)/\
 mO z I λbm T=>T.cell? (x.add 41)=some (Value.int .i64 r)/\
 lM [.int .i64 r,.slice none 0 0,.slice none 0 0,.int .i64 0,.int .i64 0,.int .i64 bm,.slice none 0 0] T S 0 λbn=>J S bn)))):=okF ji Tryz.func13 (ig (ig (ig (ig (.seq (ig (.blk (.rng [.one (.int .i64),.agg [(.int .i64),(.int .i64),(.int .i64),(.int .i64),(.int .i64),(.int .i64),(.int .i64),.bool]] .leaf .leaf))) (.seq (ig (.blk (.rng [.one (.int .i64),.agg [(.int .i64),(.int .i64),(.int .i64),(.int .i64),(.int .i64)]] .leaf .leaf))) .leaf)))))) (by kernel_rfl)
theorem aaq {a w K}:iH (Ho a w K)
 (Al w (.cells ⟨(Nc 0 0 0 0 0 0 0 0 0 0 0 0 0 0 0 0 0 0 0 0 0 0 0 0 0 0 0 0 0 0 0 0 0 0 0)⟩ 53) λb i=>Hq a 129 i λj k l m n o p q r s t u v x y z A B C D E F G H I J L M N O P Q R e S=>Al S (.cells ⟨(iU 0 0 0 0 0 0 0 0 0 0 0 0 0 0 0 0 0 0 0 0 0 0 0 0 0 0 0 0 0 0 0 0 0)⟩ 51) λc T=>lM (iU j k l m n o p q r s t u v x y z A B C D E F G H I J L M N O P Q R) T c 0 λf=>(cond (e !=0) (lM (Nc 0 0 0 0 0 0 0 0 0 0 0 0 0 0 0 0 0 0 0 0 0 0 0 0 0 0 0 0 0 0 0 0 0 0 0) f b 0 λg=>ahT g b λU V W X Y Z aa ab ac ad ae af ag ah ai aj ak al am an ao ap aq ar au av aw ax ay az aA aB aC aD aE=>K U V W X Y Z aa ab ac ad ae af ag ah ai aj ak al am an ao ap aq ar au av aw ax ay az aA aB aC aD aE e g) (lM (jH 0 0 0 0 0 0 0 0 0 0 0 0 0 0 0 0) f (c.add 1) 0 λaF=>D5 a 8 4 aF λaG bS d=>iO a 1 3 λaH=>Ld (.int .u8) d.drew aH λaI=>jD d.drew c λaJ aK aL aM aN aO aP aQ aR aS aT aU aV aW aX aY aZ a1 a2 a4 a5 a6 a7 a8 a9 ba bb bc bd be bf bg bh=>lM (Nc (IntKind.i64.wrap aI) aG aJ aK aL aM aN aO aP aQ aR aS aT aU aV aW aX aY aZ a1 a2 a4 a5 a6 a7 a8 a9 ba bb bc bd be bf bg bh) d.drew b 0 λh=>ahT h b λbi bj bk bl bm bn bo bp bq br bs bt bu bv bw bx bz bA bB bC bD bE bF bG bH bI bJ bK bL bM bN bO bP bQ bR=>K bi bj bk bl bm bn bo bp bq br bs bt bu bv bw bx bz bA bB bC bD bE bF bG bH bI bJ bK bL bM bN bO bP bQ bR 0 h))):=okF ji Tryz.func14 .leaf (by kernel_rfl)
theorem Vp {b c d e f g h i j k l m n o p q r s t u v x y z A B C D E F G H I J L M w K}:iH (Fz b c d e f g h i j k l m n o p q r s t u v x y z A B C D E F G H I J L M w K)
 (Al w (.cells ⟨(jV b c d e f g h i j k l m n o p q r s t u v x y z A B C D E F G H I J L M)⟩ 33) λN O=>let P:Bool->b_:=λQ R=>(K Q R)
 vH O N λS T U V W X Y Z aa ab ac ad ae af ag ah ai aj ak al am an ao ap aq ar au av aw ax ay az aA aB aC aD=>xQ S T U V W X Y Z aa ab ac ad ae af ag ah ai aj ak al am an ao ap aq ar au av aw ax ay az aA aB aC aD O λaE a=>(cond aE (vH a N λaF aG aH aI aJ aK aL aM aN aO aP aQ aR aS aT aU aV aW aX aY aZ a0 a1 a2 a4 a5 a6 a7 a8 a9 ba bb bc bd be bf=>uN aF aG aH aI aJ aK aL aM aN aO aP aQ aR aS aT aU aV aW aX aY aZ a0 a1 a2 a4 a5 a6 a7 a8 a9 ba bb bc bd be bf a λbg bh=>P (bg==0) bh) (P false a))):=okF ji Tryz.func15 .leaf (by kernel_rfl)
theorem IK {a w K}:iH (qR a w K)
 (jr (Value.pointer a)=true/\
 Al w (.cells ⟨[.pointer a]⟩ 35) λb c=>K (Value.func (.func 55) #[] #[(Value.pointer (some b))]) c):=okF ji Tryz.func16 .leaf (by kernel_rfl)
theorem Tz {i j k l m n o p q r s t u v x y z A B C D E F G H I J L M N O P Q R T U w K}:iH (vJ i j k l m n o p q r s t u v x y z A B C D E F G H I J L M N O P Q R T U w K)
 (Al w (.cells ⟨(jV i j k l m n o p q r s t u v x y z A B C D E F G H I J L M N O P Q R T U)⟩ 33) λb V=>vH V b λx4 x5 x6 x7 x8 x9 ag ah ai aj ak al am an ao ap aq ar au av aw ax ay az aA aB aC aD aE aF aG aH aI aJ aK aL=>uj x4 x5 x6 x7 x8 x9 ag ah ai aj ak al am an ao ap aq ar au av aw ax ay az aA aB aC aD aE aF aG aH aI aJ aK aL V λW aM=>iT (S:=Int×Unit) (λe a aN=>(cond (decide (e.1<(W.len:Int))) (iO W 3 e.1 λf=>f_ a (f.add 0) λaO=>f_ a (f.add 1) λaP=>f_ a (f.add 2) λaQ=>Al a (.cells ⟨[.int .i64 0,.int .i64 0,.int .i64 0]⟩ 187) λc aR=>lM [.int .i64 aO,.int .i64 aP,.int .i64 aQ] aR c 0 λd=>f_ d (c.add 0) λaS=>f_ d (c.add 1) λaT=>f_ d (c.add 2) λaU=>kJ aS aT aU d λaV X=>(cond (!aV) (K 1 X) (aN ((IntKind.i64.wrap (e.1+1)),()) X))) (let Y:Bool->b_:=λaW g=>((cond aW (K 1 g) (vH g b λaX aY aZ a0 a1 a2 a4 a5 a6 a7 a8 a9 ba bb bc bd be bf bg bh bi bj bk bl bm bn bo bp bq br bs bt bu bv bw bx=>rQ aX aY aZ a0 a1 a2 a4 a5 a6 a7 a8 a9 ba bb bc bd be bf bg bh bi bj bk bl bm bn bo bp bq br bs bt bu bv bw bx g λbz Z=>(cond bz (K 9 Z) (K 0 Z)))))
 f_ a (b.add 28) λbA=>vN bA a λbB h=>(cond (!bB) (Y true h) (vH h b λbC bD bE bF bG bH bI bJ bK bL bM bN bO bP bQ bR bS bT bU bV bW bX bY bZ b0 b1 b2 b3 b4 b5 b6 b7 b8 b9 ca cb=>vK bC bD bE bF bG bH bI bJ bK bL bM bN bO bP bQ bR bS bT bU bV bW bX bY bZ b0 b1 b2 b3 b4 b5 b6 b7 b8 b9 ca cb h λcc cd=>Y (!cc) cd))))) (0,()) aM):=okF ji Tryz.func29 (ig (.seq (ig (.blk (.loop [(8,(.int .i64))] .leaf))) .leaf)) (by kernel_rfl)
theorem aas {b d e w K}:iH (D_ b d e w K)
 (let c:Bool->Prop:=λn=>((cond n (K none 1 w) (iT (S:=Int×Unit) (λf g o=>(cond (decide (f.1<(b.len:Int))) (iO b 1 f.1 λp=>f_ g p λi=>let j:Bool->b_:=λq k=>((cond q (K none 1 k) (o ((IntKind.i64.wrap (f.1+1)),()) k)))
 qK i g λr l=>(cond (!r) (j true l) (BF b 1 0 f.1 λs=>jF s i l λt u=>j t u))) (kS b g λh m=>Al m (.map #[] 0) λz v=>Al v (.cells ⟨[.int .i64 d,.int .i64 e,.slice h.a h.len h.cap,.map (some m.heap.size)]⟩ 194) λx y=>K (some x) 0 y))) (0,()) w)))
 (cond (decide ((b.len:Int)<1)) (c true) (cond (decide ((b.len:Int)>16)) (c true) (cond (decide (d<1)) (c true) (cond (decide (e<d)) (c true) (c (decide (e>=65536)))))))):=okF ji Tryz.func30 (ig (ig (.seq (ig (.blk (.loop [(33,(.int .i64))] .leaf))) .leaf))) (by kernel_rfl)
theorem YX {b c w K}:iH (BN b c w K)
 (let d:Bool->Prop:=λj=>((cond j (K none 1 w) (XU 199 2 16 [(Value.int .i64 0),(Value.int .i64 0)] b b w λe k=>Al k (.cells ⟨[.slice e.a e.len e.cap]⟩ 197) λf i=>Pt (some f) λl=>Ld .slice i l λm=>iT (S:=Int×Unit) (λg h n=>(cond (decide (g.1<(m.len:Int))) (Pt (some f) λo=>Ld .slice h o λp=>iO p 2 g.1 λq=>St h (q.add 1) (.int .i64 c) λr=>n ((IntKind.i64.wrap (g.1+1)),()) r) (K (some f) 0 h))) (0,()) i)))
 (cond (decide (b<1)) (d true) (cond (decide (b>64)) (d true) (cond (decide (c<0)) (d true) (d (decide (c>4096))))))):=okF ji Tryz.func31 (ig (ig (ig (.seq (ig (.blk (.loop [(31,(.int .i64))] .leaf))) .leaf)))) (by kernel_rfl)
theorem aam {b w K}:iH (D6 b w K)
 (let d:Bool->Prop:=λg=>((cond g (K none 1 w) (yI b w λh i j=>yI b j λk l e=>let f:Bool->Prop:=λm=>((cond m (K none 1 e) (XU 243 9 72 (Uj 0 0 0 0 0 0 0 false false) b b e λc n=>Al n (.cells ⟨[.slice c.a c.len c.cap,.pointer h,.pointer k,.int .i64 0]⟩ 205) λo p=>K (some o) 0 p)))
 (cond (i !=0) (f true) (f (l !=0))))))
 (cond (decide (b<0)) (d true) (d (decide (b>4096))))):=okF ji Tryz.func32 .leaf (by kernel_rfl)
theorem Vz {b w K}:iH (yc b w K)
 (let d:Bool->Prop:=λh=>((cond h (K none 1 w) (yI b w λi e f=>(cond (e !=0) (K none e f) (XU 246 6 48 [(Value.int .i64 0),(Value.int .i64 0),(Value.int .i64 0),(Value.int .i64 0),(Value.int .i64 0),(Value.bool false)] b b f λc g=>Al g (.map #[] 0) λm j=>Al j (.cells ⟨[.slice c.a c.len c.cap,.pointer i,.map (some g.heap.size),.int .i64 0]⟩ 209) λk l=>K (some k) 0 l)))))
 (cond (decide (b<0)) (d true) (d (decide (b>4096))))):=okF ji Tryz.func33 .leaf (by kernel_rfl)
theorem Y8 {a w K}:iH (yZ a w K)
 (let b:Bool->Prop:=λc=>((cond c (K none 1 w) (Al w (.map #[] 0) λg d=>Al d (.cells ⟨(List.replicate 448 (Value.slice none 0 0)++([(Value.map (some w.heap.size)),(Value.int .i64 0),(Value.int .i64 0),(Value.int .i64 a)]))⟩ 216) λe f=>K (some e) 0 f)))
 (cond (decide (a<0)) (b true) (b (decide (a>1048576))))):=okF ji Tryz.func34 .leaf (by kernel_rfl)
theorem Ot {b k l m n o p q w K}:iH (oq b k l m n o p q w K)
 (Al w (.cells ⟨[.int .i64 k,.int .i64 l,.int .i64 m,.int .i64 n,.int .i64 o,.int .i64 p,.int .i64 q]⟩ 105) λa v=>jR b v λx c=>(cond (!x) (K 2 c) (f_ c (a.add 0) λy=>f_ c (a.add 1) λz=>f_ c (a.add 2) λA=>f_ c (a.add 3) λB=>f_ c (a.add 4) λC=>f_ c (a.add 5) λD=>f_ c (a.add 6) λE=>qQ b y z A B C D E c λF e=>(cond (!F) (K 1 e) (Pt b λG=>Ld .ptr e.drew (G.add 2) λH=>f_ e.drew (a.add 0) λI=>f_ e.drew (a.add 1) λJ=>f_ e.drew (a.add 2) λL=>f_ e.drew (a.add 3) λM=>pF H I J L M e.drew λau r f=>Pt b λN=>Ld .ptr f.drew (N.add 2) λO=>f_ f.drew ((a.add 4).add 0) λP=>f_ f.drew ((a.add 4).add 1) λQ=>f_ f.drew ((a.add 4).add 2) λR=>rO O P Q R f.drew λav S g=>let s:Bool->Prop:=λT=>((cond T (K 9 g) (Pt b λU=>Ld .ptr g.drew (U.add 1) λV=>f_ g.drew a λW=>Pt b λt=>f_ g.drew ((t.add 5).add 20) λu=>oN V W g.drew λX j=>j.cell? ((t.add 5).add 20)=some (Value.int .i64 u)/\
 (cond (decide (X>=u)) (K 10 j) (pI b j λY i=>(cond Y (K 7 i) (Pt b λZ=>Ld .ptr i.drew (Z.add 1) λaa=>f_ i.drew a λab=>pK aa ab i.drew λaw h=>Pt b λac=>Ld .ptr h.drew ac λad=>f_ h.drew ((a.add 4).add 0) λae=>f_ h.drew ((a.add 4).add 1) λaf=>f_ h.drew ((a.add 4).add 2) λag=>rZ ad ae af ag h.drew λax d=>Pt b λah=>Ld .ptr d.drew (ah.add 2) λai=>f_ d.drew (a.add 0) λaj=>f_ d.drew (a.add 1) λak=>f_ d.drew (a.add 2) λal=>f_ d.drew (a.add 3) λam=>f_ d.drew ((a.add 4).add 0) λan=>f_ d.drew ((a.add 4).add 1) λao=>f_ d.drew ((a.add 4).add 2) λap=>xK ai aj ak al am an ao ap true d.drew λay aq ar=>K aq ar)))))))
 (cond r (s r) (s S))))))):=okF ji Tryz.func35 .leaf (by kernel_rfl)
theorem aat {c w K}:iH (yJ c w K)
 (Al w (.cells ⟨(jH 0 0 0 0 0 0 0 0 0 0 0 0 0 0 0 0)⟩ 28) λe i=>Al i (.cells ⟨(jH 0 0 0 0 0 0 0 0 0 0 0 0 0 0 0 0)⟩ 28) λd j=>iT (S:=Int×Unit) (λa b k=>let f:Bool->Prop:=λl=>((cond l (iO c 1 a.1 λm=>f_ b m λg=>(65536:Int)≠0/\
 (65536:Int)≠0/\
 (256:Int)≠0/\
 (256:Int)≠0/\
 (0:Int)<=(IntKind.i64.wrap (2 * a.1))/\(IntKind.i64.wrap (2 * a.1))<(16:Int)/\
 St b (d.add (Int.toNat (IntKind.i64.wrap (2 * a.1)) * 1)) (Value.int .u8 (IntKind.u8.wrap (IntKind.i64.wrap (Int.tdiv (Int.tmod (IntKind.i64.wrap ((Int.tmod g 65536)+65536)) 65536) 256)))) λn=>(0:Int)<=(IntKind.i64.wrap ((IntKind.i64.wrap (2 * a.1))+1))/\(IntKind.i64.wrap ((IntKind.i64.wrap (2 * a.1))+1))<(16:Int)/\
 St n (d.add (Int.toNat (IntKind.i64.wrap ((IntKind.i64.wrap (2 * a.1))+1)) * 1)) (Value.int .u8 (IntKind.u8.wrap (Int.tmod (Int.tmod (IntKind.i64.wrap ((Int.tmod g 65536)+65536)) 65536) 256))) λo=>k ((IntKind.i64.wrap (a.1+1)),()) o) (oV b d λp q r s t u v x y z A B C D E F=>lM (jH p q r s t u v x y z A B C D E F) b e 0 λh=>oV h e λG H I J L M N O P Q R T U V W X=>K G H I J L M N O P Q R T U V W X h)))
 (cond (decide (a.1<(c.len:Int))) (f (decide (a.1<8))) (f false))) (0,()) j):=okF ji Tryz.func36 (ig (ig (.seq (ig (.blk (.loop [(4,(.int .i64))] .leaf))) .leaf))) (by kernel_rfl)
theorem Ou {a w K}:iH (qO a w K)
 (jR a w λc b=>(cond (!c) (K 0 b) (Pt a λd=>f_ b (d.add 41) λe=>K e b))):=okF ji Tryz.func37 .leaf (by kernel_rfl)
theorem Ig {b a w K}:iH (kH b a w K)
 (kE b w λi d=>(cond (!i) (K ⟨none,0,0⟩ d) (Pt b λj=>f_ d (j.add 449) λc=>iT (S:=iq×Unit) (λe k l=>qh b k λf m g=>let h:Bool->Prop:=λn=>((cond n (lU b (if (if (1099511627776:Int)<a then 1099511627776 else a)>c then (if (1099511627776:Int)<a then 1099511627776 else a) else c) g λo=>K e.1 o) (lU b f g λp=>rC b p λq r=>j_ 3 1 8 [(Value.int .i64 0)] e.1 q r λs t=>l (s,()) t)))
 (cond (!m) (h true) (h (decide (f>(if (if (1099511627776:Int)<a then 1099511627776 else a)>c then (if (1099511627776:Int)<a then 1099511627776 else a) else c)))))) (⟨none,0,0⟩,()) d))):=okF ji Tryz.func38 (ig (ig (ig (ig (ig (.seq (.blk (.loop [(5,.slice)] .leaf)) .leaf)))))) (by kernel_rfl)
theorem Kq {a w K}:iH (kD a w K)
 (let b:Bool->Prop:=λc=>(K c w)
 (cond (!(Option.isNone a)) (Pt a λd=>Ld .ptr w d λe=>b (!(Option.isNone e))) (b false))):=okF ji Tryz.func39 .leaf (by kernel_rfl)
theorem YU {a w K}:iH (Jd a w K)
 (Al w (.cells ⟨(iU 0 0 0 0 0 0 0 0 0 0 0 0 0 0 0 0 0 0 0 0 0 0 0 0 0 0 0 0 0 0 0 0 0)⟩ 51) λb d=>Hq a 1 d λe f g h i j k l m n o p q r s t u v x y z A B C D E F G H I J L M N O=>lM (iU e f g h i j k l m n o p q r s t u v x y z A B C D E F G H I J L M) O b 0 λc=>jD c b λP Q R S T U V W X Y Z aa ab ac ad ae af ag ah ai aj ak al am an ao ap aq ar au av aw ax=>K P Q R S T U V W X Y Z aa ab ac ad ae af ag ah ai aj ak al am an ao ap aq ar au av aw ax N c):=okF ji Tryz.func40 .leaf (by kernel_rfl)
theorem WL {b w K}:iH (zA b w K)
 (Al w (.cells ⟨(jH 0 0 0 0 0 0 0 0 0 0 0 0 0 0 0 0)⟩ 28) λc f=>Dk f λg h i j k l m n o p q r s t u v x=>Al x (.cells ⟨(jH 0 0 0 0 0 0 0 0 0 0 0 0 0 0 0 0)⟩ 28) λa y=>lM (jH g h i j k l m n o p q r s t u v) y a 0 λz=>uP a 16 1 12 (16:Int) λA=>BH ⟨none,0,0⟩ (DY .i64 b 4294967295) 4 z.drew λB C=>Nv 1 A B C λak d=>oV d a λD E F G H I J L M N O P Q R S T=>lM (jH D E F G H I J L M N O P Q R S T) d c 0 λe=>oV e c λU V W X Y Z aa ab ac ad ae af ag ah ai aj=>K U V W X Y Z aa ab ac ad ae af ag ah ai aj e):=okF ji Tryz.func41 .leaf (by kernel_rfl)
theorem Oy {g i j k l m n o p q r s t u v x y z A B C D E F G H I J L M N O P Q R S T U w K}:iH (zB g i j k l m n o p q r s t u v x y z A B C D E F G H I J L M N O P Q R S T U w K)
 (Al w (.cells ⟨[.int .i64 i,.int .i64 j,.int .i64 k,.int .i64 l]⟩ 78) λd w4=>Al w4 (.cells ⟨(iU m n o p q r s t u v x y z A B C D E F G H I J L M N O P Q R S T U)⟩ 51) λc w6=>Al w6 (.cells ⟨(iU 0 0 0 0 0 0 0 0 0 0 0 0 0 0 0 0 0 0 0 0 0 0 0 0 0 0 0 0 0 0 0 0 0)⟩ 51) λe b=>Pt g λae=>Ld .map b.drew (ae.add 2) λaf=>f_ b.drew (d.add 0) λag=>f_ b.drew (d.add 1) λah=>f_ b.drew (d.add 2) λai=>f_ b.drew (d.add 3) λaj=>EO Tryz.prog 78 af (Value.agg ⟨[.int .i64 ag,.int .i64 ah,.int .i64 ai,.int .i64 aj]⟩) (Value.pointer none) b.drew λak V=>∃h:g_,ak=(Value.pointer h)/\
 f_ b.drew (c.add 29) λal=>f_ b.drew (c.add 32) λam=>f_ b.drew (c.add 31) λan=>Al b.drew (.cells ⟨[.int .i64 0,.int .i64 0,.int .i64 0]⟩ 80) λf ao=>lM [.int .i64 al,.int .i64 am,.int .i64 an] ao f 0 λa=>let W:Bool->Prop:=λap=>((cond ap (nH g h a λX=>jD X.drew c λaq ar au av aw ax ay az aA aB aC aD aE aF aG aH aI aJ aK aL aM aN aO aP aQ aR aS aT aU aV aW aX aY=>lM (iU aq ar au av aw ax ay az aA aB aC aD aE aF aG aH aI aJ aK aL aM aN aO aP aQ aR aS aT aU aV aW aX aY) X.drew e 0 λY=>jD Y e λaZ a1 a2 a3 a4 a6 a8 ba bb bc bd be bf bg bh bi bj bk bl bm bn bo bp bq br bs bt bu bv bw bx bz bA=>K 0 aZ a1 a2 a3 a4 a6 a8 ba bb bc bd be bf bg bh bi bj bk bl bm bn bo bp bq br bs bt bu bv bw bx bz bA Y) (f_ a c λbB=>(cond (bB==0) (jD a.drew c λbC bD bE bF bG bH bI bJ bK bL bM bN bO bP bQ bR bS bT bU bV bW bX bY bZ b0 b1 b2 b3 b4 b5 b6 b7 b8=>lM (iU bC bD bE bF bG bH bI bJ bK bL bM bN bO bP bQ bR bS bT bU bV bW bX bY bZ b0 b1 b2 b3 b4 b5 b6 b7 b8) a.drew e 0 λZ=>jD Z e λb9 ca cb cc cd ce cf cg ch ci cj ck cl cm cn co cp cq cr cs ct cu cv cw cx cy cz cA cB cC cD cE cF=>K 0 b9 ca cb cc cd ce cf cg ch ci cj ck cl cm cn co cp cq cr cs ct cu cv cw cx cy cz cA cB cC cD cE cF Z) (cond V (f_ a (f.add 0) λcG=>f_ a (f.add 1) λcH=>f_ a (f.add 2) λcI=>jD a c λcJ cK cL cM cN cO cP cQ cR cS cT cU cV cW cX cY cZ c0 c1 c2 c3 c4 c5 c6 c7 c8 c9 da db dc dd de df=>wZ g h cG cH cI cJ cK cL cM cN cO cP cQ cR cS cT cU cV cW cX cY cZ c0 c1 c2 c3 c4 c5 c6 c7 c8 c9 da db dc dd de df a λdg dh di dj dk dl dm dn dp dq dr ds dt du dv dw dx dy dz dA dB dC dD dE dF dG dH dI dJ dK dL dM dN dO dP=>lM (iU dh di dj dk dl dm dn dp dq dr ds dt du dv dw dx dy dz dA dB dC dD dE dF dG dH dI dJ dK dL dM dN dO) dP e 0 λaa=>jD aa e λdQ dR dS dT dU dV dW dX dY dZ d0 d1 d2 d3 d4 d5 d6 d7 d8 d9 ea eb ec ed ee ef eg eh ei ej ek el em=>K dg dQ dR dS dT dU dV dW dX dY dZ d0 d1 d2 d3 d4 d5 d6 d7 d8 d9 ea eb ec ed ee ef eg eh ei ej ek el em aa) (f_ a (d.add 0) λen=>f_ a (d.add 1) λeo=>f_ a (d.add 2) λep=>f_ a (d.add 3) λeq=>f_ a (f.add 0) λer=>f_ a (f.add 1) λes=>f_ a (f.add 2) λet=>jD a c λeu ev ew ex ey ez eA eB eC eD eE eF eG eH eI eJ eK eL eM eN eO eP eQ eR eS eT eU eV eW eX eY eZ e0=>wY g en eo ep eq er es et eu ev ew ex ey ez eA eB eC eD eE eF eG eH eI eJ eK eL eM eN eO eP eQ eR eS eT eU eV eW eX eY eZ e0 a λe1 e2 e3 e4 e5 e6 e7 e8 e9 fa fb fc fd fe ff fg fh fi fj fk fl fm fn fo fp fq fr fs ft fu fv fw fx fy fz=>lM (iU e2 e3 e4 e5 e6 e7 e8 e9 fa fb fc fd fe ff fg fh fi fj fk fl fm fn fo fp fq fr fs ft fu fv fw fx fy) fz e 0 λab=>jD ab e λfA fB fC fD fE fF fG fH fI fJ fK fL fM fN fO fP fQ fR fS fT fU fV fW fX fY fZ f0 f1 f2 f3 f4 f5 f6=>K e1 fA fB fC fD fE fF fG fH fI fJ fK fL fM fN fO fP fQ fR fS fT fU fV fW fX fY fZ f0 f1 f2 f3 f4 f5 f6 ab))))))
 f_ a c λf7=>(cond (f7==0) (W V) (W false))):=okF ji Tryz.func42 .leaf (by kernel_rfl)
theorem WJ {e f g h i j k l m n o p q r s t u v x y z A B C D E F G H I J L M N O w K}:iH (wC e f g h i j k l m n o p q r s t u v x y z A B C D E F G H I J L M N O w K)
 (Al w (.cells ⟨(Nc e f g h i j k l m n o p q r s t u v x y z A B C D E F G H I J L M N O)⟩ 53) λa P=>let Q:Bool->b_:=λS c=>((cond S (K ⟨none,0,0⟩ 1 c) (f_ c a λT=>Al c (.cells ⟨[.int .i64 2,.int .i64 1,.int .i64 129,.int .i64 1,.int .i64 0,.int .i64 1,.int .i64 T,.int .i64 1]⟩ 233) λU V=>wE ⟨none,0,0⟩ ⟨(some U),4,4⟩ V λW d=>f_ d (a.add 2) λX=>f_ d (a.add 1) λY=>Al d (.cells ⟨(ahW X 4 Y 4 0 4 0 4 0 4)⟩ 233) λZ aa=>wE W ⟨(some Z),5,5⟩ aa λab R=>jD R (a.add 2) λac ad ae af ag ah ai aj ak al am an ao ap aq ar au av aw ax ay az aA aB aC aD aE aF aG aH aI aJ aK=>rX ac ad ae af ag ah ai aj ak al am an ao ap aq ar au av aw ax ay az aA aB aC aD aE aF aG aH aI aJ aK ab R λaL aM=>K aL 0 aM)))
 jD P (a.add 2) λaN aO aP aQ aR aS aT aU aV aW aX aY aZ a0 a1 a2 a4 a5 a6 a7 a8 ba bb bc bd be bf bg bh bi bj bk bl=>uM aN aO aP aQ aR aS aT aU aV aW aX aY aZ a0 a1 a2 a4 a5 a6 a7 a8 ba bb bc bd be bf bg bh bi bj bk bl P λbm b=>(cond (!bm) (Q true b) (f_ b a λbn=>f_ b (a.add 1) λbo=>Al b (.cells ⟨[.int .i64 bn,.int .i64 1,.int .i64 bo,.int .i64 4]⟩ 233) λbp bq=>DK ⟨(some bp),2,2⟩ bq λbr bs=>Q (!br) bs))):=okF ji Tryz.func43 .leaf (by kernel_rfl)
theorem YT {c d e f g h i j k l m n o p q r s t u v x y z A B C D E F G H I J w K}:iH (BM c d e f g h i j k l m n o p q r s t u v x y z A B C D E F G H I J w K)
 (Al w (.cells ⟨(iU c d e f g h i j k l m n o p q r s t u v x y z A B C D E F G H I J)⟩ 51) λa L=>jD L a λx4 x5 x6 x7 x8 x9 aD aE aF aG aH aI aJ aK aL aM aN aO aP aQ aR aS aT aU aV aW aX aY aZ a0 a1 a2 a4=>uM x4 x5 x6 x7 x8 x9 aD aE aF aG aH aI aJ aK aL aM aN aO aP aQ aR aS aT aU aV aW aX aY aZ a0 a1 a2 a4 L λa5 b=>(cond (!a5) (K ⟨none,0,0⟩ 1 b) (f_ b a λa6=>Al b (.cells ⟨[.int .i64 2,.int .i64 1,.int .i64 1,.int .i64 1,.int .i64 0,.int .i64 2,.int .i64 a6,.int .i64 4]⟩ 233) λa7 a8=>wE ⟨none,0,0⟩ ⟨(some a7),4,4⟩ a8 λa9 M=>jD M.drew a λN O P Q R S T U V W X Y Z aa ab ac ad ae af ag ah ai aj ak al am an ao ap aq ar au av=>uP (a.add 1) 16 1 0 (16:Int) λba=>j_ 5 1 1 [(Value.int .u8 0)] a9 ba M.drew λbb aw=>CkN (iU N O P Q R S T U V W X Y Z aa ab ac ad ae af ag ah ai aj ak al am an ao ap aq ar au av) aw a 0 (
 rX N O P Q R S T U V W X Y Z aa ab ac ad ae af ag ah ai aj ak al am an ao ap aq ar au av bb aw λbc bd=>K bc 0 bd)))):=okF ji Tryz.func44 .leaf (by kernel_rfl)
theorem OD {a b d w K}:iH (oC a b d w K)
 (kE a w λB g=>(cond (!B) (K 2 g) (let i:Bool->Prop:=λC=>((cond C (K 1 g) (Pt a λD=>Ld .map g (D.add 448) λE=>EO Tryz.prog 3 E (Value.int .i64 b) (Value.agg ⟨[.int .i64 0,.int .i64 0,.int .i64 0]⟩) g λF o=>∃p:Int,∃q:Int,∃r:Int,F=(Value.agg ⟨[.int .i64 p,.int .i64 q,.int .i64 r]⟩)/\
 Al g (.cells ⟨[.int .i64 0,.int .i64 0,.int .i64 0]⟩ 237) λj G=>lM [.int .i64 p,.int .i64 q,.int .i64 r] G j 0 λe=>let s:Bool->b_:=λH f=>((cond H (K 7 f) (let t:b_:=λu=>(Pt a λI=>f_ u (I.add 450) λJ=>Pt a λL=>St u (L.add 450) (.int .i64 (IntKind.i64.wrap (J+1))) λl=>Pt a λv=>f_ l.drew (v.add 449) λm=>Pt a λx=>f_ l.drew (x.add 450) λy=>Al l.drew (.cells ⟨[.int .i64 0,.int .i64 0,.int .i64 0]⟩ 237) λc n=>n.cell? (x.add 450)=some (Value.int .i64 y)/\
 n.cell? (v.add 449)=some (Value.int .i64 m)/\
 lM [.int .i64 b,.int .i64 (if m>d then m else d),.int .i64 y] n c 0 λh=>Pt a λM=>Ld .map h.drew (M.add 448) λN=>f_ h.drew (c.add 0) λO=>f_ h.drew (c.add 1) λP=>f_ h.drew (c.add 2) λQ=>CU Tryz.prog 3 N (Value.int .i64 b) (Value.agg ⟨[.int .i64 O,.int .i64 P,.int .i64 Q]⟩) h.drew λk=>f_ k (c.add 0) λR=>f_ k (c.add 1) λS=>f_ k (c.add 2) λT=>oD a R S T k λU=>K 0 U)
 (cond o (f_ f (j.add 0) λV=>f_ f (j.add 1) λW=>f_ f (j.add 2) λX=>nO a V W X f λY=>t Y) (t f)))))
 (cond (!o) (Pt a λZ=>Ld .map e.drew (Z.add 448) λaa=>Pt a λz=>f_ e.drew (z.add 451) λA=>Qw e.drew aa λab=>e.drew.cell? (z.add 451)=some (Value.int .i64 A)/\
 s (decide (ab>=A)) e.drew) (s false e.drew)))))
 (cond (decide (b<0)) (i (decide (b<0))) (cond (decide (b>2147483648)) (i (decide (b>2147483648))) (cond (decide (d<0)) (i (decide (d<0))) (i (decide (d>1099511627776))))))))):=okF ji Tryz.func45 .leaf (by kernel_rfl)
theorem MI {b c w K}:iH (nH b c w K)
 (Pt b λh=>Ld .ptr w.drew h λi=>Pt c λd=>f_ w.drew (d.add 0) λj=>f_ w.drew (d.add 1) λk=>f_ w.drew (d.add 2) λl=>f_ w.drew (d.add 3) λm=>oM i j k l m w.drew λD f=>Pt b λn=>Ld .ptr f.drew (n.add 1) λo=>Pt c λp=>f_ f.drew (p.add 8) λq=>lS o q f.drew λE a=>Pt b λr=>Ld .map a.drew (r.add 2) λs=>Pt c λe=>f_ a.drew (e.add 0) λt=>f_ a.drew (e.add 1) λu=>f_ a.drew (e.add 2) λv=>f_ a.drew (e.add 3) λx=>G_ Tryz.prog 78 s (Value.agg ⟨[.int .i64 t,.int .i64 u,.int .i64 v,.int .i64 x]⟩) a.drew λg=>Pt b λy=>Ld .map g.drew (y.add 3) λz=>Pt c λA=>f_ g.drew (A.add 8) λB=>G_ Tryz.prog 3 z (Value.int .i64 B) g.drew λC=>K C):=okF ji Tryz.func46 .leaf (by kernel_rfl)
theorem J8 {a w K}:iH (jR a w K)
 (let b:Bool->Prop:=λc=>(K c w)
 (cond (!(Option.isNone a)) (Pt a λd=>Ld .ptr w d λe=>b (!(Option.isNone e))) (b false))):=okF ji Tryz.func47 .leaf (by kernel_rfl)
theorem OE {b w K}:iH (mO b w K)
 (kE b w λc a=>(cond (!c) (K 0 a) (Pt b λd=>Ld .map a (d.add 448) λe=>Qw a e λf=>K f a))):=okF ji Tryz.func48 .leaf (by kernel_rfl)
theorem Ve {a w K}:iH (Bl a w K)
 (jr (Value.pointer a)=true/\
 Al w (.cells ⟨[.pointer a]⟩ 87) λb c=>K (Value.func (.func 112) #[] #[(Value.pointer (some b))]) c):=okF ji Tryz.func49 .leaf (by kernel_rfl)
theorem KC {a w K}:iH (w_ a w K)
 (jr (Value.pointer a)=true/\
 Al w (.cells ⟨[.pointer a]⟩ 88) λb c=>K (Value.func (.func 114) #[] #[(Value.pointer (some b))]) c):=okF ji Tryz.func50 .leaf (by kernel_rfl)
theorem aar {e g w K}:iH (Hq e g w K)
 (jr (Value.slice e.a e.len e.cap)=true/\
 Al w (.cells ⟨[.slice e.a e.len e.cap]⟩ 39) λb D=>Al D (.cells ⟨(iU 0 0 0 0 0 0 0 0 0 0 0 0 0 0 0 0 0 0 0 0 0 0 0 0 0 0 0 0 0 0 0 0 0)⟩ 51) λc d=>Ld .slice d b λE=>(cond (decide ((E.len:Int)<60)) (lM (iU 0 0 0 0 0 0 0 0 0 0 0 0 0 0 0 0 0 0 0 0 0 0 0 0 0 0 0 0 0 0 0 0 0) d c 0 λh=>jD h c λF G H I J L M N O P Q R S T U V W X Y Z aa ab ac ad ae af ag ah ai aj ak al am=>K F G H I J L M N O P Q R S T U V W X Y Z aa ab ac ad ae af ag ah ai aj ak al am 3 h) (Ld .slice d b λan=>(cond (decide ((an.len:Int)>60)) (lM (iU 0 0 0 0 0 0 0 0 0 0 0 0 0 0 0 0 0 0 0 0 0 0 0 0 0 0 0 0 0 0 0 0 0) d c 0 λi=>jD i c λao ap aq ar au av aw ax ay az aA aB aC aD aE aF aG aH aI aJ aK aL aM aN aO aP aQ aR aS aT aU aV aW=>K ao ap aq ar au av aw ax ay az aA aB aC aD aE aF aG aH aI aJ aK aL aM aN aO aP aQ aR aS aT aU aV aW 6 i) (let j:Bool->Prop:=λaX=>((cond aX (lM (iU 0 0 0 0 0 0 0 0 0 0 0 0 0 0 0 0 0 0 0 0 0 0 0 0 0 0 0 0 0 0 0 0 0) d c 0 λk=>jD k c λaY aZ a2 a3 a5 a7 a8 a9 ba bb bc bd be bf bg bh bi bj bk bl bm bn bo bp bq br bs bt bu bv bw bx bz=>K aY aZ a2 a3 a5 a7 a8 a9 ba bb bc bd be bf bg bh bi bj bk bl bm bn bo bp bq br bs bt bu bv bw bx bz 4 k) (Al d (.cells ⟨(jH 0 0 0 0 0 0 0 0 0 0 0 0 0 0 0 0)⟩ 28) λl m=>uP l 16 1 0 (16:Int) λbA=>Ld .slice m.drew b λn=>BF n 1 44 (n.len:Int) λbB=>Nv 1 bA bB m.drew λdO o=>oV o l λbC bD bE bF bG bH bI bJ bK bL bM bN bO bP bQ bR=>Je bC bD bE bF bG bH bI bJ bK bL bM bN bO bP bQ bR o λbS bT p=>(cond (!bT) (lM (iU 0 0 0 0 0 0 0 0 0 0 0 0 0 0 0 0 0 0 0 0 0 0 0 0 0 0 0 0 0 0 0 0 0) p c 0 λq=>jD q c λbU bV bW bX bY bZ b0 b1 b2 b3 b4 b5 b6 b7 b8 b9 ca cb cc cd ce cf cg ch ci cj ck cl cm cn co cp cq=>K bU bV bW bX bY bZ b0 b1 b2 b3 b4 b5 b6 b7 b8 b9 ca cb cc cd ce cf cg ch ci cj ck cl cm cn co cp cq 4 q) (lJ Tryz.prog [.one (.int .i64)] (Value.func (.func 117) #[] #[(Value.pointer (some b))]) [(Value.int .i64 4),(Value.int .i64 4)] p λcr cs=>∃r:Int,cr=(Value.int .i64 r)/\
 lJ Tryz.prog [.one (.int .i64)] (Value.func (.func 117) #[] #[(Value.pointer (some b))]) [(Value.int .i64 36),(Value.int .i64 1)] cs λct cu=>∃s:Int,ct=(Value.int .i64 s)/\
 lJ Tryz.prog [.one (.int .i64)] (Value.func (.func 117) #[] #[(Value.pointer (some b))]) [(Value.int .i64 40),(Value.int .i64 2)] cu λcv cw=>∃t:Int,cv=(Value.int .i64 t)/\
 lJ Tryz.prog [.one (.int .i64)] (Value.func (.func 117) #[] #[(Value.pointer (some b))]) [(Value.int .i64 42),(Value.int .i64 2)] cw λcx cy=>∃u:Int,cx=(Value.int .i64 u)/\
 Al cy (.cells ⟨(iU 0 0 0 0 0 0 0 0 0 0 0 0 0 0 0 0 0 0 0 0 0 0 0 0 0 0 0 0 0 0 0 0 0)⟩ 51) λf cz=>lM (iU r 0 0 0 0 0 0 0 0 0 0 0 0 0 0 0 0 0 0 0 0 0 0 0 0 0 0 0 0 s t u bS) cz f 0 λv=>uP (f.add 1) 16 1 0 (16:Int) λcA=>Ld .slice v.drew b λx=>BF x 1 8 (x.len:Int) λcB=>Nv 1 cA cB v.drew λdP y=>uP (f.add 17) 12 1 0 (12:Int) λcC=>Ld .slice y.drew b λz=>BF z 1 24 (z.len:Int) λcD=>Nv 1 cC cD y.drew λdQ A=>jD A f λcE cF cG cH cI cJ cK cL cM cN cO cP cQ cR cS cT cU cV cW cX cY cZ c0 c1 c2 c3 c4 c5 c6 c7 c8 c9 da=>lM (iU cE cF cG cH cI cJ cK cL cM cN cO cP cQ cR cS cT cU cV cW cX cY cZ c0 c1 c2 c3 c4 c5 c6 c7 c8 c9 da) A c 0 λB=>jD B c λdb dc dd de df dg dh di dj dk dl dm dn dp dq dr ds dt du dv dw dx dy dz dA dB dC dD dE dF dG dH dI=>K db dc dd de df dg dh di dj dk dl dm dn dp dq dr ds dt du dv dw dx dy dz dA dB dC dD dE dF dG dH dI 0 B)))))
 Ld .slice d b λdJ=>iO dJ 1 0 λdK=>Ld (.int .u8) d dK λC=>(cond (C !=2) (j (C !=2)) (Ld .slice d b λdL=>iO dL 1 1 λdM=>Ld (.int .u8) d dM λdN=>j (dN !=g)))))))):=okF ji Tryz.func51 .leaf (by kernel_rfl)
theorem adW {c d e w K}:iH (D5 c d e w K)
 (BJ c d e w λf g h=>iT (S:=Int×Int×Unit) (λa b i=>(cond (decide (a.2.1<(f.len:Int))) (iO f 1 a.2.1 λj=>Ld (.int .u8) b j λk=>0<=(8:Int)/\
 i ((orI .i64 (ab7 .i64 a.1 8) (IntKind.i64.wrap k)),(IntKind.i64.wrap (a.2.1+1)),()) b) (K a.1 g b))) (0,0,()) h):=okF ji Tryz.func52 (ig (ig (ig (.seq (ig (.blk (.loop [(10,(.int .i64)),(22,(.int .i64))] .leaf))) .leaf)))) (by kernel_rfl)
theorem Vq {d e f g h i j k l m n o p q r s t u v x y z A B C D E F G H I J L M N O w K}:iH (xQ d e f g h i j k l m n o p q r s t u v x y z A B C D E F G H I J L M N O w K)
 (Al w (.cells ⟨(jV d e f g h i j k l m n o p q r s t u v x y z A B C D E F G H I J L M N O)⟩ 33) λb a=>let c:Bool->Prop:=λP=>(K P a)
 Ld .slice a (b.add 16) λQ=>(cond (decide ((Q.len:Int)<=8)) (Ld .slice a (b.add 17) λR=>(cond (decide ((R.len:Int)<=4)) (Ld .slice a (b.add 35) λS=>c (decide ((S.len:Int)<=12))) (c false))) (c false))):=okF ji Tryz.func53 .leaf (by kernel_rfl)
theorem Vs {d e f g h i j k l m n o p q r s t u v x y z A B C D E F G H I J L M N O w K}:iH (uN d e f g h i j k l m n o p q r s t u v x y z A B C D E F G H I J L M N O w K)
 (Al w (.cells ⟨(jV d e f g h i j k l m n o p q r s t u v x y z A B C D E F G H I J L M N O)⟩ 33) λa P=>let Q:Bool->b_:=λS b=>((cond S (K 1 b) (vH b a λT U V W X Y Z aa ab ac ad ae af ag ah ai aj ak al am an ao ap aq ar au av aw ax ay az aA aB aC aD aE=>xY T U V W X Y Z aa ab ac ad ae af ag ah ai aj ak al am an ao ap aq ar au av aw ax ay az aA aB aC aD aE b λaF R=>(cond aF (K 9 R) (K 0 R)))))
 vH P a λaG aH aI aJ aK aL aM aN aO aP aQ aR aS aT aU aV aW aX aY aZ a0 a1 a2 a4 a5 a6 a7 a8 a9 ba bb bc bd be bf bg=>um aG aH aI aJ aK aL aM aN aO aP aQ aR aS aT aU aV aW aX aY aZ a0 a1 a2 a4 a5 a6 a7 a8 a9 ba bb bc bd be bf bg P λbh c=>(cond (!bh) (Q true c) (vH c a λbi bj bk bl bm bn bo bp bq br bs bt bu bv bw bx bz bA bB bC bD bE bF bG bH bI bJ bK bL bM bN bO bP bQ bR bS=>xX bi bj bk bl bm bn bo bp bq br bs bt bu bv bw bx bz bA bB bC bD bE bF bG bH bI bJ bK bL bM bN bO bP bQ bR bS c λbT bU=>Q (!bT) bU))):=okF ji Tryz.func54 .leaf (by kernel_rfl)
theorem GI {a0 f0 w K}:iH (Hr a0 f0 w K)
 (Ld .ptr w f0 λk=>kD k w λl c=>(cond (!l) (K c) (Ld .ptr c f0 λm=>Pt m λn=>Ld .map c (n.add 2) λo=>aa7 o c λb p=>iT (S:=iq×Unit) (λd q r=>b=⟨b.block,0,none⟩/\
 aey b.block q (λs=>jd d.1 (Value.func (.func 57) #[] #[]) s λt=>iT (S:=Int×Unit) (λf a u=>(cond (decide (f.1<(d.1.len:Int))) (iO d.1 1 f.1 λv=>Ld .ptr a v λg=>Pt g λe=>f_ a.drew (e.add 0) λx=>f_ a.drew (e.add 1) λy=>f_ a.drew (e.add 2) λz=>f_ a.drew (e.add 3) λA=>Pt g λB=>f_ a.drew (B.add 7) λC=>lJ Tryz.prog [.one .bool] a0 [(Value.agg ⟨[.int .i64 x,.int .i64 y,.int .i64 z,.int .i64 A]⟩),(Value.int .i64 C)] a.drew λD h=>∃i:Bool,D=(Value.bool i)/\
 (cond (!i) (K h) (u ((IntKind.i64.wrap (f.1+1)),()) h))) (K a))) (0,()) t) (λL M j=>b=⟨b.block,0,none⟩/\
 aa1 b.block j λN E=>Kind.dec .ptr E λF=>Al j (.cells ⟨[.pointer F]⟩ 120) λG H=>j_ 120 1 8 [(Value.pointer none)] d.1 ⟨(some G),1,1⟩ H λI J=>r (I,()) J)) (⟨none,0,0⟩,()) p))):=okF ji Tryz.func55 (ig (ig (.seq (ig (.blk (.loop [(3,.slice)] .leaf))) (ig (ig (.blk (.loop [(28,(.int .i64))] .leaf))))))) (by kernel_rfl)
theorem uU {a b w K}:iH (jd a b w K)
 (oI (IntKind.u64.wrap (a.len:Int)) w λc d=>jf a 0 (a.len:Int) c b d λe=>K e):=okF ji Tryz.func56 .leaf (by kernel_rfl)
theorem WR {b c w K}:iH (Ht b c w K)
 (Pt b λr=>f_ w.drew r λs=>Pt c λt=>f_ w.drew t λu=>Pt b λn=>f_ w.drew (n.add 1) λo=>Pt c λp=>f_ w.drew (p.add 1) λq=>Pt b λi=>f_ w.drew (i.add 2) λj=>Pt c λk=>f_ w.drew (k.add 2) λl=>Pt b λe=>f_ w.drew (e.add 3) λf=>Pt c λg=>f_ w.drew (g.add 3) λh=>jX s u w.drew λv a=>a.cell? (g.add 3)=some (Value.int .i64 h)/\
 a.cell? (e.add 3)=some (Value.int .i64 f)/\
 a.cell? (k.add 2)=some (Value.int .i64 l)/\
 a.cell? (i.add 2)=some (Value.int .i64 j)/\
 a.cell? (p.add 1)=some (Value.int .i64 q)/\
 a.cell? (n.add 1)=some (Value.int .i64 o)/\
 jX o q a λx d=>d.cell? (g.add 3)=some (Value.int .i64 h)/\
 d.cell? (e.add 3)=some (Value.int .i64 f)/\
 d.cell? (k.add 2)=some (Value.int .i64 l)/\
 d.cell? (i.add 2)=some (Value.int .i64 j)/\
 jX j l d λy m=>m.cell? (g.add 3)=some (Value.int .i64 h)/\
 m.cell? (e.add 3)=some (Value.int .i64 f)/\
 jX f h m λz A=>Al A (.cells ⟨[.int .i64 v,.int .i64 x,.int .i64 y,.int .i64 z]⟩ 3) λB C=>zy ⟨(some B),4,4⟩ C λD E=>K D E):=okF ji Tryz.func57 .leaf (by kernel_rfl)
theorem Ib {a d w K}:iH (kG a d w K)
 (Pt a λh=>Ld .ptr w (h.add 2) λi=>uI i d w λj k l m n o p q r s=>Al s (.cells ⟨[.int .i64 0,.int .i64 0,.int .i64 0,.int .i64 0,.int .i64 0,.int .i64 0,.int .i64 0,.bool false]⟩ 130) λb t=>lM [.int .i64 j,.int .i64 k,.int .i64 l,.int .i64 m,.int .i64 n,.int .i64 o,.int .i64 p,.bool q] t b 0 λf=>(cond (!r) (K f) (ng a d f λg=>Pt a λu=>Ld .ptr g (u.add 2) λv=>rP v d g λG c=>Pt a λx=>Ld .ptr c.drew x λy=>f_ c.drew ((b.add 4).add 0) λz=>f_ c.drew ((b.add 4).add 1) λA=>f_ c.drew ((b.add 4).add 2) λB=>rY y z A B c.drew λH e=>Pt a λC=>Ld .ptr e.drew (C.add 1) λD=>f_ e.drew b λE=>pJ D E e.drew λI F=>K F))):=okF ji Tryz.func71 .leaf (by kernel_rfl)
theorem JZ {d f w K}:iH (ng d f w K)
 (jr (Value.pointer d)=true/\
 Al w (.cells ⟨[.pointer d]⟩ 23) λg e=>Ld .ptr e g λj=>Pt j λk=>Ld .ptr e (k.add 3) λl=>qg l f e λm a=>F7 Tryz.prog none [.one (.int .i64),.agg [(.int .i64),(.int .i64),(.int .i64),(.int .i64),(.int .i64)]] m a (λb n c o=>c.heap[b]? =c.heap[b]? /\
 Ld .ptr (iD c b) g λp=>Jb p n.1 (iD c b) λq=>o .normal q)
 (λh=>h.heap[a.heap.size]? =some (.deferred (some []))/\
 K (h.putObj a.heap.size (.deferred none)))
 (λi=>i.heap[a.heap.size]? =some (.deferred (some []))/\
 K (i.putObj a.heap.size (.deferred none)))
 []):=okF ji Tryz.func76 (ig (ig (.blk (.rng [.one (.int .i64),.agg [(.int .i64),(.int .i64),(.int .i64),(.int .i64),(.int .i64)]] .leaf .leaf)))) (by kernel_rfl)
theorem Rj {c d e f g h i j k l m n o p q r s t u v x y z A B C D E F G H I J L M N w K}:iH (uj c d e f g h i j k l m n o p q r s t u v x y z A B C D E F G H I J L M N w K)
 (Al w (.cells ⟨(jV c d e f g h i j k l m n o p q r s t u v x y z A B C D E F G H I J L M N)⟩ 33) λb a=>Ld .slice a (b.add 16) λP=>Ld .slice a (b.add 17) λQ=>Ld .slice a (b.add 35) λR=>f_ a (b.add 21) λO=>f_ a (b.add 18) λS=>f_ a (b.add 19) λT=>f_ a (b.add 18) λU=>f_ a (b.add 20) λV=>f_ a (b.add 21) λW=>f_ a (b.add 22) λX=>f_ a (b.add 23) λY=>f_ a (b.add 24) λZ=>f_ a (b.add 25) λaa=>f_ a (b.add 26) λab=>f_ a (b.add 27) λac=>f_ a (b.add 29) λad=>f_ a (b.add 30) λae=>f_ a (b.add 31) λaf=>f_ a (b.add 32) λag=>f_ a (b.add 33) λah=>f_ a (b.add 34) λai=>Al a (.cells ⟨(ajh (P.len:Int) 1 64 (Q.len:Int) 1 16 (R.len:Int) 0 (if O<64 then O else 64) S 1 65535 T U 65535 V 1 4096 W 1 4096 X 1 4096 Y 0 4096 Z 0 67108864 aa 1280 65535 ab 1280 65535 ac 1 255 ad 0 2 ae 120 1048576 af 7440 1048576 ag 240 1048576 ah 60 1048576 ai 1 1048576)⟩ 187) λaj ak=>K ⟨(some aj),19,19⟩ ak):=okF ji Tryz.func79 .leaf (by kernel_rfl)
theorem Oj {c d e w K}:iH (kJ c d e w K)
 (Al w (.cells ⟨[.int .i64 c,.int .i64 d,.int .i64 e]⟩ 187) λb a=>let f:Bool->Prop:=λg=>(K g a)
 f_ a (b.add 1) λh=>f_ a b λi=>(cond (decide (h<=i)) (f_ a b λj=>f_ a (b.add 2) λk=>f (decide (j<=k))) (f false))):=okF ji Tryz.func80 .leaf (by kernel_rfl)
theorem TG {a w K}:iH (vN a w K)
 (let b:Bool->b_:=λc d=>(K c d)
 (cond (a==0) (b true w) (kJ a 536 65535 w λe f=>b e f))):=okF ji Tryz.func81 .leaf (by kernel_rfl)
theorem TD {e f g h i j k l m n o p q r s t u v x y z A B C D E F G H I J L M N O P w K}:iH (vK e f g h i j k l m n o p q r s t u v x y z A B C D E F G H I J L M N O P w K)
 (Al w (.cells ⟨(jV e f g h i j k l m n o p q r s t u v x y z A B C D E F G H I J L M N O P)⟩ 33) λa Q=>let R:Bool->b_:=λW b=>((cond W (K false b) (let S:Bool->b_:=λX T=>((cond X (K false T) (K true T)))
 Ld .slice b (a.add 17) λY=>jQ Y (Value.func (.func 161) #[] #[]) b λU c=>(cond U (S U c) (Ld .slice c (a.add 35) λZ=>jh Z (Value.func (.func 162) #[] #[(Value.pointer (some a))]) c λaa ab=>S aa ab)))))
 oV Q a λac ad ae af ag ah ai aj ak al am an ao ap aq ar=>AB ac ad ae af ag ah ai aj ak al am an ao ap aq ar Q λV d=>(cond (!V) (R (!V) d) (Ld .slice d (a.add 16) λau=>jE au (Value.func (.func 159) #[] #[]) d λav aw=>R av aw))):=okF ji Tryz.func82 .leaf (by kernel_rfl)
theorem P6 {F G H I J L M N O P Q R T U V W X Y Z aa ab ac ad ae af ag ah ai aj ak al am an ao ap aq w K}:iH (rQ F G H I J L M N O P Q R T U V W X Y Z aa ab ac ad ae af ag ah ai aj ak al am an ao ap aq w K)
 (Al w (.cells ⟨(jV F G H I J L M N O P Q R T U V W X Y Z aa ab ac ad ae af ag ah ai aj ak al am an ao ap aq)⟩ 33) λb f=>let J4:iq->b_:=λj5 w6=>(let g:Bool->b_:=λj8 y=>((cond j8 (K true y) (Ld .slice y (b.add 16) λau=>XU 3 1 8 [(Value.int .i64 0)] (au.len:Int) (au.len:Int) y λz av=>Ld .slice av (b.add 35) λaw=>iT (S:=Int×Unit) (λA c aG=>(cond (decide (A.1<(aw.len:Int))) (iO aw 7 A.1 λe=>f_ c (e.add 0) λaH=>f_ c (e.add 1) λaI=>f_ c (e.add 2) λaJ=>f_ c (e.add 3) λaK=>f_ c (e.add 4) λaL=>f_ c (e.add 5) λaM=>f_ c (e.add 6) λaN=>Al c (.cells ⟨[.int .i64 0,.int .i64 0,.int .i64 0,.int .i64 0,.int .i64 0,.int .i64 0,.int .i64 0]⟩ 105) λax aO=>lM [.int .i64 aH,.int .i64 aI,.int .i64 aJ,.int .i64 aK,.int .i64 aL,.int .i64 aM,.int .i64 aN] aO ax 0 λB=>f_ B ax λay=>iO z 1 ay λaP=>f_ B aP λaQ=>iO z 1 ay λaR=>St B aR (.int .i64 (IntKind.i64.wrap (aQ+1))) λaS=>aG ((IntKind.i64.wrap (A.1+1)),()) aS) (jQ z (Value.func (.func 180) #[] #[(Value.pointer (some b))]) c λaT aU=>K aT aU))) (0,()) av)))
 jY j5 (Value.func (.func 172) #[] #[]) w6 λaV aW=>mF aV aW λaX C=>(cond aX (g true C) (Ld .slice C (b.add 17) λaY=>nG aY (Value.func (.func 175) #[] #[]) C λaZ a0=>pG aZ a0 λa1 D=>(cond a1 (g true D) (Ld .slice D (b.add 35) λa2=>jK a2 (Value.func (.func 168) #[] #[]) D λa4 a5=>kZ a4 a5 λa6 E=>(cond a6 (g true E) (Ld .slice E (b.add 35) λa7=>jL a7 (Value.func (.func 169) #[] #[]) E λa8 a9=>lg a8 a9 λba bb=>g ba bb)))))))
 Ld .slice f.drew (b.add 16) λd=>oV f.drew b λh i j k l m n o p q r s t u v x=>(jI d f.drew λbc az=>CkN (jH h i j k l m n o p q r s t u v x) az b 0 (
 Al az (.cells ⟨(jH h i j k l m n o p q r s t u v x)⟩ 28) λbd aA=>aA.cell? (b.add 16)=some (Value.slice d.a d.len d.cap)/\
 j_ 28 16 16 (jH 0 0 0 0 0 0 0 0 0 0 0 0 0 0 0 0) bc ⟨(some bd),1,1⟩ aA λbe bf=>J4 be bf))/\
 (Al f.drew (.cells ⟨(jH h i j k l m n o p q r s t u v x)⟩ 28) λbg aB=>aB.cell? (b.add 16)=some (Value.slice d.a d.len d.cap)/\
 jI d aB λbh aC=>CkN (jH h i j k l m n o p q r s t u v x) aC b 0 (
 j_ 28 16 16 (jH 0 0 0 0 0 0 0 0 0 0 0 0 0 0 0 0) bh ⟨(some bg),1,1⟩ aC λbi bj=>J4 bi bj))):=okF ji Tryz.func83 (ig (ig (ig (ig (ig (ig (.seq (ig (.blk (.loop [(46,(.int .i64))] .leaf))) .leaf))))))) (by kernel_rfl)
theorem P_ {a w K}:iH (qK a w K)
 (wB a w λc b=>(cond (!c) (K false b) (Al b (.cells ⟨[.int .i64 0,.int .i64 8,.int .i64 2130706432,.int .i64 8,.int .i64 3758096384,.int .i64 3]⟩ 300) λd e=>Hl a ⟨(some d),3,3⟩ e λf g=>K (!f) g))):=okF ji Tryz.func84 .leaf (by kernel_rfl)
theorem Eu {a b w K}:iH (jF a b w K)
 (mM a b w λc d=>K (decide (c>=0)) d):=okF ji Tryz.func85 .leaf (by kernel_rfl)
theorem GN {b w K}:iH (kS b w K)
 ((cond (Option.isNone b.a) (K ⟨none,0,0⟩ w) (Al w (.cells ⟨[]⟩ 3) λc d=>j_ 3 1 8 [(Value.int .i64 0)] ⟨(some c),0,0⟩ b d λe f=>K e f))):=okF ji Tryz.func86 .leaf (by kernel_rfl)
theorem aao {a w K}:iH (yI a w K)
 (let b:Bool->Prop:=λc=>((cond c (K none 1 w) (Al w (.cells ⟨[.slice none 0 0,.int .i64 0,.int .i64 a,.bool true]⟩ 304) λd e=>K (some d) 0 e)))
 (cond (decide (a<0)) (b true) (b (decide (a>65536))))):=okF ji Tryz.func87 .leaf (by kernel_rfl)
theorem Ov {g l m n o p q r w K}:iH (qQ g l m n o p q r w K)
 (Al w (.cells ⟨[.int .i64 l,.int .i64 m,.int .i64 n,.int .i64 o,.int .i64 p,.int .i64 q,.int .i64 r]⟩ 105) λa d=>f_ d (a.add 1) λc=>let h:Bool->Prop:=λs=>((cond s (let e:Bool->b_:=λt b=>(let i:Bool->b_:=λu v=>(K u v)
 (cond t (f_ b (a.add 1) λx=>f_ b (a.add 4) λy=>(cond (x==y) (f_ b a λz=>mG g z b λA B=>i A B) (i false b))) (i false b)))
 f_ d.drew (a.add 2) λC=>qK C d.drew λD f=>(cond D (Pt g λE=>Ld .ptr f E λF=>f_ f ((a.add 4).add 1) λG=>qG F G f λH j=>(cond H (f_ j (a.add 3) λI=>yV I j λJ k=>(cond J (f_ k ((a.add 4).add 2) λL=>yV L k λM N=>e M N) (e false k))) (e false j))) (e false f))) (K false d)))
 (cond (c==1) (h (c==1)) (cond (c==6) (h (c==6)) (h (c==17))))):=okF ji Tryz.func88 .leaf (by kernel_rfl)
theorem Tt {c d e f g w K}:iH (pF c d e f g w K)
 (Al w (.cells ⟨[.int .i64 d,.int .i64 e,.int .i64 f,.int .i64 g]⟩ 78) λb k=>kP c k λl a=>(cond (!l) (K 0 false a) (Pt c λh=>Ld .ptr a.drew (h.add 1) λi=>f_ a.drew (b.add 0) λm=>f_ a.drew (b.add 1) λn=>f_ a.drew (b.add 2) λo=>f_ a.drew (b.add 3) λp=>oG m n o p a.drew λq j=>j.cell? (h.add 1)=some (Value.pointer i)/\
 o8 i q j λr s t=>K r s t))):=okF ji Tryz.func89 .leaf (by kernel_rfl)
theorem Tq {b d e f w K}:iH (rO b d e f w K)
 (Al w (.cells ⟨[.int .i64 d,.int .i64 e,.int .i64 f]⟩ 80) λc j=>kP b j λk a=>(cond (!k) (K 0 false a) (Pt b λg=>Ld .ptr a.drew (g.add 2) λh=>f_ a.drew (c.add 0) λl=>f_ a.drew (c.add 1) λm=>f_ a.drew (c.add 2) λn=>oH l m n a.drew λo i=>i.cell? (g.add 2)=some (Value.pointer h)/\
 o8 h o i λp q r=>K p q r))):=okF ji Tryz.func90 .leaf (by kernel_rfl)
theorem Ku {b c w K}:iH (oN b c w K)
 (nK b c w λd e a=>(cond (e !=0) (K 0 a) (Pt d λf=>f_ a f λg=>K g a))):=okF ji Tryz.func91 .leaf (by kernel_rfl)
theorem MG {a w K}:iH (pI a w K)
 (Pt a λe=>Ld .ptr w.drew (e.add 2) λf=>Pt a λb=>f_ w.drew ((b.add 5).add 21) λc=>xM f w.drew λg d=>d.cell? ((b.add 5).add 21)=some (Value.int .i64 c)/\
 K (decide (g>=c)) d):=okF ji Tryz.func92 .leaf (by kernel_rfl)
theorem ML {d e w K}:iH (pK d e w K)
 (nK d e w λb f a=>(cond (f !=0) (K f a) (Pt b λg=>f_ a (g.add 0) λh=>f_ a (g.add 1) λi=>pO h i a λj c=>(cond j (K 10 c) (Pt b λk=>f_ c k λl=>Pt b λm=>St c m (.int .i64 (IntKind.i64.wrap (l+1))) λn=>K 0 n))))):=okF ji Tryz.func93 .leaf (by kernel_rfl)
theorem Qg {c h i j w K}:iH (rZ c h i j w K)
 (Al w (.cells ⟨[.int .i64 h,.int .i64 i,.int .i64 j]⟩ 80) λb n=>mJ c n λo f=>(cond (!o) (K 2 f) (let e:Bool->b_:=λp a=>((cond p (K 1 a) (Pt c λq=>Ld .map a.drew (q.add 3) λr=>f_ a.drew (b.add 0) λs=>f_ a.drew (b.add 1) λt=>f_ a.drew (b.add 2) λu=>wV Tryz.prog 80 .bool r (Value.agg ⟨[.int .i64 s,.int .i64 t,.int .i64 u]⟩) (Value.bool false) a.drew λv=>(cond v (K 9 a.drew) (Pt c λx=>Ld .map a.drew.drew (x.add 3) λy=>f_ a.drew.drew (b.add 0) λz=>f_ a.drew.drew (b.add 1) λA=>f_ a.drew.drew (b.add 2) λB=>CU Tryz.prog 80 y (Value.agg ⟨[.int .i64 z,.int .i64 A,.int .i64 B]⟩) (Value.bool true) a.drew.drew λC=>K 0 C)))))
 f_ f b λD=>zC D f λk g=>(cond (!k) (e (!k) g) (f_ g (b.add 1) λE=>qG c E g λl d=>(cond (!l) (e (!l) d) (f_ d (b.add 2) λm=>(cond (decide (m<0)) (e (decide (m<0)) d) (f_ d (b.add 2) λF=>e (decide (F>=65536)) d))))))))):=okF ji Tryz.func94 .leaf (by kernel_rfl)
theorem Vd {c i j k l m n o p w K}:iH (xK c i j k l m n o p w K)
 (Al w (.cells ⟨[.int .i64 i,.int .i64 j,.int .i64 k,.int .i64 l,.int .i64 m,.int .i64 n,.int .i64 o,.bool p]⟩ 130) λa A=>kP c A λB d=>(cond (!B) (K 0 2 d) (f_ d (a.add 0) λC=>f_ d (a.add 1) λD=>f_ d (a.add 2) λE=>f_ d (a.add 3) λF=>pF c C D E F d λam G g=>f_ g ((a.add 4).add 0) λH=>f_ g ((a.add 4).add 1) λI=>f_ g ((a.add 4).add 2) λJ=>rO c H I J g λan L q=>let r:Bool->Prop:=λM=>((cond M (K 0 9 q) (vI c q λh N b=>(cond (!N) (K 0 7 b) (Pt c λO=>Ld .slice b.drew O λP=>f_ b.drew (a.add 0) λQ=>f_ b.drew (a.add 1) λR=>f_ b.drew (a.add 2) λS=>f_ b.drew (a.add 3) λT=>f_ b.drew (a.add 4) λU=>f_ b.drew (a.add 5) λV=>f_ b.drew (a.add 6) λW=>Ld .bool b.drew (a.add 7) λX=>iO P 9 h λY=>lM (Uj Q R S T U V W X true) b.drew Y 0 λe=>Pt c λs=>Ld .ptr e.drew (s.add 1) λt=>f_ e.drew (a.add 0) λZ=>f_ e.drew (a.add 1) λaa=>f_ e.drew (a.add 2) λab=>f_ e.drew (a.add 3) λac=>oG Z aa ab ac e.drew λad u=>u.cell? (s.add 1)=some (Value.pointer t)/\
 o9 t ad h u λao f=>Pt c λv=>Ld .ptr f.drew (v.add 2) λx=>f_ f.drew ((a.add 4).add 0) λae=>f_ f.drew ((a.add 4).add 1) λaf=>f_ f.drew ((a.add 4).add 2) λag=>oH ae af ag f.drew λah y=>y.cell? (v.add 2)=some (Value.pointer x)/\
 o9 x ah h y λap z=>Pt c λai=>f_ z (ai.add 3) λaj=>Pt c λak=>St z (ak.add 3) (.int .i64 (IntKind.i64.wrap (aj+1))) λal=>K h 0 al)))))
 (cond G (r true) (r L))))):=okF ji Tryz.func95 .leaf (by kernel_rfl)
theorem KG {a w K}:iH (kE a w K)
 (let b:Bool->Prop:=λc=>(K c w)
 (cond (!(Option.isNone a)) (Pt a λd=>Ld .map w (d.add 448) λe=>b (!(Option.isNone e))) (b false))):=okF ji Tryz.func96 .leaf (by kernel_rfl)
theorem MZ {d w K}:iH (qh d w K)
 (iT (S:=Int×Unit) (λa e g=>(cond (decide (a.1<7)) (Pt d λh=>f_ e (h.add 449) λi=>0<=(IntKind.i64.wrap (6 * a.1))/\
 iT (S:=Int×Unit) (λb c j=>(cond (decide (b.1<64)) (Pt d λk=>(0:Int)<=a.1/\a.1<(7:Int)/\
 (0:Int)<=b.1/\b.1<(64:Int)/\
 Ld .slice c ((k.add (Int.toNat a.1 * 64)).add (Int.toNat b.1 * 1)) λf=>(cond (decide ((f.len:Int)>0)) (jy f (Value.func (.func 198) #[] #[]) c λn l o m=>K l true m) (j ((IntKind.i64.wrap (b.1+1)),()) c))) (g ((IntKind.i64.wrap (a.1+1)),()) c))) ((DY .i64 (mW .i64 i (IntKind.i64.wrap (6 * a.1))) 63),()) e) (K 0 false e))) (0,()) w):=okF ji Tryz.func97 (ig (.seq (ig (.blk (.loop [(8,(.int .i64))] (ig (ig (.seq (.blk (ig (ig (ig (.blk (.loop [(6,(.int .i64))] .leaf)))))) .leaf)))))) .leaf)) (by kernel_rfl)
theorem IY {c b w K}:iH (lU c b w K)
 (Pt c λk=>f_ w (k.add 449) λl=>uO l b w λm n=>iT (S:=iq×Int×Unit) (λa g o=>(cond (decide (a.2.1>0)) (0<=(IntKind.i64.wrap (6 * a.2.1))/\
 Pt c λj=>(0:Int)<=a.2.1/\a.2.1<(7:Int)/\
 (0:Int)<=(DY .i64 (mW .i64 b (IntKind.i64.wrap (6 * a.2.1))) 63)/\(DY .i64 (mW .i64 b (IntKind.i64.wrap (6 * a.2.1))) 63)<(64:Int)/\
 Pt (some ((j.add (Int.toNat a.2.1 * 64)).add (Int.toNat (DY .i64 (mW .i64 b (IntKind.i64.wrap (6 * a.2.1))) 63) * 1))) λp=>Ld .slice g.drew p λq=>j_ 237 3 24 [(Value.int .i64 0),(Value.int .i64 0),(Value.int .i64 0)] a.1 q g.drew λr s=>Pt (some ((j.add (Int.toNat a.2.1 * 64)).add (Int.toNat (DY .i64 (mW .i64 b (IntKind.i64.wrap (6 * a.2.1))) 63) * 1))) λt=>St s t (.slice none 0 0) λu=>o (r,(IntKind.i64.wrap (a.2.1 - 1)),()) u) (Pt c λv=>St g (v.add 449) (.int .i64 b) λx=>iT (S:=Int×Unit) (λh d y=>(cond (decide (h.1<(a.1.len:Int))) (iO a.1 3 h.1 λi=>f_ d (i.add 0) λz=>f_ d (i.add 1) λA=>f_ d (i.add 2) λB=>Al d (.cells ⟨[.int .i64 0,.int .i64 0,.int .i64 0]⟩ 237) λe C=>lM [.int .i64 z,.int .i64 A,.int .i64 B] C e 0 λf=>f_ f (e.add 0) λD=>f_ f (e.add 1) λE=>f_ f (e.add 2) λF=>oD c D E F f λG=>y ((IntKind.i64.wrap (h.1+1)),()) G) (K d))) (0,()) x))) (⟨none,0,0⟩,m,()) n):=okF ji Tryz.func98 (ig (.seq (ig (.blk (.loop [(4,.slice),(5,(.int .i64))] .leaf))) (ig (ig (.blk (.loop [(43,(.int .i64))] .leaf)))))) (by kernel_rfl)
theorem OG {g w K}:iH (rC g w K)
 (jr (Value.pointer g)=true/\
 Al w (.cells ⟨[.pointer g]⟩ 89) λb e=>Ld .ptr e.drew b λp=>Ld .ptr e.drew b λq=>Pt q λr=>f_ e.drew (r.add 449) λs=>lI p s e.drew λh m=>Pt h λt=>Ld .slice m t λu=>jB u m λv x=>iP v (Value.func (.func 203) #[] #[(Value.pointer (some b))]) x λi n=>Pt h λy=>Ld .slice n y λz=>iP z (Value.func (.func 204) #[] #[(Value.pointer (some b))]) n λj A=>Pt h λB=>St A B (.slice j.a j.len j.cap) λC=>iY i (Value.func (.func 206) #[] #[]) C λD=>iT (S:=iq×Int×Unit) (λc d E=>(cond (decide (c.2.1<(i.len:Int))) (iO i 3 c.2.1 λk=>f_ d (k.add 0) λF=>f_ d (k.add 1) λG=>f_ d (k.add 2) λH=>Al d (.cells ⟨[.int .i64 0,.int .i64 0,.int .i64 0]⟩ 237) λl I=>lM [.int .i64 F,.int .i64 G,.int .i64 H] I l 0 λf=>Ld .ptr f.drew b λJ=>Pt J λL=>Ld .map f.drew (L.add 448) λM=>f_ f.drew l λN=>G_ Tryz.prog 3 M (Value.int .i64 N) f.drew λo=>f_ o l λO=>Al o (.cells ⟨[.int .i64 O]⟩ 3) λP Q=>j_ 3 1 8 [(Value.int .i64 0)] c.1 ⟨(some P),1,1⟩ Q λR T=>E (R,(IntKind.i64.wrap (c.2.1+1)),()) T) (K c.1 d))) (⟨none,0,0⟩,0,()) D):=okF ji Tryz.func99 (ig (ig (ig (ig (ig (ig (.seq (ig (.blk (.loop [(5,.slice),(31,(.int .i64))] .leaf))) .leaf))))))) (by kernel_rfl)
theorem WO {w K}:iH (Dk w K)
 (Al w (.cells ⟨(jH 0 0 0 0 0 0 0 0 0 0 0 0 0 0 0 0)⟩ 28) λa c=>lM (jH 0 0 0 0 0 0 0 0 0 0 255 255 0 0 0 0) c a 0 λb=>oV b a λd e f g h i j k l m n o p q r s=>K d e f g h i j k l m n o p q r s b):=okF ji Tryz.func100 .leaf (by kernel_rfl)
theorem adX {c a b w K}:iH (BH c a b w K)
 (lu c w λd f=>DJ a b f λg e=>(cond (!g) (K d e) (BI a b e λh i=>ku d h i λj k=>K j k))):=okF ji Tryz.func101 .leaf (by kernel_rfl)
theorem Kt {i c j k l m n o p q r s t u v x y z A B C D E F G H I J L M N O P Q R S T U w K}:iH (wZ i c j k l m n o p q r s t u v x y z A B C D E F G H I J L M N O P Q R S T U w K)
 (Al w (.cells ⟨[.int .i64 j,.int .i64 k,.int .i64 l]⟩ 80) λd w5=>Al w5 (.cells ⟨(iU m n o p q r s t u v x y z A B C D E F G H I J L M N O P Q R S T U)⟩ 51) λb w7=>Al w7 (.cells ⟨(iU 0 0 0 0 0 0 0 0 0 0 0 0 0 0 0 0 0 0 0 0 0 0 0 0 0 0 0 0 0 0 0 0 0)⟩ 51) λe a=>let V:Bool->Prop:=λah=>(let W:Bool->b_:=λai f=>((cond ai (jD f.drew b λaj ak al am an ao ap aq ar au av aw ax ay az aA aB aC aD aE aF aG aH aI aJ aK aL aM aN aO aP aQ aR=>lM (iU aj ak al am an ao ap aq ar au av aw ax ay az aA aB aC aD aE aF aG aH aI aJ aK aL aM aN aO aP aQ aR) f.drew e 0 λX=>jD X e λaS aT aU aV aW aX aY aZ a2 a3 a4 a5 a7 a9 ba bb bc bd be bf bg bh bi bj bk bl bm bn bo bp bq br bs=>K 11 aS aT aU aV aW aX aY aZ a2 a3 a4 a5 a7 a9 ba bb bc bd be bf bg bh bi bj bk bl bm bn bo bp bq br bs X) (f_ f b λY=>St f b (.int .i64 (if (86400:Int)<Y then 86400 else Y)) λZ=>f_ Z b λbt=>nJ i c bt Z λg=>Pt c λbu=>f_ g.drew ((bu.add 4).add 1) λbv=>Pt c λaa=>f_ g.drew ((aa.add 4).add 2) λab=>St g.drew (b.add 32) (.int .i64 bv) λac=>ac.cell? ((aa.add 4).add 2)=some (Value.int .i64 ab)/\
 St ac (b.add 31) (.int .i64 ab) λad=>jD ad.drew b λbw bx bz bA bB bC bD bE bF bG bH bI bJ bK bL bM bN bO bP bQ bR bS bT bU bV bW bX bY bZ b0 b1 b2 b3=>lM (iU bw bx bz bA bB bC bD bE bF bG bH bI bJ bK bL bM bN bO bP bQ bR bS bT bU bV bW bX bY bZ b0 b1 b2 b3) ad.drew e 0 λae=>jD ae e λb4 b5 b6 b7 b8 b9 ca cb cc cd ce cf cg ch ci cj ck cl cm cn co cp cq cr cs ct cu cv cw cx cy cz cA=>K 0 b4 b5 b6 b7 b8 b9 ca cb cc cd ce cf cg ch ci cj ck cl cm cn co cp cq cr cs ct cu cv cw cx cy cz cA ae)))
 (cond ah (f_ a.drew (d.add 0) λcB=>f_ a.drew (d.add 1) λcC=>f_ a.drew (d.add 2) λcD=>Pt c λh=>f_ a.drew ((h.add 4).add 0) λcE=>f_ a.drew ((h.add 4).add 1) λcF=>f_ a.drew ((h.add 4).add 2) λcG=>W (!((cB==cE) && ((cC==cF) && ((cD==cG) && true)))) a.drew) (W false a.drew)))
 f_ a (d.add 1) λcH=>(cond (cH !=0) (V true) (f_ a (d.add 2) λcI=>V (cI !=0)))):=okF ji Tryz.func102 .leaf (by kernel_rfl)
theorem Ko {c k l m n o p q r s t u v x y z A B C D E F G H I J L M N O P Q R T U V W X Y Z aa w K}:iH (wY c k l m n o p q r s t u v x y z A B C D E F G H I J L M N O P Q R T U V W X Y Z aa w K)
 (Al w (.cells ⟨[.int .i64 k,.int .i64 l,.int .i64 m,.int .i64 n]⟩ 78) λd w5=>Al w5 (.cells ⟨[.int .i64 o,.int .i64 p,.int .i64 q]⟩ 80) λf w7=>Al w7 (.cells ⟨(iU r s t u v x y z A B C D E F G H I J L M N O P Q R T U V W X Y Z aa)⟩ 51) λg w9=>Al w9 (.cells ⟨(iU 0 0 0 0 0 0 0 0 0 0 0 0 0 0 0 0 0 0 0 0 0 0 0 0 0 0 0 0 0 0 0 0 0)⟩ 51) λh a=>Pt c λaq=>Ld .map a.drew (aq.add 2) λar=>Pt c λab=>f_ a.drew (ab.add 6) λac=>Qw a.drew ar λau=>a.drew.cell? (ab.add 6)=some (Value.int .i64 ac)/\
 (cond (decide (au>=ac)) (jD a.drew.drew g λav aw ax ay az aA aB aC aD aE aF aG aH aI aJ aK aL aM aN aO aP aQ aR aS aT aU aV aW aX aY aZ a1 a2=>lM (iU av aw ax ay az aA aB aC aD aE aF aG aH aI aJ aK aL aM aN aO aP aQ aR aS aT aU aV aW aX aY aZ a1 a2) a.drew.drew h 0 λad=>jD ad h λa3 a4 a5 a7 a9 ba bb bc bd be bf bg bh bi bj bk bl bm bn bo bp bq br bs bt bu bv bw bx bz bA bB bC=>K 8 a3 a4 a5 a7 a9 ba bb bc bd be bf bg bh bi bj bk bl bm bn bo bp bq br bs bt bu bv bw bx bz bA bB bC ad) (Pt c λbD=>Ld .ptr a.drew.drew bD λbE=>f_ a.drew.drew (d.add 0) λbF=>f_ a.drew.drew (d.add 1) λbG=>f_ a.drew.drew (d.add 2) λbH=>f_ a.drew.drew (d.add 3) λbI=>f_ a.drew.drew (f.add 0) λbJ=>f_ a.drew.drew (f.add 1) λbK=>f_ a.drew.drew (f.add 2) λbL=>oq bE bF bG bH bI bJ bK bL a.drew.drew λbM bN=>xP bM bN λae j=>(cond (ae !=0) (jD j.drew g λbO bP bQ bR bS bT bU bV bW bX bY bZ b0 b1 b2 b3 b4 b5 b6 b7 b8 b9 ca cb cc cd ce cf cg ch ci cj ck=>lM (iU bO bP bQ bR bS bT bU bV bW bX bY bZ b0 b1 b2 b3 b4 b5 b6 b7 b8 b9 ca cb cc cd ce cf cg ch ci cj ck) j.drew h 0 λaf=>jD af h λcl cm cn co cp cq cr cs ct cu cv cw cx cy cz cA cB cC cD cE cF cG cH cI cJ cK cL cM cN cO cP cQ cR=>K ae cl cm cn co cp cq cr cs ct cu cv cw cx cy cz cA cB cC cD cE cF cG cH cI cJ cK cL cM cN cO cP cQ cR af) (iT (S:=Unit) (λeu b cS=>Pt c λcT=>Ld .map b.drew (cT.add 3) λcU=>Pt c λcV=>f_ b.drew (cV.add 5) λcW=>wV Tryz.prog 3 .ptr cU (Value.int .i64 cW) (Value.pointer none) b.drew λcX=>(cond (!(Option.isNone cX)) (Pt c λcY=>f_ b.drew (cY.add 5) λcZ=>(8192:Int)≠0/\
 Pt c λc0=>St b.drew (c0.add 5) (.int .i64 (Int.tmod (IntKind.i64.wrap (cZ+1)) 8192)) λc1=>cS () c1) (f_ b.drew.drew (d.add 0) λc2=>f_ b.drew.drew (d.add 1) λc3=>f_ b.drew.drew (d.add 2) λc4=>f_ b.drew.drew (d.add 3) λc5=>f_ b.drew.drew (f.add 0) λc6=>f_ b.drew.drew (f.add 1) λc7=>f_ b.drew.drew (f.add 2) λc8=>Pt c λc9=>f_ b.drew.drew (c9.add 5) λda=>Al b.drew.drew (.cells ⟨(aji c2 c3 c4 c5 c6 c7 c8 0 da)⟩ 122) λi e=>Pt c λdb=>Ld .map e.drew (db.add 2) λag=>f_ e.drew (d.add 0) λdc=>f_ e.drew (d.add 1) λdd=>f_ e.drew (d.add 2) λde=>f_ e.drew (d.add 3) λdf=>Pt c λdg=>Ld .map e.drew (dg.add 3) λah=>Pt (some i) λdh=>f_ e.drew (dh.add 8) λdi=>Ud Tryz.prog 78 ag (Value.agg ⟨[.int .i64 dc,.int .i64 dd,.int .i64 de,.int .i64 df]⟩) (Value.pointer none) e.drew λev dj dk=>Zr ag dj (Value.pointer (some i)) dk λdl=>Ud Tryz.prog 3 ah (Value.int .i64 di) (Value.pointer none) dl λew dm dn=>Zr ah dm (Value.pointer (some i)) dn λai=>f_ ai g λaj=>St ai g (.int .i64 (if (86400:Int)<aj then 86400 else aj)) λak=>f_ ak g λdp=>nJ c (some i) dp ak λal=>jD al.drew g λdq dr ds dt du dv dw dx dy dz dA dB dC dD dE dF dG dH dI dJ dK dL dM dN dO dP dQ dR dS dT dU dV dW=>lM (iU dq dr ds dt du dv dw dx dy dz dA dB dC dD dE dF dG dH dI dJ dK dL dM dN dO dP dQ dR dS dT dU dV dW) al.drew h 0 λam=>jD am h λdX dY dZ d0 d1 d2 d3 d4 d5 d6 d7 d8 d9 ea eb ec ed ee ef eg eh ei ej ek el em en eo ep eq er es et=>K 0 dX dY dZ d0 d1 d2 d3 d4 d5 d6 d7 d8 d9 ea eb ec ed ee ef eg eh ei ej ek el em en eo ep eq er es et am))) () j))))):=okF ji Tryz.func103 (ig (ig (ig (.seq (.blk (.loop [] .leaf)) .leaf)))) (by kernel_rfl)
theorem Vm {c d e f g h i j k l m n o p q r s t u v x y z A B C D E F G H I J w K}:iH (uM c d e f g h i j k l m n o p q r s t u v x y z A B C D E F G H I J w K)
 (Al w (.cells ⟨(iU c d e f g h i j k l m n o p q r s t u v x y z A B C D E F G H I J)⟩ 51) λb a=>f_ a b λL=>f_ a (b.add 29) λM=>f_ a (b.add 30) λN=>f_ a (b.add 31) λO=>f_ a (b.add 32) λP=>Al a (.cells ⟨(ahW L 4 M 1 N 2 O 2 P 4)⟩ 233) λQ R=>DK ⟨(some Q),5,5⟩ R λS T=>K S T):=okF ji Tryz.func104 .leaf (by kernel_rfl)
theorem abU {a w K}:iH (DK a w K)
 (jm a (Value.func (.func 214) #[] #[]) w λb c=>K (!b) c):=okF ji Tryz.func105 .leaf (by kernel_rfl)
theorem abV {f c w K}:iH (wE f c w K)
 (iT (S:=iq×Int×Unit) (λa b h=>(cond (decide (a.2.1<(c.len:Int))) (iO c 2 a.2.1 λg=>f_ b (g.add 0) λi=>f_ b (g.add 1) λj=>Al b (.cells ⟨[.int .i64 0,.int .i64 0]⟩ 233) λd k=>lM [.int .i64 i,.int .i64 j] k d 0 λe=>f_ e d λl=>f_ e (d.add 1) λm=>BH a.1 l m e λn o=>h (n,(IntKind.i64.wrap (a.2.1+1)),()) o) (K a.1 b))) (f,0,()) w):=okF ji Tryz.func106 (ig (.seq (ig (.blk (.loop [(0,.slice),(9,(.int .i64))] .leaf))) .leaf)) (by kernel_rfl)
theorem TI {i j k l m n o p q r s t u v x y z A B C D E F G H I J L M N O P Q h w K}:iH (rX i j k l m n o p q r s t u v x y z A B C D E F G H I J L M N O P Q h w K)
 (Al w (.cells ⟨(iU i j k l m n o p q r s t u v x y z A B C D E F G H I J L M N O P Q)⟩ 51) λa R=>f_ R (a.add 32) λV=>zA V R λW X Y Z aa ab ac ad ae af ag ah ai aj ak al am=>Al am (.cells ⟨(jH 0 0 0 0 0 0 0 0 0 0 0 0 0 0 0 0)⟩ 28) λS an=>lM (jH W X Y Z aa ab ac ad ae af ag ah ai aj ak al) an S 0 λb=>let T:iq->b_:=λao ap=>(uP S 16 1 0 (16:Int) λaq=>j_ 5 1 1 [(Value.int .u8 0)] ao aq ap λar au=>K ar au)
 uP (a.add 17) 12 1 0 (12:Int) λU=>f_ b.drew (a.add 29) λc=>f_ b.drew (a.add 30) λd=>f_ b.drew (a.add 31) λe=>(j_ 5 1 1 [(Value.int .u8 0)] h U b.drew λav f=>f.cell? (a.add 31)=some (Value.int .i64 e)/\
 f.cell? (a.add 30)=some (Value.int .i64 d)/\
 f.cell? (a.add 29)=some (Value.int .i64 c)/\
 Al f (.cells ⟨[.int .i64 c,.int .i64 1,.int .i64 0,.int .i64 3,.int .i64 d,.int .i64 2,.int .i64 e,.int .i64 2]⟩ 233) λaw ax=>wE av ⟨(some aw),4,4⟩ ax λay az=>T ay az)/\
 (Al b.drew (.cells ⟨[.int .i64 c,.int .i64 1,.int .i64 0,.int .i64 3,.int .i64 d,.int .i64 2,.int .i64 e,.int .i64 2]⟩ 233) λaA aB=>j_ 5 1 1 [(Value.int .u8 0)] h U aB λaC g=>g.cell? (a.add 31)=some (Value.int .i64 e)/\
 g.cell? (a.add 30)=some (Value.int .i64 d)/\
 g.cell? (a.add 29)=some (Value.int .i64 c)/\
 wE aC ⟨(some aA),4,4⟩ g λaD aE=>T aD aE)):=okF ji Tryz.func107 .leaf (by kernel_rfl)
theorem Na {c d e f w K}:iH (nO c d e f w K)
 (Al w (.cells ⟨[.int .i64 d,.int .i64 e,.int .i64 f]⟩ 237) λg h=>f_ h (g.add 1) λk=>lI c k h λi j=>Pt i λl=>Ld .slice j l λm=>iP m (Value.func (.func 215) #[] #[(Value.pointer (some g))]) j λb n=>Pt i λo=>St n o (.slice b.a b.len b.cap) λp=>K p):=okF ji Tryz.func108 .leaf (by kernel_rfl)
theorem OH {f g h i w K}:iH (oD f g h i w K)
 (Al w (.cells ⟨[.int .i64 g,.int .i64 h,.int .i64 i]⟩ 237) λc j=>f_ j (c.add 1) λn=>lI f n j λk b=>Pt k λl=>Ld .slice b.drew l λd=>f_ b.drew (c.add 0) λo=>f_ b.drew (c.add 1) λp=>f_ b.drew (c.add 2) λq=>Al b.drew (.cells ⟨[.int .i64 o,.int .i64 p,.int .i64 q]⟩ 237) λr m=>m.cell? l=some (Value.slice d.a d.len d.cap)/\
 j_ 237 3 24 [(Value.int .i64 0),(Value.int .i64 0),(Value.int .i64 0)] d ⟨(some r),1,1⟩ m λe s=>Pt k λt=>St s t (.slice e.a e.len e.cap) λu=>K u):=okF ji Tryz.func109 .leaf (by kernel_rfl)
theorem JY {b e f g h w K}:iH (oM b e f g h w K)
 (Al w (.cells ⟨[.int .i64 e,.int .i64 f,.int .i64 g,.int .i64 h]⟩ 78) λc m=>jR b m λn a=>(cond (!n) (K 2 a) (Pt b λo=>Ld .ptr a.drew (o.add 2) λp=>f_ a.drew (c.add 0) λq=>f_ a.drew (c.add 1) λr=>f_ a.drew (c.add 2) λs=>f_ a.drew (c.add 3) λt=>pF p q r s t a.drew λi u j=>Pt b λv=>Ld .ptr j (v.add 2) λx=>uI x i j λy z A B C D E F M G=>Al G (.cells ⟨[.int .i64 0,.int .i64 0,.int .i64 0,.int .i64 0,.int .i64 0,.int .i64 0,.int .i64 0,.bool false]⟩ 130) λk H=>lM [.int .i64 y,.int .i64 z,.int .i64 A,.int .i64 B,.int .i64 C,.int .i64 D,.int .i64 E,.bool F] H k 0 λd=>let l:Bool->Prop:=λI=>((cond I (K 8 d) (kG b i d λJ=>K 0 J)))
 (cond (!u) (l true) (Ld .bool d (k.add 7) λL=>l (!L)))))):=okF ji Tryz.func110 .leaf (by kernel_rfl)
theorem Ar {a e w K}:iH (lS a e w K)
 (kE a w λj c=>(cond (!j) (K false c) (Pt a λk=>Ld .map c (k.add 448) λl=>EO Tryz.prog 3 l (Value.int .i64 e) (Value.agg ⟨[.int .i64 0,.int .i64 0,.int .i64 0]⟩) c λm n=>∃f:Int,∃g:Int,∃h:Int,m=(Value.agg ⟨[.int .i64 f,.int .i64 g,.int .i64 h]⟩)/\
 Al c (.cells ⟨[.int .i64 0,.int .i64 0,.int .i64 0]⟩ 237) λd o=>lM [.int .i64 f,.int .i64 g,.int .i64 h] o d 0 λb=>(cond (!n) (K false b) (f_ b (d.add 0) λp=>f_ b (d.add 1) λq=>f_ b (d.add 2) λr=>nO a p q r b λi=>Pt a λs=>Ld .map i (s.add 448) λt=>G_ Tryz.prog 3 t (Value.int .i64 e) i λu=>K true u))))):=okF ji Tryz.func111 .leaf (by kernel_rfl)
theorem Q9 {a0 f0 w K}:iH (SL a0 f0 w K)
 (Ld .ptr w f0 λj=>kP j w λk c=>(cond (!k) (K c) (Ld .ptr c f0 λl=>Pt l λm=>Ld .slice c m λf=>iT (S:=Int×Unit) (λd e n=>(cond (decide (d.1<(f.len:Int))) (iO f 9 d.1 λo=>ahU e o λp q r s t u v x y=>Al e (.cells ⟨(Uj 0 0 0 0 0 0 0 false false)⟩ 243) λb z=>lM (Uj p q r s t u v x y) z b 0 λa=>let g:Bool->b_:=λA h=>((cond A (K h) (n ((IntKind.i64.wrap (d.1+1)),()) h)))
 Ld .bool a (b.add 8) λB=>(cond B (f_ a (b.add 0) λC=>f_ a (b.add 1) λD=>f_ a (b.add 2) λE=>f_ a (b.add 3) λF=>f_ a (b.add 4) λG=>f_ a (b.add 5) λH=>f_ a (b.add 6) λI=>Ld .bool a (b.add 7) λJ=>lJ Tryz.prog [.one .bool] a0 [(Value.int .i64 d.1),(Value.agg ⟨[.int .i64 C,.int .i64 D,.int .i64 E,.int .i64 F,.int .i64 G,.int .i64 H,.int .i64 I,.bool J]⟩)] a λL M=>∃i:Bool,L=(Value.bool i)/\
 g (!i) M) (g false a))) (K e))) (0,()) c))):=okF ji Tryz.func112 (ig (ig (.blk (.loop [(13,(.int .i64))] .leaf)))) (by kernel_rfl)
theorem Q_ {a w K}:iH (kP a w K)
 (let b:Bool->Prop:=λc=>(K c w)
 (cond (!(Option.isNone a)) (Pt a λd=>Ld .ptr w (d.add 1) λe=>b (!(Option.isNone e))) (b false))):=okF ji Tryz.func113 .leaf (by kernel_rfl)
theorem Ic {a0 f0 w K}:iH (IC a0 f0 w K)
 (Ld .ptr w f0 λk=>kY k w λl e=>(cond (!l) (K e) (Ld .ptr e f0 λm=>Pt m λn=>Ld .slice e n λg=>iT (S:=Int×Unit) (λf a o=>(cond (decide (f.1<(g.len:Int))) (iO g 6 f.1 λd=>f_ a (d.add 0) λp=>f_ a (d.add 1) λq=>f_ a (d.add 2) λr=>f_ a (d.add 3) λs=>f_ a (d.add 4) λt=>Ld .bool a (d.add 5) λu=>Al a (.cells ⟨[.int .i64 0,.int .i64 0,.int .i64 0,.int .i64 0,.int .i64 0,.bool false]⟩ 246) λc v=>lM [.int .i64 p,.int .i64 q,.int .i64 r,.int .i64 s,.int .i64 t,.bool u] v c 0 λb=>let h:Bool->b_:=λx i=>((cond x (K i) (o ((IntKind.i64.wrap (f.1+1)),()) i)))
 Ld .bool b (c.add 5) λy=>(cond y (f_ b (c.add 0) λz=>f_ b (c.add 1) λA=>f_ b (c.add 2) λB=>f_ b (c.add 3) λC=>f_ b (c.add 4) λD=>lJ Tryz.prog [.one .bool] a0 [(Value.int .i64 f.1),(Value.agg ⟨[.int .i64 z,.int .i64 A,.int .i64 B,.int .i64 C,.int .i64 D]⟩)] b λE F=>∃j:Bool,E=(Value.bool j)/\
 h (!j) F) (h false b))) (K a))) (0,()) e))):=okF ji Tryz.func114 (ig (ig (.blk (.loop [(13,(.int .i64))] .leaf)))) (by kernel_rfl)
theorem Ie {a w K}:iH (kY a w K)
 (let b:Bool->Prop:=λc=>(K c w)
 (cond (!(Option.isNone a)) (Pt a λd=>Ld .ptr w (d.add 1) λe=>b (!(Option.isNone e))) (b false))):=okF ji Tryz.func115 .leaf (by kernel_rfl)
theorem YV {a b c d e f g h i j k l m n o p w K}:iH (Je a b c d e f g h i j k l m n o p w K)
 (Al w (.cells ⟨(jH a b c d e f g h i j k l m n o p)⟩ 28) λq t=>Dk t λu v x y z A B C D E F G H I J L M=>Al M (.cells ⟨(jH 0 0 0 0 0 0 0 0 0 0 0 0 0 0 0 0)⟩ 28) λr N=>lM (jH u v x y z A B C D E F G H I J L) N r 0 λO=>uP q 16 1 0 12 λP=>uP r 16 1 0 12 λQ=>lC P Q O.drew λR s=>(cond (!R) (K 0 false s) (uP q 16 1 0 (16:Int) λS=>D5 S 12 4 s λT U V=>K T (U==0) V))):=okF ji Tryz.func116 .leaf (by kernel_rfl)
theorem WQ {a0 a1 f0 w K}:iH (Ya a0 a1 f0 w K)
 (Ld .slice w f0 λa=>D5 a a0 a1 w λb d c=>K b c):=okF ji Tryz.func117 .leaf (by kernel_rfl)
theorem YP {c a b w K}:iH (BJ c a b w K)
 (let e:Bool->b_:=λh d=>((cond h (K ⟨none,0,0⟩ 1 d) (let f:Bool->Prop:=λi=>((cond i (K ⟨none,0,0⟩ 3 d) (Ui c 1 a (IntKind.i64.wrap (a+b)) (IntKind.i64.wrap (a+b)) λj=>K j 0 d)))
 (cond (decide ((c.len:Int)<b)) (f true) (f (decide (a>(IntKind.i64.wrap ((c.len:Int) - b)))))))))
 Az b w λk g=>(cond (!k) (e true g) (e (decide (a<0)) g))):=okF ji Tryz.func118 .leaf (by kernel_rfl)
theorem Rn {t u v x y z A B C D E F G H I J L M N O P Q R S T U V W X Y Z aa ab ac ad ae w K}:iH (um t u v x y z A B C D E F G H I J L M N O P Q R S T U V W X Y Z aa ab ac ad ae w K)
 (Al w (.cells ⟨(jV t u v x y z A B C D E F G H I J L M N O P Q R S T U V W X Y Z aa ab ac ad ae)⟩ 33) λa w2=>let d:Bool->b_:=λj5 w6=>(let b:Bool->b_:=λj8 w9=>(let e:Bool->b_:=λak f=>(let g:Bool->b_:=λal am=>(K al am)
 (cond j5 (cond j8 (cond ak (f_ f (a.add 18) λan=>jq an 1 65535 f λao h=>(cond ao (f_ h (a.add 19) λap=>f_ h (a.add 18) λaq=>jq ap aq 65535 h λar au=>g ar au) (g false h))) (g false f)) (g false f)) (g false f)))
 f_ w9 (a.add 30) λav=>jq av 120 1048576 w9 λaw i=>(cond aw (f_ i (a.add 31) λax=>jq ax 7440 1048576 i λay j=>(cond ay (f_ j (a.add 32) λaz=>jq az 240 1048576 j λaA k=>(cond aA (f_ k (a.add 33) λaB=>jq aB 60 1048576 k λaC l=>(cond aC (f_ l (a.add 34) λaD=>jq aD 1 1048576 l λaE aF=>e aE aF) (e false l))) (e false k))) (e false j))) (e false i)))
 f_ w6 (a.add 25) λaG=>jq aG 1280 65535 w6 λaH m=>(cond aH (f_ m (a.add 26) λaI=>jq aI 1280 65535 m λaJ n=>(cond aJ (f_ n (a.add 27) λaK=>jq aK 1 255 n λaL c=>(cond aL (f_ c (a.add 28) λaM=>(cond (aM==0) (f_ c (a.add 29) λaN=>jq aN 0 2 c λaO aP=>b aO aP) (f_ c (a.add 28) λaQ=>jq aQ 536 65535 c λaR o=>(cond aR (f_ o (a.add 29) λaS=>jq aS 0 2 o λaT aU=>b aT aU) (b false o))))) (b false c))) (b false n))) (b false m)))
 f_ w2 (a.add 20) λaV=>jq aV 1 4096 w2 λaW p=>(cond aW (f_ p (a.add 21) λaX=>jq aX 1 4096 p λaY q=>(cond aY (f_ q (a.add 22) λaZ=>jq aZ 1 4096 q λa0 r=>(cond a0 (f_ r (a.add 23) λa1=>jq a1 0 4096 r λa2 s=>(cond a2 (f_ s (a.add 24) λa4=>jq a4 0 67108864 s λa5 a6=>d a5 a6) (d false s))) (d false r))) (d false q))) (d false p))):=okF ji Tryz.func119 .leaf (by kernel_rfl)
theorem Vt {m n o p q r s t u v x y z A B C D E F G H I J L M N O P Q R T U V W X Y w K}:iH (xX m n o p q r s t u v x y z A B C D E F G H I J L M N O P Q R T U V W X Y w K)
 (Al w (.cells ⟨(jV m n o p q r s t u v x y z A B C D E F G H I J L M N O P Q R T U V W X Y)⟩ 33) λa Z=>let e:Bool->b_:=λj5 w6=>((cond j5 (K false w6) (iT (S:=Int×Unit) (λh f af=>Ld .slice f (a.add 16) λag=>(cond (decide (h.1<(ag.len:Int))) (Ld .slice f (a.add 16) λah=>iO ah 16 h.1 λai=>oV f ai λaj ak al am an ao ap aq ar au av aw ax ay az aA=>wF aj ak al am an ao ap aq ar au av aw ax ay az aA f λaB ab=>(cond (!aB) (K false ab) (af ((IntKind.i64.wrap (h.1+1)),()) ab))) (iT (S:=Int×Unit) (λi g aC=>Ld .slice g (a.add 17) λaD=>(cond (decide (i.1<(aD.len:Int))) (Ld .slice g (a.add 17) λaE=>iO aE 1 i.1 λaF=>f_ g aF λaG=>qU aG g λaH ac=>(cond (!aH) (K false ac) (aC ((IntKind.i64.wrap (i.1+1)),()) ac))) (iT (S:=Int×Unit) (λj b aI=>Ld .slice b (a.add 35) λaJ=>(cond (decide (j.1<(aJ.len:Int))) (vH b.drew a λaK aL aM aN aO aP aQ aR aS aT aU aV aW aX aY aZ a0 a1 a2 a4 a5 a6 a7 a8 a9 ba bb bc bd be bf bg bh bi bj bk=>Ld .slice b.drew (a.add 35) λbl=>iO bl 7 j.1 λc=>f_ b.drew (c.add 0) λbm=>f_ b.drew (c.add 1) λbn=>f_ b.drew (c.add 2) λbo=>f_ b.drew (c.add 3) λbp=>f_ b.drew (c.add 4) λbq=>f_ b.drew (c.add 5) λbr=>f_ b.drew (c.add 6) λbs=>vP aK aL aM aN aO aP aQ aR aS aT aU aV aW aX aY aZ a0 a1 a2 a4 a5 a6 a7 a8 a9 ba bb bc bd be bf bg bh bi bj bk bm bn bo bp bq br bs b.drew λbt ad=>(cond (!bt) (K false ad) (aI ((IntKind.i64.wrap (j.1+1)),()) ad))) (K true b))) (0,()) g))) (0,()) f))) (0,()) w6)))
 oV Z a λbu bv bw bx bz bA bB bC bD bE bF bG bH bI bJ bK=>wF bu bv bw bx bz bA bB bC bD bE bF bG bH bI bJ bK Z λbL k=>(cond (!bL) (e true k) (Ld .slice k (a.add 16) λbM=>jq (bM.len:Int) 1 64 k λbN l=>(cond (!bN) (e true l) (Ld .slice l (a.add 17) λbO=>jq (bO.len:Int) 1 16 l λbP d=>(cond (!bP) (e true d) (Ld .slice d (a.add 35) λbQ=>(cond (decide ((bQ.len:Int)>64)) (e true d) (Ld .slice d (a.add 35) λbR=>f_ d (a.add 21) λbS=>e (decide ((bR.len:Int)>bS)) d))))))))):=okF ji Tryz.func120 (ig (ig (.seq (ig (.blk (.loop [(3,(.int .i64))] .leaf))) (.seq (ig (.blk (.loop [(4,(.int .i64))] .leaf))) (.seq (ig (.blk (.loop [(5,(.int .i64))] .leaf))) .leaf))))) (by kernel_rfl)
theorem Vu {s t u v x y z A B C D E F G H I J L M N O P Q R T U V W X Y Z aa ab ac ad ae w K}:iH (xY s t u v x y z A B C D E F G H I J L M N O P Q R T U V W X Y Z aa ab ac ad ae w K)
 (Al w (.cells ⟨(jV s t u v x y z A B C D E F G H I J L M N O P Q R T U V W X Y Z aa ab ac ad ae)⟩ 33) λb w2=>iT (S:=Int×Unit) (λh l ai=>Ld .slice l (b.add 16) λx7=>(cond (decide (h.1<(x7.len:Int))) (iT (S:=Int×Unit) (λm c ak=>(cond (decide (m.1<h.1)) (Ld .slice c.drew (b.add 16) λal=>iO al 16 m.1 λam=>oV c.drew am λan ao ap aq ar au av aw ax ay az aA aB aC aD aE=>Ld .slice c.drew (b.add 16) λaF=>iO aF 16 h.1 λaG=>oV c.drew aG λaH aI aJ aK aL aM aN aO aP aQ aR aS aT aU aV aW=>(cond ((an==aH) && ((ao==aI) && ((ap==aJ) && ((aq==aK) && ((ar==aL) && ((au==aM) && ((av==aN) && ((aw==aO) && ((ax==aP) && ((ay==aQ) && ((az==aR) && ((aA==aS) && ((aB==aT) && ((aC==aU) && ((aD==aV) && ((aE==aW) && true)))))))))))))))) (K true c.drew) (ak ((IntKind.i64.wrap (m.1+1)),()) c.drew))) (Ld .slice c.drew (b.add 16) λaX=>iO aX 16 h.1 λaY=>oV c.drew aY λaZ a0 a1 a2 a4 a5 a6 a7 a8 a9 ba bb bc bd be bf=>oV c.drew b λbg bh bi bj bk bl bm bn bo bp bq br bs bt bu bv=>(cond ((aZ==bg) && ((a0==bh) && ((a1==bi) && ((a2==bj) && ((a4==bk) && ((a5==bl) && ((a6==bm) && ((a7==bn) && ((a8==bo) && ((a9==bp) && ((ba==bq) && ((bb==br) && ((bc==bs) && ((bd==bt) && ((be==bu) && ((bf==bv) && true)))))))))))))))) (K true c.drew) (ai ((IntKind.i64.wrap (h.1+1)),()) c.drew))))) (0,()) l) (iT (S:=Int×Unit) (λi n bw=>Ld .slice n (b.add 17) λbx=>(cond (decide (i.1<(bx.len:Int))) (iT (S:=Int×Unit) (λo e bz=>(cond (decide (o.1<i.1)) (Ld .slice e.drew (b.add 17) λbA=>iO bA 1 o.1 λbB=>f_ e.drew bB λbC=>Ld .slice e.drew (b.add 17) λbD=>iO bD 1 i.1 λbE=>f_ e.drew bE λbF=>(cond (bC==bF) (K true e.drew) (bz ((IntKind.i64.wrap (o.1+1)),()) e.drew))) (bw ((IntKind.i64.wrap (i.1+1)),()) e))) (0,()) n) (iT (S:=Int×Unit) (λg p bG=>Ld .slice p (b.add 35) λbH=>(cond (decide (g.1<(bH.len:Int))) (iT (S:=Int×Int×Unit) (λd a bI=>(cond (decide (d.2.1<g.1)) (let af:Int->b_:=λbJ bK=>(bI (bJ,(IntKind.i64.wrap (d.2.1+1)),()) bK)
 let ag:Bool->b_:=λbL f=>((cond bL (K true f) (Ld .slice f.drew (b.add 35) λbM=>iO bM 7 d.2.1 λbN=>f_ f.drew bN λbO=>Ld .slice f.drew (b.add 35) λbP=>iO bP 7 g.1 λbQ=>f_ f.drew bQ λbR=>(cond (bO==bR) (af (IntKind.i64.wrap (d.1+1)) f.drew) (af d.1 f.drew)))))
 Ld .slice a.drew (b.add 35) λbS=>iO bS 7 d.2.1 λj=>f_ a.drew (j.add 0) λbT=>f_ a.drew (j.add 1) λbU=>f_ a.drew (j.add 2) λbV=>f_ a.drew (j.add 3) λbW=>Ld .slice a.drew (b.add 35) λbX=>iO bX 7 g.1 λk=>f_ a.drew (k.add 0) λbY=>f_ a.drew (k.add 1) λbZ=>f_ a.drew (k.add 2) λb0=>f_ a.drew (k.add 3) λb1=>(cond ((bT==bY) && ((bU==bZ) && ((bV==b0) && ((bW==b1) && true)))) (ag true a.drew) (Ld .slice a.drew (b.add 35) λb2=>iO b2 7 d.2.1 λq=>f_ a.drew ((q.add 4).add 0) λb3=>f_ a.drew ((q.add 4).add 1) λb4=>f_ a.drew ((q.add 4).add 2) λb5=>Ld .slice a.drew (b.add 35) λb6=>iO b6 7 g.1 λr=>f_ a.drew ((r.add 4).add 0) λb7=>f_ a.drew ((r.add 4).add 1) λb8=>f_ a.drew ((r.add 4).add 2) λb9=>ag ((b3==b7) && ((b4==b8) && ((b5==b9) && true))) a.drew))) (f_ a (b.add 20) λca=>(cond (decide (d.1>ca)) (K true a) (bG ((IntKind.i64.wrap (g.1+1)),()) a))))) (1,0,()) p) (K false p))) (0,()) n))) (0,()) l))) (0,()) w2):=okF ji Tryz.func121 (ig (.seq (ig (.blk (.loop [(3,(.int .i64))] (ig (.seq (.blk (.seq (ig (.blk (.loop [(4,(.int .i64))] .leaf))) .leaf)) .leaf))))) (.seq (ig (.blk (.loop [(5,(.int .i64))] (ig (.seq (.blk (ig (.blk (.loop [(6,(.int .i64))] .leaf)))) .leaf))))) (.seq (ig (.blk (.loop [(7,(.int .i64))] (ig (.seq (.blk (ig (.seq (ig (.blk (.loop [(8,(.int .i64)),(9,(.int .i64))] .leaf))) .leaf))) .leaf))))) .leaf)))) (by kernel_rfl)
theorem yG {b k l m c w K}:iH (jf b k l m c w K)
 (iT (S:=Int×Int×Int×Bool×Bool×Unit) (λa f h=>(cond (decide ((IntKind.i64.wrap (a.2.1 - a.1))<=12)) (jA b a.1 a.2.1 c f λB=>K B) (cond (a.2.2.1==0) (yg b a.1 a.2.1 c f λC=>K C) (let n:Int->b_:=λe D=>(vV b a.1 a.2.1 c D λo p q=>let r:Int->Int->b_:=λi E s=>(let t:b_:=λg=>(let u:Bool->b_:=λF v=>((cond F (uq b a.1 a.2.1 i c v λG H=>h (G,a.2.1,e,a.2.2.2.1,a.2.2.2.2.1,()) H) (xq b a.1 a.2.1 i c v λd x y=>(8:Int)≠0/\
 (cond (decide ((IntKind.i64.wrap (d - a.1))<(IntKind.i64.wrap (a.2.1 - d)))) (jf b a.1 d e c y λI=>h ((IntKind.i64.wrap (d+1)),a.2.1,e,(decide ((IntKind.i64.wrap (d - a.1))>=(IntKind.i64.wrap (Int.tdiv (IntKind.i64.wrap (a.2.1 - a.1)) 8)))),x,()) I) (jf b (IntKind.i64.wrap (d+1)) a.2.1 e c y λJ=>h (a.1,d,e,(decide ((IntKind.i64.wrap (a.2.1 - d))>=(IntKind.i64.wrap (Int.tdiv (IntKind.i64.wrap (a.2.1 - a.1)) 8)))),x,()) J)))))
 (cond (decide (a.1>0)) (iO b 1 (IntKind.i64.wrap (a.1 - 1)) λL=>Ld .ptr g.drew L λM=>iO b 1 i λN=>Ld .ptr g.drew N λO=>lJ Tryz.prog [.one (.int .i64)] c [(Value.pointer M),(Value.pointer O)] g.drew λP Q=>∃z:Int,P=(Value.int .i64 z)/\
 u (!(decide (z<0))) Q) (u false g.drew)))
 let j:Bool->Prop:=λR=>((cond R (ru b a.1 a.2.1 c s λT A=>(cond T (K A) (t A))) (t s)))
 (cond a.2.2.2.1 (cond a.2.2.2.2.1 (j (E==1)) (j false)) (j false)))
 (cond (p==2) (u_ b a.1 a.2.1 c q λU=>r (IntKind.i64.wrap ((IntKind.i64.wrap (a.2.1 - 1)) - (IntKind.i64.wrap (o - a.1)))) 1 U) (r o p q)))
 (cond (!a.2.2.2.1) (uQ b a.1 a.2.1 c f λV=>n (IntKind.i64.wrap (a.2.2.1 - 1)) V) (n a.2.2.1 f)))))) (k,l,m,true,true,()) w):=okF ji Tryz.func122 (ig (ig (.blk (.loop [(1,(.int .i64)),(2,(.int .i64)),(3,(.int .i64)),(10,.bool),(11,.bool)] .leaf)))) (by kernel_rfl)
theorem Rk {a w K}:iH (oI a w K)
 (qN a w λb c=>K b c):=okF ji Tryz.func123 .leaf (by kernel_rfl)
theorem WG {b w K}:iH (zy b w K)
 (iT (S:=Int×Unit) (λc a e=>(cond (decide (c.1<(b.len:Int))) (iO b 1 c.1 λf=>f_ a f λd=>(cond (d !=0) (K d a) (e ((IntKind.i64.wrap (c.1+1)),()) a))) (K 0 a))) (0,()) w):=okF ji Tryz.func124 (ig (ig (.seq (ig (.blk (.loop [(8,(.int .i64))] .leaf))) .leaf))) (by kernel_rfl)
theorem Oi {b c w K}:iH (jX b c w K)
 (qF b w λe f=>qF c f λd a=>(cond e (cond d (K 0 a) (K (-1) a)) (cond d (K 1 a) (cond (decide (b<c)) (K (-1) a) (cond (decide (b>c)) (K 1 a) (K 0 a)))))):=okF ji Tryz.func125 .leaf (by kernel_rfl)
theorem WV {a w K}:iH (qU a w K)
 (let b:Bool->Prop:=λc=>(K c w)
 (cond (decide (a>=16777216)) (cond (decide (a<3758096384)) ((16777216:Int)≠0/\
 b ((IntKind.i64.wrap (Int.tdiv a 16777216)) !=127)) (b false)) (b false))):=okF ji Tryz.func126 .leaf (by kernel_rfl)
theorem JV {j o w K}:iH (mZ j o w K)
 (jr (Value.pointer j)=true/\
 Al w (.cells ⟨[.pointer j]⟩ 200) λa p=>Ld .ptr p a λy=>lG y p λz k=>(cond (!z) (K false k) (Ld .ptr k a λA=>jJ A o k λq B h=>(cond (!B) (K false h) (Ld .ptr h a λC=>Pt C λD=>Ld .slice h D λE=>iO E 3 q λF=>lM [.string (bs []),.int .i64 0,.bool false] h F 0 λl=>Ld .ptr l a λr=>Pt r λG=>f_ l (G.add 1) λH=>Pt r λI=>St l (I.add 1) (.int .i64 (IntKind.i64.wrap (H - 1))) λi=>let s:List Nat->b_:=λJ L=>(yH J L λM=>K true M)
 Ld .ptr i.drew a λN=>Ld .ptr i.drew a λO=>Pt O λP=>Ld .slice i.drew P λt=>(t.len:Int)≠0/\
 og N (Int.tmod (IntKind.i64.wrap (q+1)) (t.len:Int)) i.drew λQ f=>F7 Tryz.prog none [.one (.int .i64)] Q f (λb u c v=>c.heap[b]? =c.heap[b]? /\
 Ld .ptr (iD c b) a λR=>Pt R λS=>Ld .slice (iD c b) S λT=>iO T 3 u.1 λm=>Ld .str (iD c b) (m.add 0) λU=>f_ (iD c b) (m.add 1) λV=>Ld .bool (iD c b) (m.add 2) λW=>Al (iD c b) (.cells ⟨[.string (bs []),.int .i64 0,.bool false]⟩ 343) λd X=>lM [.string U,.int .i64 V,.bool W] X d 0 λg=>Ld .bool g (d.add 2) λY=>(cond (!Y) (v (.exit 0) g) (Ld .ptr g a λZ=>Pt Z λaa=>Ld .slice g aa λab=>iO ab 3 u.1 λac=>lM [.string (bs []),.int .i64 0,.bool false] g ac 0 λn=>Ld .ptr n a λad=>Ld .str n d λae=>jJ ad ae n λaf aq e=>Ld .ptr e.drew a λag=>Pt ag λah=>Ld .slice e.drew ah λai=>Ld .str e.drew (d.add 0) λaj=>f_ e.drew (d.add 1) λak=>Ld .bool e.drew (d.add 2) λal=>iO ai 3 af λam=>lM [.string aj,.int .i64 ak,.bool al] e.drew am 0 λan=>v .normal an)))
 (λao=>s (f.heap.size::[]) ao)
 (λx=>x.heap[f.heap.size]? =some (.deferred (some []))/\
 K false (x.putObj f.heap.size (.deferred none)))
 [(0,(λap=>s (f.heap.size::[]) ap))]))))):=okF ji Tryz.func144 (ig (ig (ig (ig (ig (ig (ig (.seq (ig (.blk (.rng [.one (.int .i64)] .leaf .leaf))) .leaf)))))))) (by kernel_rfl)
theorem Vf {f g w K}:iH (uI f g w K)
 (Al w (.cells ⟨[.int .i64 0,.int .i64 0,.int .i64 0,.int .i64 0,.int .i64 0,.int .i64 0,.int .i64 0,.bool false]⟩ 130) λa h=>uJ f g h λi b=>(cond (!i) (lM [.int .i64 0,.int .i64 0,.int .i64 0,.int .i64 0,.int .i64 0,.int .i64 0,.int .i64 0,.bool false] b a 0 λc=>f_ c (a.add 0) λj=>f_ c (a.add 1) λk=>f_ c (a.add 2) λl=>f_ c (a.add 3) λm=>f_ c (a.add 4) λn=>f_ c (a.add 5) λo=>f_ c (a.add 6) λp=>Ld .bool c (a.add 7) λq=>K j k l m n o p q false c) (Pt f λr=>Ld .slice b r λs=>iO s 9 g λe=>f_ b (e.add 0) λt=>f_ b (e.add 1) λu=>f_ b (e.add 2) λv=>f_ b (e.add 3) λx=>f_ b (e.add 4) λy=>f_ b (e.add 5) λz=>f_ b (e.add 6) λA=>Ld .bool b (e.add 7) λB=>lM [.int .i64 t,.int .i64 u,.int .i64 v,.int .i64 x,.int .i64 y,.int .i64 z,.int .i64 A,.bool B] b a 0 λd=>f_ d (a.add 0) λC=>f_ d (a.add 1) λD=>f_ d (a.add 2) λE=>f_ d (a.add 3) λF=>f_ d (a.add 4) λG=>f_ d (a.add 5) λH=>f_ d (a.add 6) λI=>Ld .bool d (a.add 7) λJ=>K C D E F G H I J true d))):=okF ji Tryz.func148 .leaf (by kernel_rfl)
theorem MX {a b w K}:iH (qg a b w K)
 (jr (Value.pointer a)=true/\
 Al w (.cells ⟨[.pointer a]⟩ 88) λc d=>jr (Value.int .i64 b)=true/\
 Al d (.cells ⟨[.int .i64 b]⟩ 3) λe f=>K (Value.func (.func 244) #[] #[(Value.pointer (some c)),(Value.pointer (some e))]) f):=okF ji Tryz.func149 .leaf (by kernel_rfl)
theorem P5 {a e w K}:iH (rP a e w K)
 (uJ a e w λo f=>(cond (!o) (K false f) (Pt a λp=>Ld .slice f p λq=>iO q 9 e λr=>ahU f r λs t u v x y z A B=>Al f (.cells ⟨(Uj 0 0 0 0 0 0 0 false false)⟩ 243) λb C=>lM (Uj s t u v x y z A B) C b 0 λc=>Pt a λg=>Ld .ptr c.drew (g.add 1) λh=>f_ c.drew (b.add 0) λD=>f_ c.drew (b.add 1) λE=>f_ c.drew (b.add 2) λF=>f_ c.drew (b.add 3) λG=>oG D E F G c.drew λH i=>i.cell? (g.add 1)=some (Value.pointer h)/\
 mZ h H i λU d=>Pt a λj=>Ld .ptr d.drew (j.add 2) λk=>f_ d.drew ((b.add 4).add 0) λI=>f_ d.drew ((b.add 4).add 1) λJ=>f_ d.drew ((b.add 4).add 2) λL=>oH I J L d.drew λM l=>l.cell? (j.add 2)=some (Value.pointer k)/\
 mZ k M l λV m=>Pt a λN=>Ld .slice m N λO=>iO O 9 e λP=>lM (Uj 0 0 0 0 0 0 0 false false) m P 0 λn=>Pt a λQ=>f_ n (Q.add 3) λR=>Pt a λS=>St n (S.add 3) (.int .i64 (IntKind.i64.wrap (R - 1))) λT=>K true T))):=okF ji Tryz.func150 .leaf (by kernel_rfl)
theorem Qe {d e f g w K}:iH (rY d e f g w K)
 (Al w (.cells ⟨[.int .i64 e,.int .i64 f,.int .i64 g]⟩ 80) λb i=>let h:Bool->b_:=λj c=>((cond j (K false c) (Pt d λk=>Ld .map c.drew (k.add 3) λl=>f_ c.drew (b.add 0) λm=>f_ c.drew (b.add 1) λn=>f_ c.drew (b.add 2) λo=>G_ Tryz.prog 80 l (Value.agg ⟨[.int .i64 m,.int .i64 n,.int .i64 o]⟩) c.drew λp=>K true p)))
 mJ d i.drew λq a=>(cond (!q) (h true a) (Pt d λr=>Ld .map a (r.add 3) λs=>f_ a (b.add 0) λt=>f_ a (b.add 1) λu=>f_ a (b.add 2) λv=>wV Tryz.prog 80 .bool s (Value.agg ⟨[.int .i64 t,.int .i64 u,.int .i64 v]⟩) (Value.bool false) a λx=>h (!x) a))):=okF ji Tryz.func151 .leaf (by kernel_rfl)
theorem MK {c d w K}:iH (pJ c d w K)
 (nK c d w λb e a=>(cond (e !=0) (K e a) (Pt b λf=>f_ a f λg=>(cond (g==0) (K 8 a) (Pt b λh=>f_ a h λi=>Pt b λj=>St a j (.int .i64 (IntKind.i64.wrap (i - 1))) λk=>K 0 k))))):=okF ji Tryz.func152 .leaf (by kernel_rfl)
theorem P7 {A0 A1 A2 A3 A4 A5 A6 A7 A8 A9 u I J N O R w K}:iH (QB A0 A1 A2 A3 A4 A5 A6 A7 A8 A9 u I J N O R w K)
 (Al w (.cells ⟨(jH A0 A1 A2 A3 A4 A5 A6 A7 A8 A9 u I J N O R)⟩ 28) λb a=>oV a b λc d e f g h i j k l m n o p q r=>AB c d e f g h i j k l m n o p q r a λs t=>K (!s) t):=okF ji Tryz.func159 .leaf (by kernel_rfl)
theorem aav {b c d e f g h i j k l m n o p q w K}:iH (AB b c d e f g h i j k l m n o p q w K)
 (Al w (.cells ⟨(jH b c d e f g h i j k l m n o p q)⟩ 28) λr t=>Al t (.cells ⟨(jH 0 0 0 0 0 0 0 0 0 0 0 0 0 0 0 0)⟩ 28) λu a=>let s:Bool->Prop:=λv=>(K v a)
 oV a r λx y z A B C D E F G H I J L M N=>oV a u λO P Q R S T U V W X Y Z aa ab ac ad=>(cond (!((x==O) && ((y==P) && ((z==Q) && ((A==R) && ((B==S) && ((C==T) && ((D==U) && ((E==V) && ((F==W) && ((G==X) && ((H==Y) && ((I==Z) && ((J==aa) && ((L==ab) && ((M==ac) && ((N==ad) && true))))))))))))))))) ((0:Int)<=0/\0<(16:Int)/\
 Ld (.int .u8) a (r.add (Int.toNat 0 * 1)) λae=>s (ae !=255)) (s false))):=okF ji Tryz.func160 .leaf (by kernel_rfl)
theorem P8 {a0 w K}:iH (QC a0 w K)
 (qK a0 w λa b=>K (!a) b):=okF ji Tryz.func161 .leaf (by kernel_rfl)
theorem P9 {A0 A1 A2 A3 A4 A5 A6 f0 w K}:iH (QD A0 A1 A2 A3 A4 A5 A6 f0 w K)
 (Al w (.cells ⟨[.int .i64 A0,.int .i64 A1,.int .i64 A2,.int .i64 A3,.int .i64 A4,.int .i64 A5,.int .i64 A6]⟩ 105) λb a=>vH a f0 λc d e f g h i j k l m n o p q r s t u v x y z A B C D E F G H I J L M N=>f_ a (b.add 0) λO=>f_ a (b.add 1) λP=>f_ a (b.add 2) λQ=>f_ a (b.add 3) λR=>f_ a (b.add 4) λS=>f_ a (b.add 5) λT=>f_ a (b.add 6) λU=>xO c d e f g h i j k l m n o p q r s t u v x y z A B C D E F G H I J L M N O P Q R S T U a λV W=>K (!V) W):=okF ji Tryz.func162 .leaf (by kernel_rfl)
theorem Vk {g h i j k l m n o p q r s t u v x y z A B C D E F G H I J L M N O P Q R S T U V W X Y w K}:iH (xO g h i j k l m n o p q r s t u v x y z A B C D E F G H I J L M N O P Q R S T U V W X Y w K)
 (Al w (.cells ⟨(jV g h i j k l m n o p q r s t u v x y z A B C D E F G H I J L M N O P Q R)⟩ 33) λZ w3=>Al w3 (.cells ⟨[.int .i64 S,.int .i64 T,.int .i64 U,.int .i64 V,.int .i64 W,.int .i64 X,.int .i64 Y]⟩ 105) λa w5=>let J7:Bool->b_:=λj8 w9=>(let ad:Bool->b_:=λai ae=>(let af:Bool->b_:=λaj b=>(let c:Bool->b_:=λak al=>(K ak al)
 (cond j8 (cond ai (cond aj (f_ b a λam=>Ld .slice b (Z.add 16) λan=>kJ am 0 (IntKind.i64.wrap ((an.len:Int) - 1)) b λao ap=>c ao ap) (c false b)) (c false b)) (c false b)))
 f_ ae (a.add 1) λaq=>vM aq ae λar d=>(cond ar (f_ d (a.add 1) λau=>f_ d (a.add 4) λav=>af (au==av) d) (af false d)))
 f_ w9 (a.add 2) λaw=>qK aw w9 λax e=>(cond ax (Ld .slice e (Z.add 17) λay=>f_ e ((a.add 4).add 1) λaz=>jF ay az e λaA aB=>ad aA aB) (ad false e)))
 f_ w5 (a.add 3) λaC=>kJ aC 0 65535 w5 λaD f=>(cond aD (f_ f ((a.add 4).add 2) λaE=>kJ aE 0 65535 f λaF aG=>J7 aF aG) (J7 false f))):=okF ji Tryz.func163 .leaf (by kernel_rfl)
theorem vZ {a b w K}:iH (jE a b w K)
 (jM a b w λc d=>K (decide (c>=0)) d):=okF ji Tryz.func164 .leaf (by kernel_rfl)
theorem Ba {a b w K}:iH (jQ a b w K)
 (kL a b w λc d=>K (decide (c>=0)) d):=okF ji Tryz.func165 .leaf (by kernel_rfl)
theorem sO {a b w K}:iH (jh a b w K)
 (jv a b w λc d=>K (decide (c>=0)) d):=okF ji Tryz.func166 .leaf (by kernel_rfl)
theorem Aj {b w K}:iH (jI b w K)
 ((cond (Option.isNone b.a) (K ⟨none,0,0⟩ w) (Al w (.cells ⟨[]⟩ 28) λc d=>j_ 28 16 16 (jH 0 0 0 0 0 0 0 0 0 0 0 0 0 0 0 0) ⟨(some c),0,0⟩ b d λe f=>K e f))):=okF ji Tryz.func167 .leaf (by kernel_rfl)
theorem Mc {e f g h i j k w K}:iH (D7 e f g h i j k w K)
 (Al w (.cells ⟨[.int .i64 e,.int .i64 f,.int .i64 g,.int .i64 h,.int .i64 i,.int .i64 j,.int .i64 k]⟩ 105) λd l=>Al l (.cells ⟨[.int .i64 0,.int .i64 0,.int .i64 0,.int .i64 0]⟩ 78) λa b=>f_ b (d.add 0) λm=>f_ b (d.add 1) λn=>f_ b (d.add 2) λo=>f_ b (d.add 3) λp=>lM [.int .i64 m,.int .i64 n,.int .i64 o,.int .i64 p] b a 0 λc=>f_ c (a.add 0) λq=>f_ c (a.add 1) λr=>f_ c (a.add 2) λs=>f_ c (a.add 3) λt=>K q r s t c):=okF ji Tryz.func168 .leaf (by kernel_rfl)
theorem Md {e f g h i j k w K}:iH (D8 e f g h i j k w K)
 (Al w (.cells ⟨[.int .i64 e,.int .i64 f,.int .i64 g,.int .i64 h,.int .i64 i,.int .i64 j,.int .i64 k]⟩ 105) λd l=>Al l (.cells ⟨[.int .i64 0,.int .i64 0,.int .i64 0]⟩ 80) λa b=>f_ b ((d.add 4).add 0) λm=>f_ b ((d.add 4).add 1) λn=>f_ b ((d.add 4).add 2) λo=>lM [.int .i64 m,.int .i64 n,.int .i64 o] b a 0 λc=>f_ c (a.add 0) λp=>f_ c (a.add 1) λq=>f_ c (a.add 2) λr=>K p q r c):=okF ji Tryz.func169 .leaf (by kernel_rfl)
theorem Gz {j w K}:iH (mF j w K)
 (Al w (.cells ⟨[.bool false]⟩ 4) λe k=>Al k (.map #[] 0) λa5 n=>Al n (.cells ⟨[.map none]⟩ 348) λf o=>St o f (.map (some k.heap.size)) λd=>F7 Tryz.prog none [.agg RG] j d (λb a l m=>Al l (.cells ⟨(jH 0 0 0 0 0 0 0 0 0 0 0 0 0 0 0 0)⟩ 28) λg p=>lM (jH a.1.1 a.1.2.1 a.1.2.2.1 a.1.2.2.2.1 a.1.2.2.2.2.1 a.1.2.2.2.2.2.1 a.1.2.2.2.2.2.2.1 a.1.2.2.2.2.2.2.2.1 a.1.2.2.2.2.2.2.2.2.1 a.1.2.2.2.2.2.2.2.2.2.1 a.1.2.2.2.2.2.2.2.2.2.2.1 a.1.2.2.2.2.2.2.2.2.2.2.2.1 a.1.2.2.2.2.2.2.2.2.2.2.2.2.1 a.1.2.2.2.2.2.2.2.2.2.2.2.2.2.1 a.1.2.2.2.2.2.2.2.2.2.2.2.2.2.2.1 a.1.2.2.2.2.2.2.2.2.2.2.2.2.2.2.2.1) p g 0 λc=>c.heap[b]? =l.heap[b]? /\
 Ld .map (iD c b) f λq=>oV (iD c b) g λr s t u v x y z A B C D E F G H=>wV Tryz.prog 28 .bool q (Value.agg ⟨jH r s t u v x y z A B C D E F G H⟩) (Value.bool false) (iD c b) λI=>(cond I (St (iD c b) e (Value.bool true) λJ=>m .ret J) (Ld .map (iD c b) f λL=>oV (iD c b) g λM N O P Q R S T U V W X Y Z aa ab=>CU Tryz.prog 28 L (Value.agg ⟨jH M N O P Q R S T U V W X Y Z aa ab⟩) (Value.bool true) (iD c b) λac=>m .normal ac)))
 (λad=>St ad e (.bool false) λh=>h.heap[d.heap.size]? =some (.deferred (some []))/\
 Ld .bool (h.putObj d.heap.size (.deferred none)) e λae=>K ae (h.putObj d.heap.size (.deferred none)))
 (λi=>i.heap[d.heap.size]? =some (.deferred (some []))/\
 Ld .bool (i.putObj d.heap.size (.deferred none)) e λaf=>K af (i.putObj d.heap.size (.deferred none)))
 []):=okF ji Tryz.func170 (ig (ig (.seq (ig (.blk (.rng [.agg RG] .leaf .leaf))) .leaf))) (by kernel_rfl)
theorem A_ {b c w K}:iH (jY b c w K)
 (jr (Value.slice b.a b.len b.cap)=true/\
 Al w (.cells ⟨[.slice b.a b.len b.cap]⟩ 29) λd e=>jr c=true/\
 Al e (.cells ⟨[c]⟩ 285) λf g=>K (Value.func (.func 248) #[] #[(Value.pointer (some d)),(Value.pointer (some f))]) g):=okF ji Tryz.func171 .leaf (by kernel_rfl)
theorem FP {a b c d e f g h i j k l m n o p w K}:iH (yU a b c d e f g h i j k l m n o p w K)
 (Al w (.cells ⟨(jH a b c d e f g h i j k l m n o p)⟩ 28) λt u=>Al u (.cells ⟨(jH 0 0 0 0 0 0 0 0 0 0 0 0 0 0 0 0)⟩ 28) λq r=>oV r t λv x y z A B C D E F G H I J L M=>lM (jH v x y z A B C D E F G H I J L M) r q 0 λs=>oV s q λN O P Q R S T U V W X Y Z aa ab ac=>K N O P Q R S T U V W X Y Z aa ab ac s):=okF ji Tryz.func172 .leaf (by kernel_rfl)
theorem MB {h w K}:iH (pG h w K)
 (Al w (.cells ⟨[.bool false]⟩ 4) λd i=>Al i (.map #[] 0) λv l=>Al l (.cells ⟨[.map none]⟩ 349) λe m=>St m e (.map (some i.heap.size)) λa=>F7 Tryz.prog none [.one (.int .i64)] h a (λb j c k=>c.heap[b]? =c.heap[b]? /\
 Ld .map (iD c b) e λn=>wV Tryz.prog 3 .bool n (Value.int .i64 j.1) (Value.bool false) (iD c b) λo=>(cond o (St (iD c b) d (Value.bool true) λp=>k .ret p) (Ld .map (iD c b) e λq=>CU Tryz.prog 3 q (Value.int .i64 j.1) (Value.bool true) (iD c b) λr=>k .normal r)))
 (λs=>St s d (.bool false) λf=>f.heap[a.heap.size]? =some (.deferred (some []))/\
 Ld .bool (f.putObj a.heap.size (.deferred none)) d λt=>K t (f.putObj a.heap.size (.deferred none)))
 (λg=>g.heap[a.heap.size]? =some (.deferred (some []))/\
 Ld .bool (g.putObj a.heap.size (.deferred none)) d λu=>K u (g.putObj a.heap.size (.deferred none)))
 []):=okF ji Tryz.func173 (ig (ig (.seq (ig (.blk (.rng [.one (.int .i64)] .leaf .leaf))) .leaf))) (by kernel_rfl)
theorem H_ {b c w K}:iH (nG b c w K)
 (jr (Value.slice b.a b.len b.cap)=true/\
 Al w (.cells ⟨[.slice b.a b.len b.cap]⟩ 30) λd e=>jr c=true/\
 Al e (.cells ⟨[c]⟩ 43) λf g=>K (Value.func (.func 249) #[] #[(Value.pointer (some d)),(Value.pointer (some f))]) g):=okF ji Tryz.func174 .leaf (by kernel_rfl)
theorem JU {a0 w K}:iH (Ls a0 w K)
 (K a0 w):=okF ji Tryz.func175 .leaf (by kernel_rfl)
theorem EJ {j w K}:iH (kZ j w K)
 (Al w (.cells ⟨[.bool false]⟩ 4) λe k=>Al k (.map #[] 0) λH n=>Al n (.cells ⟨[.map none]⟩ 350) λg o=>St o g (.map (some k.heap.size)) λd=>F7 Tryz.prog none [.agg [(.int .i64),(.int .i64),(.int .i64),(.int .i64)]] j d (λa f l m=>Al l (.cells ⟨[.int .i64 0,.int .i64 0,.int .i64 0,.int .i64 0]⟩ 78) λc p=>lM [.int .i64 f.1.1,.int .i64 f.1.2.1,.int .i64 f.1.2.2.1,.int .i64 f.1.2.2.2.1] p c 0 λb=>b.heap[a]? =l.heap[a]? /\
 Ld .map (iD b a) g λq=>f_ (iD b a) (c.add 0) λr=>f_ (iD b a) (c.add 1) λs=>f_ (iD b a) (c.add 2) λt=>f_ (iD b a) (c.add 3) λu=>wV Tryz.prog 78 .bool q (Value.agg ⟨[.int .i64 r,.int .i64 s,.int .i64 t,.int .i64 u]⟩) (Value.bool false) (iD b a) λv=>(cond v (St (iD b a) e (Value.bool true) λx=>m .ret x) (Ld .map (iD b a) g λy=>f_ (iD b a) (c.add 0) λz=>f_ (iD b a) (c.add 1) λA=>f_ (iD b a) (c.add 2) λB=>f_ (iD b a) (c.add 3) λC=>CU Tryz.prog 78 y (Value.agg ⟨[.int .i64 z,.int .i64 A,.int .i64 B,.int .i64 C]⟩) (Value.bool true) (iD b a) λD=>m .normal D)))
 (λE=>St E e (.bool false) λh=>h.heap[d.heap.size]? =some (.deferred (some []))/\
 Ld .bool (h.putObj d.heap.size (.deferred none)) e λF=>K F (h.putObj d.heap.size (.deferred none)))
 (λi=>i.heap[d.heap.size]? =some (.deferred (some []))/\
 Ld .bool (i.putObj d.heap.size (.deferred none)) e λG=>K G (i.putObj d.heap.size (.deferred none)))
 []):=okF ji Tryz.func176 (ig (ig (.seq (ig (.blk (.rng [.agg [(.int .i64),(.int .i64),(.int .i64),(.int .i64)]] .leaf .leaf))) .leaf))) (by kernel_rfl)
theorem yC {b c w K}:iH (jK b c w K)
 (jr (Value.slice b.a b.len b.cap)=true/\
 Al w (.cells ⟨[.slice b.a b.len b.cap]⟩ 31) λd e=>jr c=true/\
 Al e (.cells ⟨[c]⟩ 279) λf g=>K (Value.func (.func 250) #[] #[(Value.pointer (some d)),(Value.pointer (some f))]) g):=okF ji Tryz.func177 .leaf (by kernel_rfl)
theorem EK {j w K}:iH (lg j w K)
 (Al w (.cells ⟨[.bool false]⟩ 4) λe k=>Al k (.map #[] 0) λF n=>Al n (.cells ⟨[.map none]⟩ 192) λf o=>St o f (.map (some k.heap.size)) λc=>F7 Tryz.prog none [.agg [(.int .i64),(.int .i64),(.int .i64)]] j c (λa g l m=>Al l (.cells ⟨[.int .i64 0,.int .i64 0,.int .i64 0]⟩ 80) λd p=>lM [.int .i64 g.1.1,.int .i64 g.1.2.1,.int .i64 g.1.2.2.1] p d 0 λb=>b.heap[a]? =l.heap[a]? /\
 Ld .map (iD b a) f λq=>f_ (iD b a) (d.add 0) λr=>f_ (iD b a) (d.add 1) λs=>f_ (iD b a) (d.add 2) λt=>wV Tryz.prog 80 .bool q (Value.agg ⟨[.int .i64 r,.int .i64 s,.int .i64 t]⟩) (Value.bool false) (iD b a) λu=>(cond u (St (iD b a) e (Value.bool true) λv=>m .ret v) (Ld .map (iD b a) f λx=>f_ (iD b a) (d.add 0) λy=>f_ (iD b a) (d.add 1) λz=>f_ (iD b a) (d.add 2) λA=>CU Tryz.prog 80 x (Value.agg ⟨[.int .i64 y,.int .i64 z,.int .i64 A]⟩) (Value.bool true) (iD b a) λB=>m .normal B)))
 (λC=>St C e (.bool false) λh=>h.heap[c.heap.size]? =some (.deferred (some []))/\
 Ld .bool (h.putObj c.heap.size (.deferred none)) e λD=>K D (h.putObj c.heap.size (.deferred none)))
 (λi=>i.heap[c.heap.size]? =some (.deferred (some []))/\
 Ld .bool (i.putObj c.heap.size (.deferred none)) e λE=>K E (i.putObj c.heap.size (.deferred none)))
 []):=okF ji Tryz.func178 (ig (ig (.seq (ig (.blk (.rng [.agg [(.int .i64),(.int .i64),(.int .i64)]] .leaf .leaf))) .leaf))) (by kernel_rfl)
theorem yE {b c w K}:iH (jL b c w K)
 (jr (Value.slice b.a b.len b.cap)=true/\
 Al w (.cells ⟨[.slice b.a b.len b.cap]⟩ 31) λd e=>jr c=true/\
 Al e (.cells ⟨[c]⟩ 280) λf g=>K (Value.func (.func 251) #[] #[(Value.pointer (some d)),(Value.pointer (some f))]) g):=okF ji Tryz.func179 .leaf (by kernel_rfl)
theorem Me {a0 f0 w K}:iH (ND a0 f0 w K)
 (f_ w (f0.add 20) λa=>K (decide (a0>a)) w):=okF ji Tryz.func180 .leaf (by kernel_rfl)
theorem WH {a w K}:iH (wB a w K)
 (let b:Bool->Prop:=λc=>(K c w)
 (cond (decide (a>=0)) (b (decide (a<4294967296))) (b false))):=okF ji Tryz.func181 .leaf (by kernel_rfl)
theorem Sr {a0 a1 w K}:iH (Hl a0 a1 w K)
 (iT (S:=Int×Unit) (λb a g=>(cond (decide (b.1<(a1.len:Int))) (iO a1 2 b.1 λe=>f_ a (e.add 0) λh=>f_ a (e.add 1) λi=>Al a (.cells ⟨[.int .i64 0,.int .i64 0]⟩ 300) λc j=>lM [.int .i64 h,.int .i64 i] j c 0 λd=>f_ d (c.add 0) λk=>f_ d (c.add 1) λl=>rU k l a0 d λm f=>(cond m (K true f) (g ((IntKind.i64.wrap (b.1+1)),()) f))) (K false a))) (0,()) w):=okF ji Tryz.func182 (ig (.seq (ig (.blk (.loop [(9,(.int .i64))] .leaf))) .leaf)) (by kernel_rfl)
theorem GR {c d w K}:iH (mM c d w K)
 (iT (S:=Int×Unit) (λa b e=>(cond (decide (a.1<(c.len:Int))) (iO c 1 a.1 λf=>f_ b f λg=>(cond (d==g) (K a.1 b) (e ((IntKind.i64.wrap (a.1+1)),()) b))) (K (-1) b))) (0,()) w):=okF ji Tryz.func183 (ig (.seq (ig (.blk (.loop [(8,(.int .i64))] .leaf))) .leaf)) (by kernel_rfl)
theorem Rl {a c w K}:iH (qG a c w K)
 (let d:Bool->b_:=λe f=>(K e f)
 mJ a w λg b=>(cond g (Pt a λh=>Ld .slice b (h.add 2) λi=>jF i c b λj k=>d j k) (d false b))):=okF ji Tryz.func184 .leaf (by kernel_rfl)
theorem YS {a w K}:iH (yV a w K)
 (let b:Bool->Prop:=λc=>(K c w)
 (cond (decide (a>=0)) (b (decide (a<=65535))) (b false))):=okF ji Tryz.func185 .leaf (by kernel_rfl)
theorem GH {b a w K}:iH (mG b a w K)
 (let c:Bool->Prop:=λd=>(K d w)
 (cond (decide (a>=0)) (Pt b λe=>Ld .slice w ((e.add 5).add 16) λf=>c (decide (a<(f.len:Int)))) (c false))):=okF ji Tryz.func186 .leaf (by kernel_rfl)
theorem Qb {a c w K}:iH (o8 a c w K)
 (lG a w λe d=>(cond (!e) (K 0 false d) (jJ a c d λf g b=>(cond (!g) (K 0 false b) (Pt a λh=>Ld .slice b h λi=>iO i 3 f λj=>f_ b (j.add 1) λk=>K k true b))))):=okF ji Tryz.func187 .leaf (by kernel_rfl)
theorem Rf {c d e f w K}:iH (oG c d e f w K)
 (Al w (.cells ⟨[.int .i64 c,.int .i64 d,.int .i64 e,.int .i64 f]⟩ 78) λb a=>f_ a b λg=>f_ a (b.add 1) λh=>f_ a (b.add 2) λi=>f_ a (b.add 3) λj=>Al a (.cells ⟨[.int .i64 g,.int .i64 h,.int .i64 i,.int .i64 j]⟩ 3) λk l=>AA ⟨(some k),4,4⟩ l λm n=>K m n):=okF ji Tryz.func188 .leaf (by kernel_rfl)
theorem Rh {c d e w K}:iH (oH c d e w K)
 (Al w (.cells ⟨[.int .i64 c,.int .i64 d,.int .i64 e]⟩ 80) λb a=>f_ a b λf=>f_ a (b.add 1) λg=>f_ a (b.add 2) λh=>Al a (.cells ⟨[.int .i64 f,.int .i64 g,.int .i64 h]⟩ 3) λi j=>AA ⟨(some i),3,3⟩ j λk l=>K k l):=okF ji Tryz.func189 .leaf (by kernel_rfl)
theorem Qh {b c w K}:iH (nK b c w K)
 (let d:Bool->Prop:=λf=>((cond f (K none 2 w) (let e:Bool->Prop:=λg=>((cond g (K none 1 w) (Pt b λh=>Ld .slice w h λi=>iO i 2 c λj=>K (some j) 0 w)))
 (cond (decide (c<0)) (e true) (Pt b λk=>Ld .slice w k λl=>e (decide (c>=(l.len:Int))))))))
 (cond (Option.isNone b) (d true) (Pt b λm=>Ld .slice w m λn=>d (Option.isNone n.a)))):=okF ji Tryz.func190 .leaf (by kernel_rfl)
theorem Vg {a w K}:iH (xM a w K)
 (kP a w λc b=>(cond (!c) (K 0 b) (Pt a λd=>f_ b (d.add 3) λe=>K e b))):=okF ji Tryz.func191 .leaf (by kernel_rfl)
theorem MN {b c w K}:iH (pO b c w K)
 (Al w (.cells ⟨[.int .i64 b,.int .i64 c]⟩ 199) λd a=>f_ a d λe=>f_ a (d.add 1) λf=>K (decide (e>=f)) a):=okF ji Tryz.func192 .leaf (by kernel_rfl)
theorem Oz {a w K}:iH (mJ a w K)
 (let b:Bool->Prop:=λc=>(K c w)
 (cond (!(Option.isNone a)) (Pt a λd=>Ld .map w (d.add 3) λe=>b (!(Option.isNone e))) (b false))):=okF ji Tryz.func193 .leaf (by kernel_rfl)
theorem WT {a w K}:iH (zC a w K)
 (let b:Bool->Prop:=λc=>((cond c (K true w) (K false w)))
 (cond (a==1) (b (a==1)) (cond (a==6) (b (a==6)) (b (a==17))))):=okF ji Tryz.func194 .leaf (by kernel_rfl)
theorem Tv {c w K}:iH (vI c w K)
 (Pt c λd=>Ld .slice w d λe=>iT (S:=Int×Unit) (λb a f=>(cond (decide (b.1<(e.len:Int))) (Pt c λg=>Ld .slice a g λh=>iO h 9 b.1 λi=>Ld .bool a (i.add 8) λj=>(cond (!j) (K b.1 true a) (f ((IntKind.i64.wrap (b.1+1)),()) a))) (K 0 false a))) (0,()) w):=okF ji Tryz.func195 (ig (.seq (ig (.blk (.loop [(10,(.int .i64))] .leaf))) .leaf)) (by kernel_rfl)
theorem Qc {a c d w K}:iH (o9 a c d w K)
 (lG a w λh e=>(cond (!h) (K 2 e) (jJ a c e λi j b=>(cond j (Pt a λk=>Ld .slice b k λl=>iO l 3 i λm=>St b (m.add 1) (.int .i64 d) λn=>K 0 n) (Pt a λo=>f_ b.drew (o.add 1) λp=>Pt a λq=>f_ b.drew (q.add 2) λr=>(cond (decide (p>=r)) (K 7 b.drew) (qM a b.drew λs=>jJ a c s λt C f=>Pt a λu=>Ld .slice f u λv=>iO v 3 t λx=>lM [.string c,.int .i64 d,.bool true] f x 0 λg=>Pt a λy=>f_ g (y.add 1) λz=>Pt a λA=>St g (A.add 1) (.int .i64 (IntKind.i64.wrap (z+1))) λB=>K 0 B))))))):=okF ji Tryz.func196 .leaf (by kernel_rfl)
theorem uF {c l w K}:iH (jy c l w K)
 (Al w (.cells ⟨[.int .i64 0,.int .i64 0,.int .i64 0]⟩ 237) λe f=>(cond (decide ((c.len:Int)<1)) False (iO c 3 0 λi=>f_ f (i.add 0) λo=>f_ f (i.add 1) λp=>f_ f (i.add 2) λq=>Al f (.cells ⟨[.int .i64 0,.int .i64 0,.int .i64 0]⟩ 237) λb r=>lM [.int .i64 o,.int .i64 p,.int .i64 q] r b 0 λs=>iT (S:=Int×Unit) (λg a t=>(cond (decide (g.1<(c.len:Int))) (let m:b_:=λu=>(t ((IntKind.i64.wrap (g.1+1)),()) u)
 iO c 3 g.1 λj=>f_ a.drew (j.add 0) λv=>f_ a.drew (j.add 1) λx=>f_ a.drew (j.add 2) λy=>f_ a.drew (b.add 0) λz=>f_ a.drew (b.add 1) λA=>f_ a.drew (b.add 2) λB=>lJ Tryz.prog [.one (.int .i64)] l [(Value.agg ⟨[.int .i64 v,.int .i64 x,.int .i64 y]⟩),(Value.agg ⟨[.int .i64 z,.int .i64 A,.int .i64 B]⟩)] a.drew λC d=>∃n:Int,C=(Value.int .i64 n)/\
 (cond (decide (n<0)) (iO c 3 g.1 λk=>f_ d (k.add 0) λD=>f_ d (k.add 1) λE=>f_ d (k.add 2) λF=>lM [.int .i64 D,.int .i64 E,.int .i64 F] d b 0 λG=>m G) (m d))) (f_ a (b.add 0) λH=>f_ a (b.add 1) λI=>f_ a (b.add 2) λJ=>lM [.int .i64 H,.int .i64 I,.int .i64 J] a e 0 λh=>f_ h (e.add 0) λL=>f_ h (e.add 1) λM=>f_ h (e.add 2) λN=>K L M N h))) (1,()) s))):=okF ji Tryz.func197 (ig (ig (ig (.seq (ig (.blk (.loop [(6,(.int .i64))] .leaf))) .leaf)))) (by kernel_rfl)
theorem IW {b c d e f g w K}:iH (BX b c d e f g w K)
 (Al w (.cells ⟨[.int .i64 b,.int .i64 c,.int .i64 d]⟩ 237) λh i=>Al i (.cells ⟨[.int .i64 e,.int .i64 f,.int .i64 g]⟩ 237) λj a=>f_ a (h.add 1) λk=>f_ a (j.add 1) λl=>jX k l a λm n=>K m n):=okF ji Tryz.func198 .leaf (by kernel_rfl)
theorem VA {b c w K}:iH (uO b c w K)
 (iT (S:=Int×Int×Unit) (λa d e=>(cond (decide (a.2.1>=64)) (0<=(6:Int)/\
 e ((IntKind.i64.wrap (a.1+1)),(mW .i64 a.2.1 6),()) d) (K a.1 d))) (0,(acg .i64 b c),()) w):=okF ji Tryz.func199 (ig (ig (.seq (ig (.blk (.loop [(5,(.int .i64)),(6,(.int .i64))] .leaf))) .leaf))) (by kernel_rfl)
theorem M_ {c b w K}:iH (lI c b w K)
 (Pt c λd=>f_ w (d.add 449) λe=>uO e b w λa f=>0<=(IntKind.i64.wrap (6 * a))/\
 Pt c λg=>(0:Int)<=a/\a<(7:Int)/\
 (0:Int)<=(DY .i64 (mW .i64 b (IntKind.i64.wrap (6 * a))) 63)/\(DY .i64 (mW .i64 b (IntKind.i64.wrap (6 * a))) 63)<(64:Int)/\
 K (some ((g.add (Int.toNat a * 64)).add (Int.toNat (DY .i64 (mW .i64 b (IntKind.i64.wrap (6 * a))) 63) * 1))) f.drew):=okF ji Tryz.func200 .leaf (by kernel_rfl)
theorem sQ {a g w K}:iH (iP a g w K)
 (jk a g w λh j=>(cond (h==(-1)) (K a j) (iT (S:=Int×Int×Unit) (λb d m=>(cond (decide (b.2.1<(a.len:Int))) (let k:Int->b_:=λn o=>(m (n,(IntKind.i64.wrap (b.2.1+1)),()) o)
 iO a 3 b.2.1 λi=>f_ d (i.add 0) λp=>f_ d (i.add 1) λq=>f_ d (i.add 2) λr=>Al d (.cells ⟨[.int .i64 0,.int .i64 0,.int .i64 0]⟩ 237) λc s=>lM [.int .i64 p,.int .i64 q,.int .i64 r] s c 0 λf=>f_ f (c.add 0) λt=>f_ f (c.add 1) λu=>f_ f (c.add 2) λv=>lJ Tryz.prog [.one .bool] g [(Value.agg ⟨[.int .i64 t,.int .i64 u,.int .i64 v]⟩)] f λx e=>∃l:Bool,x=(Value.bool l)/\
 (cond (!l) (f_ e (c.add 0) λy=>f_ e (c.add 1) λz=>f_ e (c.add 2) λA=>iO a 3 b.1 λB=>lM [.int .i64 y,.int .i64 z,.int .i64 A] e B 0 λC=>k (IntKind.i64.wrap (b.1+1)) C) (k b.1 e))) (BF a 3 b.1 (a.len:Int) λD=>TN [(Value.int .i64 0),(Value.int .i64 0),(Value.int .i64 0)] D d λE=>BF a 3 0 b.1 λF=>K F E))) (h,(IntKind.i64.wrap (h+1)),()) j))):=okF ji Tryz.func201 (ig (ig (ig (.seq (ig (.blk (.loop [(5,(.int .i64)),(6,(.int .i64))] .leaf))) .leaf)))) (by kernel_rfl)
theorem vw {b w K}:iH (jB b w K)
 ((cond (Option.isNone b.a) (K ⟨none,0,0⟩ w) (Al w (.cells ⟨[]⟩ 237) λc d=>j_ 237 3 24 [(Value.int .i64 0),(Value.int .i64 0),(Value.int .i64 0)] ⟨(some c),0,0⟩ b d λe f=>K e f))):=okF ji Tryz.func202 .leaf (by kernel_rfl)
theorem KD {b c d e w K}:iH (CZ b c d e w K)
 (Al w (.cells ⟨[.int .i64 b,.int .i64 c,.int .i64 d]⟩ 237) λf a=>f_ a.drew (f.add 1) λg=>Ld .ptr a.drew e λh=>Pt h λi=>f_ a.drew (i.add 449) λj=>K (g !=j) a.drew):=okF ji Tryz.func203 .leaf (by kernel_rfl)
theorem KE {b c d e w K}:iH (C9 b c d e w K)
 (Al w (.cells ⟨[.int .i64 b,.int .i64 c,.int .i64 d]⟩ 237) λf a=>f_ a.drew (f.add 1) λg=>Ld .ptr a.drew e λh=>Pt h λi=>f_ a.drew (i.add 449) λj=>K (g==j) a.drew):=okF ji Tryz.func204 .leaf (by kernel_rfl)
theorem t_ {a b w K}:iH (iY a b w K)
 (oI (IntKind.u64.wrap (a.len:Int)) w λc d=>iZ a 0 (a.len:Int) c b d λe=>K e):=okF ji Tryz.func205 .leaf (by kernel_rfl)
theorem KF {b c d e f g w K}:iH (xu b c d e f g w K)
 (Al w (.cells ⟨[.int .i64 b,.int .i64 c,.int .i64 d]⟩ 237) λh i=>Al i (.cells ⟨[.int .i64 e,.int .i64 f,.int .i64 g]⟩ 237) λj a=>f_ a (h.add 2) λk=>f_ a (j.add 2) λl=>jX k l a λm n=>K m n):=okF ji Tryz.func206 .leaf (by kernel_rfl)
theorem EL {b w K}:iH (lu b w K)
 ((cond (Option.isNone b.a) (K ⟨none,0,0⟩ w) (Al w (.cells ⟨[]⟩ 5) λc d=>j_ 5 1 1 [(Value.int .u8 0)] ⟨(some c),0,0⟩ b d λe f=>K e f))):=okF ji Tryz.func207 .leaf (by kernel_rfl)
theorem abT {b a w K}:iH (DJ b a w K)
 (let c:Bool->b_:=λe f=>(K e f)
 Az a w λg d=>(cond g (cond (decide (b>=0)) (0<=(IntKind.i64.wrap (8 * a))/\
 c ((mW .i64 b (IntKind.i64.wrap (8 * a)))==0) d) (c false d)) (c false d))):=okF ji Tryz.func208 .leaf (by kernel_rfl)
theorem CB {b i w K}:iH (ku b i w K)
 (jr (Value.slice b.a b.len b.cap)=true/\
 Al w (.cells ⟨[.slice b.a b.len b.cap]⟩ 39) λf c=>F7 Tryz.prog none [.one (.int .u8)] i c (λd k e l=>e.heap[d]? =e.heap[d]? /\
 Ld .slice (iD e d) f λm=>Al (iD e d) (.cells ⟨[.int .u8 k.1]⟩ 5) λn o=>j_ 5 1 1 [(Value.int .u8 0)] m ⟨(some n),1,1⟩ o λg p=>St p f (.slice g.a g.len g.cap) λq=>l .normal q)
 (λh=>Ld .slice h f λr=>h.heap[c.heap.size]? =some (.deferred (some []))/\
 K r (h.putObj c.heap.size (.deferred none)))
 (λj=>j.heap[c.heap.size]? =some (.deferred (some []))/\
 K ⟨none,0,0⟩ (j.putObj c.heap.size (.deferred none)))
 []):=okF ji Tryz.func209 (ig (.seq (ig (.blk (.rng [.one (.int .u8)] .leaf .leaf))) .leaf)) (by kernel_rfl)
theorem YO {a b w K}:iH (BI a b w K)
 (jr (Value.int .i64 a)=true/\
 Al w (.cells ⟨[.int .i64 a]⟩ 3) λc d=>jr (Value.int .i64 b)=true/\
 Al d (.cells ⟨[.int .i64 b]⟩ 3) λe f=>K (Value.func (.func 257) #[] #[(Value.pointer (some e)),(Value.pointer (some c))]) f):=okF ji Tryz.func210 .leaf (by kernel_rfl)
theorem MJ {c a d w K}:iH (nJ c a d w K)
 (Pt c λf=>f_ w (f.add 4) λg=>Pt a λh=>St w (h.add 7) (.int .i64 (IntKind.i64.wrap (g+d))) λb=>Pt c λi=>Ld .ptr b.drew (i.add 1) λj=>Pt a λk=>f_ b.drew (k.add 8) λl=>Pt a λm=>f_ b.drew (m.add 7) λe=>oC j l (if (1099511627776:Int)<e then 1099511627776 else e) b.drew λo n=>K n):=okF ji Tryz.func211 .leaf (by kernel_rfl)
theorem Vo {a w K}:iH (xP a w K)
 ((cond (a==0) (K 0 w) (cond (a==10) (K 8 w) (cond (a==7) (K 4 w) (cond (a==9) (K 11 w) (K 3 w)))))):=okF ji Tryz.func212 .leaf (by kernel_rfl)
theorem tZ {a b w K}:iH (jm a b w K)
 (jC a b w λc d=>K (decide (c>=0)) d):=okF ji Tryz.func213 .leaf (by kernel_rfl)
theorem YW {A0 A1 w K}:iH (ZC A0 A1 w K)
 (Al w (.cells ⟨[.int .i64 A0,.int .i64 A1]⟩ 233) λb a=>f_ a b λc=>f_ a (b.add 1) λd=>DJ c d a λe f=>K (!e) f):=okF ji Tryz.func214 .leaf (by kernel_rfl)
theorem IX {b c d e w K}:iH (BZ b c d e w K)
 (Al w (.cells ⟨[.int .i64 b,.int .i64 c,.int .i64 d]⟩ 237) λf a=>f_ a f λg=>f_ a e λh=>K (g==h) a):=okF ji Tryz.func215 .leaf (by kernel_rfl)
theorem EM {b d w K}:iH (lC b d w K)
 ((cond ((b.len:Int) !=(d.len:Int)) (K false w) (iT (S:=Int×Unit) (λc a e=>(cond (decide (c.1<(b.len:Int))) (iO b 1 c.1 λf=>Ld (.int .u8) a.drew f λg=>iO d 1 c.1 λh=>Ld (.int .u8) a.drew h λi=>(cond (g !=i) (K false a.drew) (e ((IntKind.i64.wrap (c.1+1)),()) a.drew))) (K true a))) (0,()) w))):=okF ji Tryz.func216 (ig (ig (.seq (ig (.blk (.loop [(13,(.int .i64))] .leaf))) .leaf))) (by kernel_rfl)
theorem aal {a w K}:iH (Az a w K)
 (let b:Bool->Prop:=λc=>(K c w)
 (cond (decide (a>=1)) (b (decide (a<=4))) (b false))):=okF ji Tryz.func217 .leaf (by kernel_rfl)
theorem aau {a b c w K}:iH (jq a b c w K)
 (let d:Bool->Prop:=λe=>(K e w)
 (cond (decide (a>=b)) (d (decide (a<=c))) (d false))):=okF ji Tryz.func218 .leaf (by kernel_rfl)
theorem WW {b c d e f g h i j k l m n o p q w K}:iH (wF b c d e f g h i j k l m n o p q w K)
 (Al w (.cells ⟨(jH b c d e f g h i j k l m n o p q)⟩ 28) λr a=>let s:Bool->Prop:=λt=>(K t a)
 oV a r λu v x y z A B C D E F G H I J L=>(cond (!((u==0) && ((v==0) && ((x==0) && ((y==0) && ((z==0) && ((A==0) && ((B==0) && ((C==0) && ((D==0) && ((E==0) && ((F==0) && ((G==0) && ((H==0) && ((I==0) && ((J==0) && ((L==0) && true))))))))))))))))) ((0:Int)<=0/\0<(16:Int)/\
 Ld (.int .u8) a (r.add (Int.toNat 0 * 1)) λM=>s (M !=255)) (s false))):=okF ji Tryz.func219 .leaf (by kernel_rfl)
theorem TJ {i j k l m n o p q r s t u v x y z A B C D E F G H I J L M N O P Q R S T U V W X Y Z B6 w K}:iH (vP i j k l m n o p q r s t u v x y z A B C D E F G H I J L M N O P Q R S T U V W X Y Z B6 w K)
 (Al w (.cells ⟨(jV i j k l m n o p q r s t u v x y z A B C D E F G H I J L M N O P Q R S T)⟩ 33) λa4 w3=>Al w3 (.cells ⟨[.int .i64 U,.int .i64 V,.int .i64 W,.int .i64 X,.int .i64 Y,.int .i64 Z,.int .i64 B6]⟩ 105) λa d=>let f:Bool->Prop:=λj8=>(let J9:Bool->b_:=λaf b=>(let c:Bool->b_:=λag ah=>(K ag ah)
 (cond j8 (cond af (f_ b (a.add 4) λai=>f_ b (a.add 1) λaj=>(cond (ai==aj) (f_ b a λak=>Ld .slice b (a4.add 16) λal=>jq ak 0 (IntKind.i64.wrap ((al.len:Int) - 1)) b λam g=>(cond am (f_ g (a.add 2) λan=>qU an g λao e=>(cond ao (vH e a4 λap aq ar au av aw ax ay az aA aB aC aD aE aF aG aH aI aJ aK aL aM aN aO aP aQ aR aS aT aU aV aW aX aY aZ a0=>f_ e ((a.add 4).add 1) λa1=>zD ap aq ar au av aw ax ay az aA aB aC aD aE aF aG aH aI aJ aK aL aM aN aO aP aQ aR aS aT aU aV aW aX aY aZ a0 a1 e λa2 a3=>c a2 a3) (c false e))) (c false g))) (c false b))) (c false b)) (c false b)))
 f_ d (a.add 3) λa5=>jq a5 0 65535 d λa7 h=>(cond a7 (f_ h ((a.add 4).add 2) λa8=>jq a8 0 65535 h λa9 ba=>J9 a9 ba) (J9 false h)))
 f_ d (a.add 1) λbb=>(cond (bb==1) (f true) (f_ d (a.add 1) λbc=>(cond (bc==6) (f true) (f_ d (a.add 1) λbd=>f (bd==17)))))):=okF ji Tryz.func220 .leaf (by kernel_rfl)
theorem uG {b e g h w K}:iH (jA b e g h w K)
 (iT (S:=Int×Unit) (λf i l=>(cond (decide (f.1<g)) (iT (S:=Int×Unit) (λa c m=>let j:Bool->b_:=λn d=>((cond n (iO b 1 (IntKind.i64.wrap (a.1 - 1)) λo=>Ld .ptr d.drew o λp=>iO b 1 a.1 λq=>Ld .ptr d.drew q λr=>iO b 1 a.1 λs=>St d.drew s (.pointer p) λt=>iO b 1 (IntKind.i64.wrap (a.1 - 1)) λu=>St t u (.pointer r) λv=>m ((IntKind.i64.wrap (a.1 - 1)),()) v) (l ((IntKind.i64.wrap (f.1+1)),()) d)))
 (cond (decide (a.1>e)) (iO b 1 a.1 λx=>Ld .ptr c.drew x λy=>iO b 1 (IntKind.i64.wrap (a.1 - 1)) λz=>Ld .ptr c.drew z λA=>lJ Tryz.prog [.one (.int .i64)] h [(Value.pointer y),(Value.pointer A)] c.drew λB C=>∃k:Int,B=(Value.int .i64 k)/\
 j (decide (k<0)) C) (j false c.drew))) (f.1,()) i) (K i))) ((IntKind.i64.wrap (e+1)),()) w):=okF ji Tryz.func221 (ig (.blk (.loop [(8,(.int .i64))] (ig (.seq (.blk (ig (.blk (.loop [(9,(.int .i64))] .leaf)))) .leaf))))) (by kernel_rfl)
theorem Oq {a w K}:iH (qN a w K)
 (let d:Int->Int->Prop:=λb e=>(let f:Int->Int->Prop:=λc g=>(let h:Int->Int->Prop:=λi j=>(aeF (bs [0,1,2,2,3,3,3,3,4,4,4,4,4,4,4,4,5,5,5,5,5,5,5,5,5,5,5,5,5,5,5,5,6,6,6,6,6,6,6,6,6,6,6,6,6,6,6,6,6,6,6,6,6,6,6,6,6,6,6,6,6,6,6,6,7,7,7,7,7,7,7,7,7,7,7,7,7,7,7,7,7,7,7,7,7,7,7,7,7,7,7,7,7,7,7,7,7,7,7,7,7,7,7,7,7,7,7,7,7,7,7,7,7,7,7,7,7,7,7,7,7,7,7,7,7,7,7,7,8,8,8,8,8,8,8,8,8,8,8,8,8,8,8,8,8,8,8,8,8,8,8,8,8,8,8,8,8,8,8,8,8,8,8,8,8,8,8,8,8,8,8,8,8,8,8,8,8,8,8,8,8,8,8,8,8,8,8,8,8,8,8,8,8,8,8,8,8,8,8,8,8,8,8,8,8,8,8,8,8,8,8,8,8,8,8,8,8,8,8,8,8,8,8,8,8,8,8,8,8,8,8,8,8,8,8,8,8,8,8,8,8,8,8,8,8,8,8,8,8,8,8,8,8,8,8,8]) (IntKind.u8.wrap i) λk=>K (IntKind.i64.wrap (j+(IntKind.i64.wrap k))) w)
 (cond (decide (c>=256)) (0<=(8:Int)/\
 h (mW .u64 c 8) (IntKind.i64.wrap (g+8))) (h c g)))
 (cond (decide (b>=65536)) (0<=(16:Int)/\
 f (mW .u64 b 16) (IntKind.i64.wrap (e+16))) (f b e)))
 (cond (decide (a>=4294967296)) (0<=(32:Int)/\
 d (mW .u64 a 32) 32) (d a 0))):=okF ji Tryz.func230 .leaf (by kernel_rfl)
theorem Ri {a w K}:iH (qF a w K)
 (K (a !=a) w):=okF ji Tryz.func231 .leaf (by kernel_rfl)
theorem MC {a w K}:iH (lG a w K)
 (let b:Bool->Prop:=λc=>(K c w)
 (cond (!(Option.isNone a)) (Pt a λd=>Ld .bool w (d.add 3) λe=>b e) (b false))):=okF ji Tryz.func239 .leaf (by kernel_rfl)
theorem Et {k l w K}:iH (jJ k l w K)
 (jr (Value.pointer k)=true/\
 Al w (.cells ⟨[.pointer k]⟩ 200) λh u=>jr (Value.string l)=true/\
 Al u (.cells ⟨[.string l]⟩ 9) λr v=>Al v (.cells ⟨[.int .i64 0]⟩ 3) λe x=>Al x (.cells ⟨[.bool false]⟩ 4) λf b=>Ld .ptr b h λy=>Pt y λz=>Ld .slice b z λA=>(cond ((A.len:Int)==0) (St b e (.int .i64 0) λB=>St B f (.bool false) λm=>f_ m e λC=>Ld .bool m f λD=>K C D m) (Ld .ptr b.drew h λs=>Ld .str b.drew r λE=>Ld .ptr b.drew h λF=>Pt F λG=>Ld .slice b.drew G λH=>BK E (H.len:Int) b.drew λI t=>t.cell? h=some (Value.pointer s)/\
 og s I t λJ a=>F7 Tryz.prog none [.one (.int .i64)] J a (λc n d o=>d.heap[c]? =d.heap[c]? /\
 Ld .ptr (iD d c) h λL=>Pt L λM=>Ld .slice (iD d c) M λN=>iO N 3 n.1 λp=>Ld .str (iD d c) (p.add 0) λO=>f_ (iD d c) (p.add 1) λP=>Ld .bool (iD d c) (p.add 2) λQ=>Al (iD d c) (.cells ⟨[.string (bs []),.int .i64 0,.bool false]⟩ 343) λq R=>lM [.string O,.int .i64 P,.bool Q] R q 0 λg=>Ld .bool g (q.add 2) λS=>(cond (!S) (St g e (.int .i64 n.1) λT=>St T f (.bool false) λU=>o .ret U) (Ld .str g q λV=>Ld .str g r λW=>(cond (strEq V W) (St g e (.int .i64 n.1) λX=>St X f (.bool true) λY=>o .ret Y) (o .normal g)))))
 (λZ=>St Z e (.int .i64 0) λaa=>St aa f (.bool false) λi=>i.heap[a.heap.size]? =some (.deferred (some []))/\
 f_ (i.putObj a.heap.size (.deferred none)) e λab=>Ld .bool (i.putObj a.heap.size (.deferred none)) f λac=>K ab ac (i.putObj a.heap.size (.deferred none)))
 (λj=>j.heap[a.heap.size]? =some (.deferred (some []))/\
 f_ (j.putObj a.heap.size (.deferred none)) e λad=>Ld .bool (j.putObj a.heap.size (.deferred none)) f λae=>K ad ae (j.putObj a.heap.size (.deferred none)))
 []))):=okF ji Tryz.func240 (ig (ig (.seq (ig (.blk (.rng [.one (.int .i64)] .leaf .leaf))) .leaf))) (by kernel_rfl)
theorem Om {a b w K}:iH (og a b w K)
 (jr (Value.pointer a)=true/\
 Al w (.cells ⟨[.pointer a]⟩ 200) λc d=>jr (Value.int .i64 b)=true/\
 Al d (.cells ⟨[.int .i64 b]⟩ 3) λe f=>K (Value.func (.func 267) #[] #[(Value.pointer (some c)),(Value.pointer (some e))]) f):=okF ji Tryz.func241 .leaf (by kernel_rfl)
theorem Dw {b d w K}:iH (kL b d w K)
 (iT (S:=Int×Unit) (λa c g=>(cond (decide (a.1<(b.len:Int))) (iO b 1 a.1 λh=>f_ c h λi=>lJ Tryz.prog [.one .bool] d [(Value.int .i64 i)] c λj e=>∃f:Bool,j=(Value.bool f)/\
 (cond f (K a.1 e) (g ((IntKind.i64.wrap (a.1+1)),()) e))) (K (-1) c))) (0,()) w):=okF ji Tryz.func242 (ig (.seq (ig (.blk (.loop [(8,(.int .i64))] .leaf))) .leaf)) (by kernel_rfl)
theorem Vh {b c w K}:iH (uJ b c w K)
 (let d:Bool->b_:=λe f=>(K e f)
 kP b w λg a=>(cond g (cond (decide (c>=0)) (Pt b λh=>Ld .slice a h λi=>(cond (decide (c<(i.len:Int))) (Pt b λj=>Ld .slice a j λk=>iO k 9 c λl=>Ld .bool a (l.add 8) λm=>d m a) (d false a))) (d false a)) (d false a))):=okF ji Tryz.func243 .leaf (by kernel_rfl)
theorem IV {a0 f0 f1 w K}:iH (Jg a0 f0 f1 w K)
 (Ld .ptr w f0 λi=>kY i w λj b=>(cond (!j) (K b) (Ld .ptr b.drew f0 λk=>Pt k λl=>Ld .map b.drew (l.add 2) λm=>f_ b.drew f1 λn=>wV Tryz.prog 3 .slice m (Value.int .i64 n) (Value.slice none 0 0) b.drew λo=>kS o b.drew λe p=>iT (S:=Int×Unit) (λd a q=>(cond (decide (d.1<(e.len:Int))) (iO e 1 d.1 λr=>f_ a r λf=>Ld .ptr a f0 λs=>Pt s λt=>Ld .slice a t λu=>iO u 6 f λc=>f_ a (c.add 0) λv=>f_ a (c.add 1) λx=>f_ a (c.add 2) λy=>f_ a (c.add 3) λz=>f_ a (c.add 4) λA=>lJ Tryz.prog [.one .bool] a0 [(Value.int .i64 f),(Value.agg ⟨[.int .i64 v,.int .i64 x,.int .i64 y,.int .i64 z,.int .i64 A]⟩)] a λB g=>∃h:Bool,B=(Value.bool h)/\
 (cond (!h) (K g) (q ((IntKind.i64.wrap (d.1+1)),()) g))) (K a))) (0,()) p))):=okF ji Tryz.func244 (ig (ig (.blk (.loop [(17,(.int .i64))] .leaf)))) (by kernel_rfl)
theorem TF {a w K}:iH (vM a w K)
 (Al w (.cells ⟨[.int .i64 1,.int .i64 6,.int .i64 17]⟩ 3) λb c=>jF ⟨(some b),3,3⟩ a c λd e=>K d e):=okF ji Tryz.func245 .leaf (by kernel_rfl)
theorem yF {b d w K}:iH (jM b d w K)
 (iT (S:=Int×Unit) (λa c g=>(cond (decide (a.1<(b.len:Int))) (iO b 16 a.1 λh=>oV c h λi j k l m n o p q r s t u v x y=>lJ Tryz.prog [.one .bool] d [(Value.agg ⟨jH i j k l m n o p q r s t u v x y⟩)] c λz e=>∃f:Bool,z=(Value.bool f)/\
 (cond f (K a.1 e) (g ((IntKind.i64.wrap (a.1+1)),()) e))) (K (-1) c))) (0,()) w):=okF ji Tryz.func246 (ig (.seq (ig (.blk (.loop [(8,(.int .i64))] .leaf))) .leaf)) (by kernel_rfl)
theorem uD {d e w K}:iH (jv d e w K)
 (iT (S:=Int×Unit) (λc a h=>(cond (decide (c.1<(d.len:Int))) (iO d 7 c.1 λb=>f_ a (b.add 0) λi=>f_ a (b.add 1) λj=>f_ a (b.add 2) λk=>f_ a (b.add 3) λl=>f_ a (b.add 4) λm=>f_ a (b.add 5) λn=>f_ a (b.add 6) λo=>lJ Tryz.prog [.one .bool] e [(Value.agg ⟨[.int .i64 i,.int .i64 j,.int .i64 k,.int .i64 l,.int .i64 m,.int .i64 n,.int .i64 o]⟩)] a λp f=>∃g:Bool,p=(Value.bool g)/\
 (cond g (K c.1 f) (h ((IntKind.i64.wrap (c.1+1)),()) f))) (K (-1) a))) (0,()) w):=okF ji Tryz.func247 (ig (.seq (ig (.blk (.loop [(8,(.int .i64))] .leaf))) .leaf)) (by kernel_rfl)
theorem Aa {a0 f0 f1 w K}:iH (Ag a0 f0 f1 w K)
 (Ld .slice w f0 λd=>iT (S:=Int×Unit) (λa b y=>(cond (decide (a.1<(d.len:Int))) (iO d 16 a.1 λz=>oV b z λA B C D E F G H I J L M N O P Q=>Al b (.cells ⟨(jH 0 0 0 0 0 0 0 0 0 0 0 0 0 0 0 0)⟩ 28) λe R=>lM (jH A B C D E F G H I J L M N O P Q) R e 0 λc=>Ld .any c f1 λT=>oV c e λU V W X Y Z aa ab ac ad ae af ag ah ai aj=>lJ Tryz.prog [.agg RG] T [(Value.agg ⟨jH U V W X Y Z aa ab ac ad ae af ag ah ai aj⟩)] c λak al=>∃f:Int,∃g:Int,∃h:Int,∃i:Int,∃j:Int,∃k:Int,∃l:Int,∃m:Int,∃n:Int,∃o:Int,∃p:Int,∃q:Int,∃r:Int,∃s:Int,∃t:Int,∃u:Int,ak=(Value.agg ⟨jH f g h i j k l m n o p q r s t u⟩)/\
 lJ Tryz.prog [.one .bool] a0 [(Value.agg ⟨jH f g h i j k l m n o p q r s t u⟩)] al λam v=>∃x:Bool,am=(Value.bool x)/\
 (cond (!x) (K v) (y ((IntKind.i64.wrap (a.1+1)),()) v))) (K b))) (0,()) w):=okF ji Tryz.func248 (ig (.blk (.loop [(8,(.int .i64))] .leaf))) (by kernel_rfl)
theorem FN {a0 f0 f1 w K}:iH (Gf a0 f0 f1 w K)
 (Ld .slice w f0 λc=>iT (S:=Int×Unit) (λb a g=>(cond (decide (b.1<(c.len:Int))) (iO c 1 b.1 λh=>f_ a h λi=>Ld .any a f1 λj=>lJ Tryz.prog [.one (.int .i64)] j [(Value.int .i64 i)] a λk l=>∃d:Int,k=(Value.int .i64 d)/\
 lJ Tryz.prog [.one .bool] a0 [(Value.int .i64 d)] l λm e=>∃f:Bool,m=(Value.bool f)/\
 (cond (!f) (K e) (g ((IntKind.i64.wrap (b.1+1)),()) e))) (K a))) (0,()) w):=okF ji Tryz.func249 (ig (.blk (.loop [(8,(.int .i64))] .leaf))) (by kernel_rfl)
theorem wL {a0 f0 f1 w K}:iH (wW a0 f0 f1 w K)
 (Ld .slice w f0 λf=>iT (S:=Int×Unit) (λe a m=>(cond (decide (e.1<(f.len:Int))) (iO f 7 e.1 λd=>f_ a (d.add 0) λn=>f_ a (d.add 1) λo=>f_ a (d.add 2) λp=>f_ a (d.add 3) λq=>f_ a (d.add 4) λr=>f_ a (d.add 5) λs=>f_ a (d.add 6) λt=>Al a (.cells ⟨[.int .i64 0,.int .i64 0,.int .i64 0,.int .i64 0,.int .i64 0,.int .i64 0,.int .i64 0]⟩ 105) λc u=>lM [.int .i64 n,.int .i64 o,.int .i64 p,.int .i64 q,.int .i64 r,.int .i64 s,.int .i64 t] u c 0 λb=>Ld .any b f1 λv=>f_ b (c.add 0) λx=>f_ b (c.add 1) λy=>f_ b (c.add 2) λz=>f_ b (c.add 3) λA=>f_ b (c.add 4) λB=>f_ b (c.add 5) λC=>f_ b (c.add 6) λD=>lJ Tryz.prog [.agg [(.int .i64),(.int .i64),(.int .i64),(.int .i64)]] v [(Value.agg ⟨[.int .i64 x,.int .i64 y,.int .i64 z,.int .i64 A,.int .i64 B,.int .i64 C,.int .i64 D]⟩)] b λE F=>∃g:Int,∃h:Int,∃i:Int,∃j:Int,E=(Value.agg ⟨[.int .i64 g,.int .i64 h,.int .i64 i,.int .i64 j]⟩)/\
 lJ Tryz.prog [.one .bool] a0 [(Value.agg ⟨[.int .i64 g,.int .i64 h,.int .i64 i,.int .i64 j]⟩)] F λG k=>∃l:Bool,G=(Value.bool l)/\
 (cond (!l) (K k) (m ((IntKind.i64.wrap (e.1+1)),()) k))) (K a))) (0,()) w):=okF ji Tryz.func250 (ig (.blk (.loop [(8,(.int .i64))] .leaf))) (by kernel_rfl)
theorem wM {a0 f0 f1 w K}:iH (wX a0 f0 f1 w K)
 (Ld .slice w f0 λf=>iT (S:=Int×Unit) (λe a l=>(cond (decide (e.1<(f.len:Int))) (iO f 7 e.1 λd=>f_ a (d.add 0) λm=>f_ a (d.add 1) λn=>f_ a (d.add 2) λo=>f_ a (d.add 3) λp=>f_ a (d.add 4) λq=>f_ a (d.add 5) λr=>f_ a (d.add 6) λs=>Al a (.cells ⟨[.int .i64 0,.int .i64 0,.int .i64 0,.int .i64 0,.int .i64 0,.int .i64 0,.int .i64 0]⟩ 105) λc t=>lM [.int .i64 m,.int .i64 n,.int .i64 o,.int .i64 p,.int .i64 q,.int .i64 r,.int .i64 s] t c 0 λb=>Ld .any b f1 λu=>f_ b (c.add 0) λv=>f_ b (c.add 1) λx=>f_ b (c.add 2) λy=>f_ b (c.add 3) λz=>f_ b (c.add 4) λA=>f_ b (c.add 5) λB=>f_ b (c.add 6) λC=>lJ Tryz.prog [.agg [(.int .i64),(.int .i64),(.int .i64)]] u [(Value.agg ⟨[.int .i64 v,.int .i64 x,.int .i64 y,.int .i64 z,.int .i64 A,.int .i64 B,.int .i64 C]⟩)] b λD E=>∃g:Int,∃h:Int,∃i:Int,D=(Value.agg ⟨[.int .i64 g,.int .i64 h,.int .i64 i]⟩)/\
 lJ Tryz.prog [.one .bool] a0 [(Value.agg ⟨[.int .i64 g,.int .i64 h,.int .i64 i]⟩)] E λF j=>∃k:Bool,F=(Value.bool k)/\
 (cond (!k) (K j) (l ((IntKind.i64.wrap (e.1+1)),()) j))) (K a))) (0,()) w):=okF ji Tryz.func251 (ig (.blk (.loop [(8,(.int .i64))] .leaf))) (by kernel_rfl)
theorem Qa {d e b w K}:iH (rU d e b w K)
 (Al w (.cells ⟨[.int .i64 d,.int .i64 e]⟩ 300) λf g=>f_ g (f.add 1) λa=>let h:Bool->b_:=λi j=>(K i j)
 wB b g.drew λk c=>(cond k (0<=(IntKind.i64.wrap (32 - a))/\
 f_ c f λl=>0<=(IntKind.i64.wrap (32 - a))/\
 h ((mW .i64 b (IntKind.i64.wrap (32 - a)))==(mW .i64 l (IntKind.i64.wrap (32 - a)))) c) (h false c))):=okF ji Tryz.func252 .leaf (by kernel_rfl)
theorem aan {c w K}:iH (AA c w K)
 (iT (S:=iq×Int×Unit) (λa b e=>(cond (decide (a.2.1<(c.len:Int))) (iO c 1 a.2.1 λf=>f_ b f λd=>0<=(32:Int)/\
 BH a.1 (DY .i64 (mW .i64 d 32) 4294967295) 4 b λg h=>BH g (DY .i64 d 4294967295) 4 h λi j=>e (i,(IntKind.i64.wrap (a.2.1+1)),()) j) (FZ b a.1 λk=>K k b))) (⟨none,0,0⟩,0,()) w):=okF ji Tryz.func253 (ig (ig (.seq (ig (.blk (.loop [(3,.slice),(8,(.int .i64))] .leaf))) .leaf))) (by kernel_rfl)
theorem Ol {b w K}:iH (qM b w K)
 (Pt b λl=>f_ w.drew (l.add 1) λm=>Pt b λn=>Ld .slice w.drew n λo=>(cond (decide ((IntKind.i64.wrap (2 * (IntKind.i64.wrap (m+1))))<=(o.len:Int))) (K w.drew) (Pt b λp=>Ld .slice w.drew p λc=>XU 343 3 32 [(Value.string (bs [])),(Value.int .i64 0),(Value.bool false)] (if (IntKind.i64.wrap (2 * (c.len:Int)))>8 then (IntKind.i64.wrap (2 * (c.len:Int))) else 8) (if (IntKind.i64.wrap (2 * (c.len:Int)))>8 then (IntKind.i64.wrap (2 * (c.len:Int))) else 8) w.drew λh q=>Pt b λr=>St q r (.slice h.a h.len h.cap) λs=>iT (S:=Int×Unit) (λi e t=>(cond (decide (i.1<(c.len:Int))) (let k:b_:=λu=>(t ((IntKind.i64.wrap (i.1+1)),()) u)
 iO c 3 i.1 λj=>Ld .str e (j.add 0) λv=>f_ e (j.add 1) λx=>Ld .bool e (j.add 2) λy=>Al e (.cells ⟨[.string (bs []),.int .i64 0,.bool false]⟩ 343) λd z=>lM [.string v,.int .i64 x,.bool y] z d 0 λg=>Ld .bool g (d.add 2) λA=>(cond A (Ld .str g d λB=>jJ b B g λC L f=>Pt b λD=>Ld .slice f.drew D λE=>Ld .str f.drew (d.add 0) λF=>f_ f.drew (d.add 1) λG=>Ld .bool f.drew (d.add 2) λH=>iO E 3 C λI=>lM [.string F,.int .i64 G,.bool H] f.drew I 0 λJ=>k J) (k g))) (K e))) (0,()) s))):=okF ji Tryz.func254 (ig (ig (ig (ig (.blk (.loop [(33,(.int .i64))] .leaf)))))) (by kernel_rfl)
theorem sZ {c e w K}:iH (jk c e w K)
 (iT (S:=Int×Unit) (λb a h=>(cond (decide (b.1<(c.len:Int))) (iO c 3 b.1 λd=>f_ a (d.add 0) λi=>f_ a (d.add 1) λj=>f_ a (d.add 2) λk=>lJ Tryz.prog [.one .bool] e [(Value.agg ⟨[.int .i64 i,.int .i64 j,.int .i64 k]⟩)] a λl f=>∃g:Bool,l=(Value.bool g)/\
 (cond g (K b.1 f) (h ((IntKind.i64.wrap (b.1+1)),()) f))) (K (-1) a))) (0,()) w):=okF ji Tryz.func255 (ig (.seq (ig (.blk (.loop [(8,(.int .i64))] .leaf))) .leaf)) (by kernel_rfl)
theorem xJ {b m n o c w K}:iH (iZ b m n o c w K)
 (iT (S:=Int×Int×Int×Bool×Bool×Unit) (λa g h=>(cond (decide ((IntKind.i64.wrap (a.2.1 - a.1))<=12)) (jo b a.1 a.2.1 c g λD=>K D) (cond (a.2.2.1==0) (xk b a.1 a.2.1 c g λE=>K E) (let p:Int->b_:=λf F=>(uZ b a.1 a.2.1 c F λq r s=>let t:Int->Int->b_:=λi G u=>(let v:b_:=λd=>(let x:Bool->b_:=λH y=>((cond H (tK b a.1 a.2.1 i c y λI J=>h (I,a.2.1,f,a.2.2.2.1,a.2.2.2.2.1,()) J) (wI b a.1 a.2.1 i c y λe z A=>(8:Int)≠0/\
 (cond (decide ((IntKind.i64.wrap (e - a.1))<(IntKind.i64.wrap (a.2.1 - e)))) (iZ b a.1 e f c A λL=>h ((IntKind.i64.wrap (e+1)),a.2.1,f,(decide ((IntKind.i64.wrap (e - a.1))>=(IntKind.i64.wrap (Int.tdiv (IntKind.i64.wrap (a.2.1 - a.1)) 8)))),z,()) L) (iZ b (IntKind.i64.wrap (e+1)) a.2.1 f c A λM=>h (a.1,e,f,(decide ((IntKind.i64.wrap (a.2.1 - e))>=(IntKind.i64.wrap (Int.tdiv (IntKind.i64.wrap (a.2.1 - a.1)) 8)))),z,()) M)))))
 (cond (decide (a.1>0)) (iO b 3 (IntKind.i64.wrap (a.1 - 1)) λj=>f_ d.drew (j.add 0) λN=>f_ d.drew (j.add 1) λO=>f_ d.drew (j.add 2) λP=>iO b 3 i λk=>f_ d.drew (k.add 0) λQ=>f_ d.drew (k.add 1) λR=>f_ d.drew (k.add 2) λT=>lJ Tryz.prog [.one (.int .i64)] c [(Value.agg ⟨[.int .i64 N,.int .i64 O,.int .i64 P]⟩),(Value.agg ⟨[.int .i64 Q,.int .i64 R,.int .i64 T]⟩)] d.drew λU V=>∃B:Int,U=(Value.int .i64 B)/\
 x (!(decide (B<0))) V) (x false d.drew)))
 let l:Bool->Prop:=λW=>((cond W (qC b a.1 a.2.1 c u λX C=>(cond X (K C) (v C))) (v u)))
 (cond a.2.2.2.1 (cond a.2.2.2.2.1 (l (G==1)) (l false)) (l false)))
 (cond (r==2) (uS b a.1 a.2.1 c s λY=>t (IntKind.i64.wrap ((IntKind.i64.wrap (a.2.1 - 1)) - (IntKind.i64.wrap (q - a.1)))) 1 Y) (t q r s)))
 (cond (!a.2.2.2.1) (uo b a.1 a.2.1 c g λZ=>p (IntKind.i64.wrap (a.2.2.1 - 1)) Z) (p a.2.2.1 g)))))) (m,n,o,true,true,()) w):=okF ji Tryz.func256 (ig (ig (.blk (.loop [(1,(.int .i64)),(2,(.int .i64)),(3,(.int .i64)),(10,.bool),(11,.bool)] .leaf)))) (by kernel_rfl)
theorem Vb {a0 f0 f1 w K}:iH (V9 a0 f0 f1 w K)
 (f_ w f0 λe=>iT (S:=Int×Unit) (λa b f=>(cond (decide (a.1>=0)) (f_ b f1 λg=>0<=(IntKind.i64.wrap (8 * a.1))/\
 lJ Tryz.prog [.one .bool] a0 [(Value.int .u8 (IntKind.u8.wrap (mW .i64 g (IntKind.i64.wrap (8 * a.1)))))] b λh c=>∃d:Bool,h=(Value.bool d)/\
 (cond (!d) (K c) (f ((IntKind.i64.wrap (a.1 - 1)),()) c))) (K b))) ((IntKind.i64.wrap (e - 1)),()) w):=okF ji Tryz.func257 (ig (.blk (.loop [(4,(.int .i64))] .leaf))) (by kernel_rfl)
theorem vC {c d w K}:iH (jC c d w K)
 (iT (S:=Int×Unit) (λa b h=>(cond (decide (a.1<(c.len:Int))) (iO c 2 a.1 λe=>f_ b (e.add 0) λi=>f_ b (e.add 1) λj=>lJ Tryz.prog [.one .bool] d [(Value.agg ⟨[.int .i64 i,.int .i64 j]⟩)] b λk f=>∃g:Bool,k=(Value.bool g)/\
 (cond g (K a.1 f) (h ((IntKind.i64.wrap (a.1+1)),()) f))) (K (-1) b))) (0,()) w):=okF ji Tryz.func258 (ig (.seq (ig (.blk (.loop [(8,(.int .i64))] .leaf))) .leaf)) (by kernel_rfl)
theorem WY {c d e f g h i j k l m n o p q r s t u v x y z A B C D E F G H I J L M N O w K}:iH (zD c d e f g h i j k l m n o p q r s t u v x y z A B C D E F G H I J L M N O w K)
 (Al w (.cells ⟨(jV c d e f g h i j k l m n o p q r s t u v x y z A B C D E F G H I J L M N)⟩ 33) λP Q=>iT (S:=Int×Unit) (λb a R=>Ld .slice a (P.add 17) λT=>(cond (decide (b.1<(T.len:Int))) (Ld .slice a (P.add 17) λU=>iO U 1 b.1 λV=>f_ a V λW=>(cond (W==O) (K true a) (R ((IntKind.i64.wrap (b.1+1)),()) a))) (K false a))) (0,()) Q):=okF ji Tryz.func259 (ig (.seq (ig (.blk (.loop [(5,(.int .i64))] .leaf))) .leaf)) (by kernel_rfl)
theorem YQ {b c w K}:iH (BK b c w K)
 (iT (S:=Int×Int×Unit) (λa d e=>(cond (decide (a.2.1<(b.size:Int))) (aeF b a.2.1 λf=>e ((IntKind.u32.wrap ((acg .u32 a.1 (IntKind.u32.wrap f)) * 16777619)),(IntKind.i64.wrap (a.2.1+1)),()) d) ((IntKind.u32.wrap c)≠0/\
 K (IntKind.i64.wrap (Int.tmod a.1 (IntKind.u32.wrap c))) d))) (2166136261,0,()) w):=okF ji Tryz.func266 (ig (ig (.seq (ig (.blk (.loop [(5,(.int .u32)),(9,(.int .i64))] .leaf))) .leaf))) (by kernel_rfl)
theorem JW {a0 f0 f1 w K}:iH (Lu a0 f0 f1 w K)
 (Ld .ptr w f0 λf=>Pt f λg=>Ld .slice w g λh=>iT (S:=Int×Unit) (λb a i=>(cond (decide (b.1<(h.len:Int))) (f_ a.drew f1 λj=>Ld .ptr a.drew f0 λk=>Pt k λl=>Ld .slice a.drew l λc=>(c.len:Int)≠0/\
 lJ Tryz.prog [.one .bool] a0 [(Value.int .i64 (Int.tmod (IntKind.i64.wrap (j+b.1)) (c.len:Int)))] a.drew λm d=>∃e:Bool,m=(Value.bool e)/\
 (cond (!e) (K d) (i ((IntKind.i64.wrap (b.1+1)),()) d))) (K a))) (0,()) w):=okF ji Tryz.func267 (ig (.blk (.loop [(10,(.int .i64))] .leaf))) (by kernel_rfl)
theorem uf {d e k l w K}:iH (jo d e k l w K)
 (iT (S:=Int×Unit) (λf m p=>(cond (decide (f.1<k)) (iT (S:=Int×Unit) (λa b q=>let n:Bool->b_:=λr c=>((cond r (iO d 3 (IntKind.i64.wrap (a.1 - 1)) λg=>f_ c.drew (g.add 0) λs=>f_ c.drew (g.add 1) λt=>f_ c.drew (g.add 2) λu=>iO d 3 a.1 λh=>f_ c.drew (h.add 0) λv=>f_ c.drew (h.add 1) λx=>f_ c.drew (h.add 2) λy=>iO d 3 a.1 λz=>lM [.int .i64 s,.int .i64 t,.int .i64 u] c.drew z 0 λA=>iO d 3 (IntKind.i64.wrap (a.1 - 1)) λB=>lM [.int .i64 v,.int .i64 x,.int .i64 y] A B 0 λC=>q ((IntKind.i64.wrap (a.1 - 1)),()) C) (p ((IntKind.i64.wrap (f.1+1)),()) c)))
 (cond (decide (a.1>e)) (iO d 3 a.1 λi=>f_ b.drew (i.add 0) λD=>f_ b.drew (i.add 1) λE=>f_ b.drew (i.add 2) λF=>iO d 3 (IntKind.i64.wrap (a.1 - 1)) λj=>f_ b.drew (j.add 0) λG=>f_ b.drew (j.add 1) λH=>f_ b.drew (j.add 2) λI=>lJ Tryz.prog [.one (.int .i64)] l [(Value.agg ⟨[.int .i64 D,.int .i64 E,.int .i64 F]⟩),(Value.agg ⟨[.int .i64 G,.int .i64 H,.int .i64 I]⟩)] b.drew λJ L=>∃o:Int,J=(Value.int .i64 o)/\
 n (decide (o<0)) L) (n false b.drew))) (f.1,()) m) (K m))) ((IntKind.i64.wrap (e+1)),()) w):=okF ji Tryz.func268 (ig (.blk (.loop [(8,(.int .i64))] (ig (.seq (.blk (ig (.blk (.loop [(9,(.int .i64))] .leaf)))) .leaf))))) (by kernel_rfl)
end Go.Proofs
