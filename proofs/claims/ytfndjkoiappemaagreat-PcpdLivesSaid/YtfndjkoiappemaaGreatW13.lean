import Derived.Test.YtfndjkoiappemaaGreatG44
import Derived.Test.YtfndjkoiappemaaGreatW9
import Derived.Test.YtfndjkoiappemaaGreatW7
import Derived.Test.YtfndjkoiappemaaGreatW3
import Derived.Test.YtfndjkoiappemaaGreatW2
open List (find?_some)
set_option maxRecDepth 100000
set_option maxHeartbeats 4000000
section
namespace Go.Proofs
open Gp
@[reducible] def ajf (e f g h i j k l m n o p q r s t:Int) (b c:iq) (u v w x y z A B C D E F G H I J K:Int) (d:iq) (L:Int) (M N O P:g_):List Value:= .int .u8 e:: .int .u8 f:: .int .u8 g:: .int .u8 h:: .int .u8 i:: .int .u8 j:: .int .u8 k:: .int .u8 l:: .int .u8 m:: .int .u8 n:: .int .u8 o:: .int .u8 p:: .int .u8 q:: .int .u8 r:: .int .u8 s:: .int .u8 t:: .slice b.a b.len b.cap:: .slice c.a c.len c.cap:: .int .i64 u:: .int .i64 v:: .int .i64 w:: .int .i64 x:: .int .i64 y:: .int .i64 z:: .int .i64 A:: .int .i64 B:: .int .i64 C:: .int .i64 D:: .int .i64 E:: .int .i64 F:: .int .i64 G:: .int .i64 H:: .int .i64 I:: .int .i64 J:: .int .i64 K:: .slice d.a d.len d.cap:: .int .i64 L:: .pointer M:: .pointer N:: .pointer O:: .pointer P::[]
@[reducible] def SI (a b c d e f g h:Int) (i:Bool):List Value:= .int .i64 a:: .int .i64 b:: .int .i64 c:: .int .i64 d:: .int .i64 e:: .int .i64 f:: .int .i64 g:: .int .i64 h:: .bool i::[]
@[reducible] def aj1 (w:World) (a:Addr) (K:Int->Int->Int->Int->Int->Int->Int->Int->Bool->Prop):Prop:=Ld (.int .i64) w (a.add 0) λb=>Ld (.int .i64) w (a.add 1) λc=>Ld (.int .i64) w (a.add 2) λd=>Ld (.int .i64) w (a.add 3) λe=>Ld (.int .i64) w (a.add 4) λf=>Ld (.int .i64) w (a.add 5) λg=>Ld (.int .i64) w (a.add 6) λh=>Ld (.int .i64) w (a.add 7) λi=>Ld .bool w (a.add 8) λj=>K b c d e f g h i j
def EU (c d e f g h i j k l m n o p q r:Int) (s t:iq) (u v x y z A B C D E F G H I J L M:Int) (N:iq) (O:Int) (b:iq) (w:World) (K:Bool->b_):Prop:=
 iw Tryz.prog 5 [.agg ⟨jV c d e f g h i j k l m n o p q r s t u v x y z A B C D E F G H I J L M N⟩,.int .i64 O,.slice b.a b.len b.cap] [.one .bool] w K
def Jf (a b c d e f g h i j k l m n o p:Int) (q r:iq) (s t u v x y z A B C D E F G H I J:Int) (L:iq) (w:World) (K:(g_)->Int->b_):Prop:=
 iw Tryz.prog 17 [.agg ⟨jV a b c d e f g h i j k l m n o p q r s t u v x y z A B C D E F G H I J L⟩] [.one .ptr,.one (.int .i64)] w K
def yY (a:g_) (b:Int) (w:World) (K:(g_)->Int->b_):Prop:=
 iw Tryz.prog 18 [.pointer a,.int .i64 b] [.one .ptr,.one (.int .i64)] w K
theorem Pn {a b w K c}:yY a b w K->(∀d e w,K d e w->c d e w)->yY a b w c:=iw.mono
def qZ (c:g_) (d e:Int) (b:iq) (w:World) (K:iq->Int->b_):Prop:=
 iw Tryz.prog 19 [.pointer c,.int .i64 d,.int .i64 e,.slice b.a b.len b.cap] [.one .slice,.one (.int .i64)] w K
def uK (b c:iq) (w:World) (K:Bool->b_):Prop:=
 iw Tryz.prog 20 [.slice b.a b.len b.cap,.slice c.a c.len c.cap] [.one .bool] w K
theorem Uu {a b w K c}:uK a b w K->(∀d w,K d w->c d w)->uK a b w c:=iw.mono
def kR (a:g_) (b:Int) (w:World) (K:Int->b_):Prop:=
 iw Tryz.prog 21 [.pointer a,.int .i64 b] [.one (.int .i64)] w K
theorem Gq {a b w K c}:kR a b w K->(∀d w,K d w->c d w)->kR a b w c:=iw.mono
def kX (a:g_) (b:Int) (w:World) (K:Int->b_):Prop:=
 iw Tryz.prog 22 [.pointer a,.int .i64 b] [.one (.int .i64)] w K
theorem Hz {a b w K c}:kX a b w K->(∀d w,K d w->c d w)->kX a b w c:=iw.mono
def kQ (a:g_) (b:Int) (w:World) (K:Int->b_):Prop:=
 iw Tryz.prog 23 [.pointer a,.int .i64 b] [.one (.int .i64)] w K
theorem Gn {a b w K c}:kQ a b w K->(∀d w,K d w->c d w)->kQ a b w c:=iw.mono
def m_ (a:g_) (b:Int) (w:World) (K:Int->b_):Prop:=
 iw Tryz.prog 24 [.pointer a,.int .i64 b] [.one (.int .i64)] w K
theorem Jl {a b w K c}:m_ a b w K->(∀d w,K d w->c d w)->m_ a b w c:=iw.mono
def lN (a:g_) (b:Int) (w:World) (K:Int->b_):Prop:=
 iw Tryz.prog 25 [.pointer a,.int .i64 b] [.one (.int .i64)] w K
theorem IE {a b w K c}:lN a b w K->(∀d w,K d w->c d w)->lN a b w c:=iw.mono
def oz (a:g_) (w:World) (K:Int->b_):Prop:=
 iw Tryz.prog 26 [.pointer a] [.one (.int .i64)] w K
theorem NP {a w K b}:oz a w K->(∀c w,K c w->b c w)->oz a w b:=iw.mono
def wH (h:Int) (b c:iq) (i j k:Int) (d:iq) (l:Int) (e f:iq) (m n o:Int) (g:iq) (w:World) (K:Bool->b_):Prop:=
 iw Tryz.prog 27 [(.agg ⟨[.int .i64 h,.slice b.a b.len b.cap,.slice c.a c.len c.cap,.int .i64 i,.int .i64 j,.int .i64 k,.slice d.a d.len d.cap]⟩),(.agg ⟨[.int .i64 l,.slice e.a e.len e.cap,.slice f.a f.len f.cap,.int .i64 m,.int .i64 n,.int .i64 o,.slice g.a g.len g.cap]⟩)] [.one .bool] w K
theorem Wq {a b c d e f g h i j k l m n w K o}:wH a b c d e f g h i j k l m n w K->(∀p w,K p w->o p w)->wH a b c d e f g h i j k l m n w o:=iw.mono
def rJ (a:g_) (w:World) (K:Int->iq->iq->Int->Int->Int->iq->b_):Prop:=
 iw Tryz.prog 28 [.pointer a] [.agg [(.int .i64),.slice,.slice,(.int .i64),(.int .i64),(.int .i64),.slice]] w K
def BP (b:iq) (c d:Int) (w:World) (K:(g_)->Int->b_):Prop:=
 iw Tryz.prog 58 [.slice b.a b.len b.cap,.int .i64 c,.int .i64 d] [.one .ptr,.one (.int .i64)] w K
theorem Yk {a b c w K d}:BP a b c w K->(∀e f w,K e f w->d e f w)->BP a b c w d:=iw.mono
def BQ (a b:Int) (w:World) (K:(g_)->Int->b_):Prop:=
 iw Tryz.prog 59 [.int .i64 a,.int .i64 b] [.one .ptr,.one (.int .i64)] w K
theorem Yl {a b w K c}:BQ a b w K->(∀d e w,K d e w->c d e w)->BQ a b w c:=iw.mono
def BR (a:Int) (w:World) (K:(g_)->Int->b_):Prop:=
 iw Tryz.prog 60 [.int .i64 a] [.one .ptr,.one (.int .i64)] w K
theorem Ym {a w K b}:BR a w K->(∀c d w,K c d w->b c d w)->BR a w b:=iw.mono
def BU (a:Int) (w:World) (K:(g_)->Int->b_):Prop:=
 iw Tryz.prog 61 [.int .i64 a] [.one .ptr,.one (.int .i64)] w K
theorem Yn {a w K b}:BU a w K->(∀c d w,K c d w->b c d w)->BU a w b:=iw.mono
def nN (a:g_) (b c d e f g h:Int) (w:World) (K:Int->b_):Prop:=
 iw Tryz.prog 62 [.pointer a,(.agg ⟨[.int .i64 b,.int .i64 c,.int .i64 d,.int .i64 e,.int .i64 f,.int .i64 g,.int .i64 h]⟩)] [.one (.int .i64)] w K
theorem xC {a b c d e f g h w K i}:nN a b c d e f g h w K->(∀j w,K j w->i j w)->nN a b c d e f g h w i:=iw.mono
def FB (b:iq) (w:World) (K:h_ (h_ (h_ (h_ (Int->Int->b_))))):Prop:=
 iw Tryz.prog 63 [.slice b.a b.len b.cap] [.agg RH,.one (.int .i64)] w K
def sF (a:Int) (w:World) (K:h_ (h_ (b_))):Prop:=
 iw Tryz.prog 64 [.int .i64 a] [.agg RG] w K
def yM (a:g_) (b c d e f g h i j k l m n o p q r s t u v x y z A B C D E F G H I J L M N:Int) (w:World) (K:h_ (h_ (h_ (h_ (Int->Int->b_))))):Prop:=
 iw Tryz.prog 65 [.pointer a,(.agg ⟨[.int .i64 b,.int .i64 c,.int .i64 d,.int .i64 e]⟩),.agg ⟨iU f g h i j k l m n o p q r s t u v x y z A B C D E F G H I J L M N⟩] [.one (.int .i64),.agg RH] w K
def sD (a b c d e f g h i j k l m n o p q r s t u v x y z A B C D E F G H I J:Int) (w:World) (K:iq->Int->b_):Prop:=
 iw Tryz.prog 66 [.agg ⟨Nc a b c d e f g h i j k l m n o p q r s t u v x y z A B C D E F G H I J⟩] [.one .slice,.one (.int .i64)] w K
theorem Tf {a b c d e f g h i j k l m n o p q r s t u v x y z A B C D E F G H I J w K L}:sD a b c d e f g h i j k l m n o p q r s t u v x y z A B C D E F G H I J w K->(∀M N w,K M N w->L M N w)->sD a b c d e f g h i j k l m n o p q r s t u v x y z A B C D E F G H I J w L:=iw.mono
def ny (a:g_) (b:Int) (w:World) (K:b_):Prop:=
 iw Tryz.prog 67 [.pointer a,.int .i64 b] [] w K
theorem Cc {a b w K c}:ny a b w K->(∀w,K w->c w)->ny a b w c:=iw.mono
def LC (a:g_) (b:Int) (w:World) (K:Int->Int->Int->Int->Int->Bool->b_):Prop:=
 iw Tryz.prog 68 [.pointer a,.int .i64 b] [.agg [(.int .i64),(.int .i64),(.int .i64),(.int .i64),(.int .i64)],.one .bool] w K
def Jc (a:g_) (b:Int) (w:World) (K:Bool->b_):Prop:=
 iw Tryz.prog 70 [.pointer a,.int .i64 b] [.one .bool] w K
def vT (a:g_) (b:Int) (w:World) (K:Bool->b_):Prop:=
 iw Tryz.prog 72 [.pointer a,.int .i64 b] [.one .bool] w K
def nM (a:g_) (b:Int) (w:World) (K:iq->b_):Prop:=
 iw Tryz.prog 73 [.pointer a,.int .i64 b] [.one .slice] w K
theorem E8 {a b w K c}:nM a b w K->(∀d w,K d w->c d w)->nM a b w c:=iw.mono
def kV (a:g_) (b:Int) (w:World) (K:b_):Prop:=
 iw Tryz.prog 74 [.pointer a,.int .i64 b] [] w K
theorem Ju {a b w K c}:kV a b w K->(∀w,K w->c w)->kV a b w c:=iw.mono
def rV (a:g_) (b:Int) (w:World) (K:Value->b_):Prop:=
 iw Tryz.prog 75 [.pointer a,.int .i64 b] [.one .any] w K
theorem Pe {a b w K c}:rV a b w K->(∀d w,K d w->c d w)->rV a b w c:=iw.mono
def zF (b c:iq) (w:World) (K:Bool->b_):Prop:=
 iw Tryz.prog 77 [.slice b.a b.len b.cap,.slice c.a c.len c.cap] [.one .bool] w K
theorem Ws {a b w K c}:zF a b w K->(∀d w,K d w->c d w)->zF a b w c:=iw.mono
def QE (a:g_) (b:Int) (w:World) (K:Int->b_):Prop:=
 iw Tryz.prog 78 [.pointer a,.int .i64 b] [.one (.int .i64)] w K
def pX (a:g_) (b c d e f g h:Int) (w:World) (K:Bool->b_):Prop:=
 iw Tryz.prog 127 [.pointer a,(.agg ⟨[.int .i64 b,.int .i64 c,.int .i64 d,.int .i64 e,.int .i64 f,.int .i64 g,.int .i64 h]⟩)] [.one .bool] w K
theorem LV {a b c d e f g h w K i}:pX a b c d e f g h w K->(∀j w,K j w->i j w)->pX a b c d e f g h w i:=iw.mono
def oJ (a:g_) (b c d e:Int) (w:World) (K:Int->Bool->b_):Prop:=
 iw Tryz.prog 128 [.pointer a,(.agg ⟨[.int .i64 b,.int .i64 c,.int .i64 d,.int .i64 e]⟩)] [.one (.int .i64),.one .bool] w K
theorem AQ {a b c d e w K f}:oJ a b c d e w K->(∀g h w,K g h w->f g h w)->oJ a b c d e w f:=iw.mono
def qH (a:g_) (b c d:Int) (w:World) (K:Int->Bool->b_):Prop:=
 iw Tryz.prog 129 [.pointer a,(.agg ⟨[.int .i64 b,.int .i64 c,.int .i64 d]⟩)] [.one (.int .i64),.one .bool] w K
theorem Gm {a b c d w K e}:qH a b c d w K->(∀f g w,K f g w->e f g w)->qH a b c d w e:=iw.mono
def oO (a:g_) (b:Int) (w:World) (K:Int->b_):Prop:=
 iw Tryz.prog 130 [.pointer a,.int .i64 b] [.one (.int .i64)] w K
theorem Jt {a b w K c}:oO a b w K->(∀d w,K d w->c d w)->oO a b w c:=iw.mono
def pV (a:g_) (b:Int) (w:World) (K:Int->b_):Prop:=
 iw Tryz.prog 131 [.pointer a,.int .i64 b] [.one (.int .i64)] w K
theorem LU {a b w K c}:pV a b w K->(∀d w,K d w->c d w)->pV a b w c:=iw.mono
def qX (a:g_) (b c d:Int) (w:World) (K:Int->b_):Prop:=
 iw Tryz.prog 132 [.pointer a,(.agg ⟨[.int .i64 b,.int .i64 c,.int .i64 d]⟩)] [.one (.int .i64)] w K
theorem NR {a b c d w K e}:qX a b c d w K->(∀f w,K f w->e f w)->qX a b c d w e:=iw.mono
def vS (a:g_) (b c d e f g h:Int) (i:Bool) (w:World) (K:Int->Int->b_):Prop:=
 iw Tryz.prog 133 [.pointer a,(.agg ⟨[.int .i64 b,.int .i64 c,.int .i64 d,.int .i64 e,.int .i64 f,.int .i64 g,.int .i64 h,.bool i]⟩)] [.one (.int .i64),.one (.int .i64)] w K
theorem Td {a b c d e f g h i w K j}:vS a b c d e f g h i w K->(∀k l w,K k l w->j k l w)->vS a b c d e f g h i w j:=iw.mono
def Hu (b:iq) (c:Int) (w:World) (K:h_ (h_ (h_ (h_ (Int->Int->b_))))):Prop:=
 iw Tryz.prog 134 [.slice b.a b.len b.cap,.int .u8 c] [.agg RH,.one (.int .i64)] w K
def oP (a:g_) (b c d e:Int) (w:World) (K:Int->b_):Prop:=
 iw Tryz.prog 135 [.pointer a,(.agg ⟨[.int .i64 b,.int .i64 c,.int .i64 d,.int .i64 e]⟩)] [.one (.int .i64)] w K
theorem Jv {a b c d e w K f}:oP a b c d e w K->(∀g w,K g w->f g w)->oP a b c d e w f:=iw.mono
def zH (a:Int) (w:World) (K:Int->b_):Prop:=
 iw Tryz.prog 136 [.int .i64 a] [.one (.int .i64)] w K
theorem Nj {a w K b}:zH a w K->(∀c w,K c w->b c w)->zH a w b:=iw.mono
def pY (a:g_) (b c d e f g h i:Int) (w:World) (K:b_):Prop:=
 iw Tryz.prog 137 [.pointer a,(.agg ⟨[.int .i64 b,.int .i64 c,.int .i64 d,.int .i64 e,.int .i64 f,.int .i64 g,.int .i64 h,.int .i64 i]⟩)] [] w K
theorem LW {a b c d e f g h i w K j}:pY a b c d e f g h i w K->(∀w,K w->j w)->pY a b c d e f g h i w j:=iw.mono
def xZ (a b c d e f g h i j k l m n o p q r s t u v x y z A B C D E F G H:Int) (w:World) (K:Int->b_):Prop:=
 iw Tryz.prog 138 [.agg ⟨iU a b c d e f g h i j k l m n o p q r s t u v x y z A B C D E F G H⟩] [.one (.int .i64)] w K
theorem UE {a b c d e f g h i j k l m n o p q r s t u v x y z A B C D E F G H w K I}:xZ a b c d e f g h i j k l m n o p q r s t u v x y z A B C D E F G H w K->(∀J w,K J w->I J w)->xZ a b c d e f g h i j k l m n o p q r s t u v x y z A B C D E F G H w I:=iw.mono
def lD (a b:Int) (w:World) (K:Bool->b_):Prop:=
 iw Tryz.prog 139 [.int .i64 a,.int .i64 b] [.one .bool] w K
theorem oZ {a b w K c}:lD a b w K->(∀d w,K d w->c d w)->lD a b w c:=iw.mono
def tq (b:iq) (c d:Int) (w:World) (K:iq->b_):Prop:=
 iw Tryz.prog 140 [.slice b.a b.len b.cap,.int .i64 c,.int .i64 d] [.one .slice] w K
theorem Dn {a b c w K d}:tq a b c w K->(∀e w,K e w->d e w)->tq a b c w d:=iw.mono
def zG (b:iq) (c d e f g h i j k l m n o p q r s t u v x y z A B C D E F G H I J:Int) (w:World) (K:iq->b_):Prop:=
 iw Tryz.prog 141 [.slice b.a b.len b.cap,.agg ⟨iU c d e f g h i j k l m n o p q r s t u v x y z A B C D E F G H I J⟩] [.one .slice] w K
theorem Wu {a b c d e f g h i j k l m n o p q r s t u v x y z A B C D E F G H I w K J}:zG a b c d e f g h i j k l m n o p q r s t u v x y z A B C D E F G H I w K->(∀L w,K L w->J L w)->zG a b c d e f g h i j k l m n o p q r s t u v x y z A B C D E F G H I w J:=iw.mono
def nU (a:g_) (b c d e:Int) (w:World) (K:Int->b_):Prop:=
 iw Tryz.prog 142 [.pointer a,(.agg ⟨[.int .i64 b,.int .i64 c,.int .i64 d,.int .i64 e]⟩)] [.one (.int .i64)] w K
theorem IG {a b c d e w K f}:nU a b c d e w K->(∀g w,K g w->f g w)->nU a b c d e w f:=iw.mono
def r_ (a:g_) (b:Int) (w:World) (K:Int->Int->Int->Int->Int->Int->Int->Bool->Bool->b_):Prop:=
 iw Tryz.prog 153 [.pointer a,.int .i64 b] [.agg [(.int .i64),(.int .i64),(.int .i64),(.int .i64),(.int .i64),(.int .i64),(.int .i64),.bool],.one .bool] w K
theorem Ir {a b w K c}:r_ a b w K->(∀d e f g h i j k l w,K d e f g h i j k l w->c d e f g h i j k l w)->r_ a b w c:=iw.mono
def qV (a:g_) (b c d:Int) (w:World) (K:Bool->b_):Prop:=
 iw Tryz.prog 154 [.pointer a,(.agg ⟨[.int .i64 b,.int .i64 c,.int .i64 d]⟩)] [.one .bool] w K
theorem NQ {a b c d w K e}:qV a b c d w K->(∀f w,K f w->e f w)->qV a b c d w e:=iw.mono
def pU (a:g_) (b:Int) (w:World) (K:Int->b_):Prop:=
 iw Tryz.prog 155 [.pointer a,.int .i64 b] [.one (.int .i64)] w K
theorem LQ {a b w K c}:pU a b w K->(∀d w,K d w->c d w)->pU a b w c:=iw.mono
def qY (a:g_) (b:Int) (w:World) (K:Bool->b_):Prop:=
 iw Tryz.prog 156 [.pointer a,.int .i64 b] [.one .bool] w K
theorem NS {a b w K c}:qY a b w K->(∀d w,K d w->c d w)->qY a b w c:=iw.mono
abbrev Ep:FuncId:=157
def NG (a:Value) (b c:Addr) (w:World) (K:b_):Prop:=
 iw Tryz.prog 157 [a,(.pointer (some b)),(.pointer (some c))] [] w K
def o_ (a:g_) (b:Int) (w:World) (K:Bool->b_):Prop:=
 iw Tryz.prog 232 [.pointer a,.int .i64 b] [.one .bool] w K
theorem E5 {a b w K c}:o_ a b w K->(∀d w,K d w->c d w)->o_ a b w c:=iw.mono
def xR (a:Int) (w:World) (K:Bool->b_):Prop:=
 iw Tryz.prog 233 [.int .i64 a] [.one .bool] w K
theorem UA {a w K b}:xR a w K->(∀c w,K c w->b c w)->xR a w b:=iw.mono
def pR (a:g_) (b c d:Int) (w:World) (K:Bool->b_):Prop:=
 iw Tryz.prog 234 [.pointer a,(.agg ⟨[.int .i64 b,.int .i64 c,.int .i64 d]⟩)] [.one .bool] w K
theorem LP {a b c d w K e}:pR a b c d w K->(∀f w,K f w->e f w)->pR a b c d w e:=iw.mono
def FC (a b c d e f g h i j k l m n o p:Int) (w:World) (K:Int->Bool->b_):Prop:=
 iw Tryz.prog 235 [.agg ⟨jH a b c d e f g h i j k l m n o p⟩] [.one (.int .i64),.one .bool] w K
def vU (b:iq) (c d:Int) (w:World) (K:Int->b_):Prop:=
 iw Tryz.prog 236 [.slice b.a b.len b.cap,.int .i64 c,.int .i64 d] [.one (.int .i64)] w K
theorem H6 {a b c w K d}:vU a b c w K->(∀e w,K e w->d e w)->vU a b c w d:=iw.mono
def zI (a b c d e f g h:Int) (w:World) (K:Bool->b_):Prop:=
 iw Tryz.prog 237 [(.agg ⟨[.int .i64 a,.int .i64 b,.int .i64 c,.int .i64 d]⟩),(.agg ⟨[.int .i64 e,.int .i64 f,.int .i64 g,.int .i64 h]⟩)] [.one .bool] w K
theorem Wv {a b c d e f g h w K i}:zI a b c d e f g h w K->(∀j w,K j w->i j w)->zI a b c d e f g h w i:=iw.mono
def yX (a:Int) (w:World) (K:Int->b_):Prop:=
 iw Tryz.prog 238 [.int .i64 a] [.one (.int .i64)] w K
theorem Pm {a w K b}:yX a w K->(∀c w,K c w->b c w)->yX a w b:=iw.mono
def BO (b:iq) (c d:Int) (w:World) (K:Int->Int->b_):Prop:=
 iw Tryz.prog 265 [.slice b.a b.len b.cap,.int .i64 c,.int .i64 d] [.one (.int .i64),.one (.int .i64)] w K
theorem Yj {a b c w K d}:BO a b c w K->(∀e f w,K e f w->d e f w)->BO a b c w d:=iw.mono
theorem Oo {N O P Q R T U V W X Y Z aa ab ac ad ae af ag ah ai aj ak al am an ao ap aq ar au av aw ax ay az B t w K}:iH (EU N O P Q R T U V W X Y Z aa ab ac ad ae af ag ah ai aj ak al am an ao ap aq ar au av aw ax ay az B t w K)
 (Al w (.cells ⟨(jV N O P Q R T U V W X Y Z aa ab ac ad ae af ag ah ai aj ak al am an ao ap aq ar au av aw ax ay az)⟩ 33) λC w4=>Al w4 (.cells ⟨[.bool false]⟩ 4) λf w6=>mD w6 λr8 D=>(cond (!r8) (St D f (.bool false) λaA=>Ld .bool aA f λa4=>K a4 aA) (let aB:Bool->b_:=λa6 E=>((cond a6 (mD E λa8 a9=>St a9 f (.bool a8) λaC=>Ld .bool aC f λba=>K ba aC) (vH E C λbb bc bd be bf bg bh bi bj bk bl bm bn bo bp bq br bs bt bu bv bw bx bz bA bB bC bD bE bF bG bH bI bJ bK bL=>D9 bb bc bd be bf bg bh bi bj bk bl bm bn bo bp bq br bs bt bu bv bw bx bz bA bB bC bD bE bF bG bH bI bJ bK bL E λu bM aD=>vH aD C λbN bO bP bQ bR bS bT bU bV bW bX bY bZ b0 b1 b2 b3 b4 b5 b6 b7 b8 b9 ca cb cc cd ce cf cg ch ci cj ck cl cm=>Jf bN bO bP bQ bR bS bT bU bV bW bX bY bZ b0 b1 b2 b3 b4 b5 b6 b7 b8 b9 ca cb cc cd ce cf cg ch ci cj ck cl cm aD λv cn co=>vO u B co λl cp cq=>yY v B cq λcr cs ct=>Al ct (.cells ⟨[.pointer none]⟩ 68) λg cu=>St cu g (.pointer cr) λF=>let G:Bool->Prop:=λcv=>((cond cv (St F f (.bool false) λaE=>Ld .bool aE f λcw=>K cw aE) (let aF:List Nat->b_:=λcx cy=>(mD cy λcz cA=>St cA f (.bool cz) λcB=>yH cx cB λaG=>Ld .bool aG f λcC=>K cC aG)
 iT (S:=(Int×Unit)×List Nat) (λi j cD=>(cond (decide (i.1.1<(t.len:Int))) (iO t 5 i.1.1 λm=>f_ j (m.add 0) λcE=>f_ j (m.add 1) λcF=>f_ j (m.add 2) λcG=>f_ j (m.add 3) λcH=>Ld .slice j (m.add 4) λH=>Al j (.cells ⟨[.int .i64 0,.int .i64 0,.int .i64 0,.int .i64 0,.slice none 0 0]⟩ 60) λd cI=>lM [.int .i64 cE,.int .i64 cF,.int .i64 cG,.int .i64 cH,.slice H.a H.len H.cap] cI d 0 λe=>let aH:Bool->Prop:=λcJ=>((cond cJ (aF i.2 e) (let n:Bool->b_:=λcK x=>(let I:Bool->b_:=λcL aI=>((cond cL (St aI f (.bool false) λcM=>yH i.2 cM λaJ=>Ld .bool aJ f λcN=>K cN aJ) (Al aI (.cells ⟨[.int .i64 0]⟩ 3) λk cO=>St cO k (.int .i64 0) λcP=>qR l cP λcQ y=>F7 Tryz.prog none [.agg [(.int .i64),(.int .i64),(.int .i64),(.int .i64)],.one (.int .i64)] cQ y (λb o aK aL=>Al aK (.cells ⟨[.int .i64 0,.int .i64 0,.int .i64 0,.int .i64 0]⟩ 78) λp cR=>lM [.int .i64 o.1.1,.int .i64 o.1.2.1,.int .i64 o.1.2.2.1,.int .i64 o.1.2.2.2.1] cR p 0 λc=>c.heap[b]? =aK.heap[b]? /\
 let J:Bool->b_:=λcS L=>((cond cS (St L f (.bool false) λcT=>aL .ret cT) (f_ L k λcU=>St L k (.int .i64 (IntKind.i64.wrap (cU+1))) λcV=>aL .normal cV)))
 f_ (iD c b).drew k λcW=>Ld .ptr (iD c b).drew g λcX=>Pt cX λcY=>Ld .slice (iD c b).drew (cY.add 1) λcZ=>(cond (decide (cW>=(cZ.len:Int))) (J true (iD c b).drew) (Ld .ptr (iD c b).drew g λc0=>Pt c0 λc1=>Ld .slice (iD c b).drew (c1.add 1) λc2=>f_ (iD c b).drew k λc3=>iO c2 8 c3 λz=>f_ (iD c b).drew (z.add 0) λc4=>f_ (iD c b).drew (z.add 1) λc5=>f_ (iD c b).drew (z.add 2) λc6=>f_ (iD c b).drew (z.add 3) λc7=>f_ (iD c b).drew (p.add 0) λc8=>f_ (iD c b).drew (p.add 1) λc9=>f_ (iD c b).drew (p.add 2) λda=>f_ (iD c b).drew (p.add 3) λdb=>(cond (!((c4==c8) && ((c5==c9) && ((c6==da) && ((c7==db) && true))))) (J true (iD c b).drew) (Ld .ptr (iD c b).drew g λdc=>Pt dc λdd=>Ld .slice (iD c b).drew (dd.add 1) λde=>f_ (iD c b).drew k λdf=>iO de 8 df λdg=>f_ (iD c b).drew (dg.add 7) λdh=>J (dh !=o.2.1) (iD c b).drew)))))
 (λq=>f_ q.drew k λdi=>Ld .ptr q.drew g λdj=>Pt dj λdk=>Ld .slice q.drew (dk.add 1) λdl=>(cond (di !=(dl.len:Int)) (St q.drew f (.bool false) λdm=>yH (y.heap.size::i.2) dm λaM=>Ld .bool aM f λdn=>K dn aM) (cD (((IntKind.i64.wrap (i.1.1+1)),()),(y.heap.size::i.2)) q.drew)))
 (λdp=>yH (y.heap.size::i.2) dp λaN=>Ld .bool aN f λdq=>K dq aN)
 [])))
 (cond (!cK) (I true x.drew) (Ld .ptr x.drew g λaO=>Pt aO λaP=>f_ x.drew (aP.add 2) λaQ=>oz l x.drew λdr A=>A.cell? (aP.add 2)=some (Value.int .i64 aQ)/\
 A.cell? g=some (Value.pointer aO)/\
 (cond (dr !=aQ) (I true A) (lH u A λds dt du dv dw dx dy dz=>rJ v dz λdA dB dC dD dE dF dG dH=>wH ds dt du dv dw dx dy dA dB dC dD dE dF dG dH λdI dJ=>I (!dI) dJ)))))
 f_ e d λh=>let r:Bool->Prop:=λdK=>((cond dK (f_ e (d.add 1) λdL=>f_ e (d.add 2) λdM=>Ld .slice e (d.add 4) λdN=>ni l dL dM dN e λdO dP s=>Ld .ptr s g λdQ=>f_ s (d.add 1) λdR=>f_ s (d.add 2) λdS=>Ld .slice s (d.add 4) λdT=>qZ dQ dR dS dT s λdU dV dW=>uK dO dU dW λdX aR=>(cond dX (n (dP==dV) aR) (n false aR))) (cond (h==5) (f_ e.drew (d.add 3) λdY=>Ld .ptr e.drew g λaS=>f_ e.drew (d.add 3) λaT=>jO l dY e.drew λdZ M=>M.cell? (d.add 3)=some (Value.int .i64 aT)/\
 M.cell? g=some (Value.pointer aS)/\
 kR aS aT M λd0 d1=>n (dZ==d0) d1) (cond (h==6) (f_ e.drew (d.add 3) λd2=>f_ e.drew (d.add 3) λaU=>kX u d2 e.drew λd3 aV=>aV.cell? (d.add 3)=some (Value.int .i64 aU)/\
 kQ v aU aV λd4 d5=>n (d3==d4) d5) (f_ e.drew (d.add 1) λd6=>f_ e.drew (d.add 1) λaW=>m_ u d6 e.drew λd7 aX=>aX.cell? (d.add 1)=some (Value.int .i64 aW)/\
 lN v aW aX λd8 d9=>n (d7==d8) d9)))))
 (cond (h==0) (r (h==0)) (cond (h==1) (r (h==1)) (cond (h==2) (r (h==2)) (cond (h==3) (r (h==3)) (r (h==4)))))))))
 Ld .ptr e g λea=>(cond (Option.isNone ea) (aH true) (Ld .slice e (d.add 4) λeb=>aH (decide ((eb.len:Int)>100))))) (aF i.2 j))) ((0,()),[]) F)))
 (cond (bM !=cn) (G true) (cond (cp !=cs) (G true) (Ld .ptr F g λec=>G (!(((Option.isNone l):Bool)==(Option.isNone ec)))))))))
 vH D C λed ee ef eg eh ei ej ek el em en eo ep eq er es et eu ev ew ex ey ez eA eB eC eD eE eF eG eH eI eJ eK eL eM=>Fz ed ee ef eg eh ei ej ek el em en eo ep eq er es et eu ev ew ex ey ez eA eB eC eD eE eF eG eH eI eJ eK eL eM D λeN aY=>(cond (!eN) (aB true aY) (aB (decide ((t.len:Int)>40)) aY))))):=okF ji Tryz.func5 (ig (ig (ig (ig (ig (ig (ig (ig (.seq (ig (.blk (.loop [(75,(.int .i64))] (ig (ig (.seq (.blk (ig (ig (ig (ig (ig (ig (.seq (ig (.blk (.rng [.agg [(.int .i64),(.int .i64),(.int .i64),(.int .i64)],.one (.int .i64)] .leaf .leaf))) .leaf)))))))) .leaf)))))) .leaf))))))))) (by kernel_rfl)
theorem Y6 {i j k l m n o p q r s t u v x y z A B C D E F G H I J L M N O P Q R T U w K}:iH (Jf i j k l m n o p q r s t u v x y z A B C D E F G H I J L M N O P Q R T U w K)
 (Al w (.cells ⟨(jV i j k l m n o p q r s t u v x y z A B C D E F G H I J L M N O P Q R T U)⟩ 33) λa V=>vH V a λZ x5 x6 x7 x8 x9 af ag ah ai aj ak al am an ao ap aq ar au av aw ax ay az aA aB aC aD aE aF aG aH aI aJ aK=>uN Z x5 x6 x7 x8 x9 af ag ah ai aj ak al am an ao ap aq ar au av aw ax ay az aA aB aC aD aE aF aG aH aI aJ aK V λW f=>(cond (W !=0) (K none W f) (vH f a λaL aM aN aO aP aQ aR aS aT aU aV aW aX aY aZ a0 a1 a2 a4 a5 a6 a7 a8 a9 ba bb bc bd be bf bg bh bi bj bk bl=>Al f (.cells ⟨(ajf aL aM aN aO aP aQ aR aS aT aU aV aW aX aY aZ a0 a1 a2 a4 a5 a6 a7 a8 a9 ba bb bc bd be bf bg bh bi bj bk bl 0 none none none none)⟩ 150) λd e=>Ld .slice e (a.add 17) λbm=>f_ e (a.add 18) λbn=>f_ e (a.add 19) λbo=>BP bm bn bo e λbp bS bq=>Pt (some d) λbr=>St bq (br.add 37) (.pointer bp) λg=>Ld .slice g (a.add 16) λbs=>f_ g (a.add 20) λbt=>BQ (bs.len:Int) bt g λbu bT bv=>Pt (some d) λbw=>St bv (bw.add 38) (.pointer bu) λX=>f_ X (a.add 21) λbx=>BR bx X λbz bU bA=>Pt (some d) λbB=>St bA (bB.add 39) (.pointer bz) λY=>f_ Y (a.add 22) λbC=>BU bC Y λbD bV bE=>Pt (some d) λbF=>St bE (bF.add 40) (.pointer bD) λbG=>iT (S:=Int×Unit) (λh b bH=>Ld .slice b (a.add 35) λbI=>(cond (decide (h.1<(bI.len:Int))) (Ld .slice b (a.add 35) λbJ=>iO bJ 7 h.1 λc=>f_ b (c.add 0) λbK=>f_ b (c.add 1) λbL=>f_ b (c.add 2) λbM=>f_ b (c.add 3) λbN=>f_ b (c.add 4) λbO=>f_ b (c.add 5) λbP=>f_ b (c.add 6) λbQ=>nN (some d) bK bL bM bN bO bP bQ b λbW bR=>bH ((IntKind.i64.wrap (h.1+1)),()) bR) (K (some d) 0 b))) (0,()) bG))):=okF ji Tryz.func17 (ig (ig (ig (ig (ig (ig (ig (.seq (ig (.blk (.loop [(6,(.int .i64))] .leaf))) .leaf)))))))) (by kernel_rfl)
theorem Qk {a b w K}:iH (yY a b w K)
 (let c:Bool->Prop:=λd=>((cond d (K none 1 w) (Pt a λe=>f_ w (e.add 36) λf=>Al w (.cells ⟨[.pointer a,.slice none 0 0,.int .i64 f,.int .i64 b]⟩ 75) λg h=>K (some g) 0 h)))
 (cond (Option.isNone a) (c true) (cond (decide (b<1)) (c true) (c (decide (b>4096)))))):=okF ji Tryz.func18 .leaf (by kernel_rfl)
theorem IU {c g d h w K}:iH (qZ c g d h w K)
 (FB h w λE F G H I J L M N O P Q R S T U V W X Y Z aa ab ac ad ae af ag ah ai aj ak al i am=>Al am (.cells ⟨(iU 0 0 0 0 0 0 0 0 0 0 0 0 0 0 0 0 0 0 0 0 0 0 0 0 0 0 0 0 0 0 0 0 0)⟩ 159) λa an=>lM (iU E F G H I J L M N O P Q R S T U V W X Y Z aa ab ac ad ae af ag ah ai aj ak al) an a 0 λe=>(cond (i !=0) (K ⟨none,0,0⟩ i e) (let j:Int->b_:=λk l=>(let m:b_:=λf=>(Pt c λao=>f_ f.drew (ao.add 2) λap=>(4294967296:Int)≠0/\
 jD f.drew a λaq ar au av aw ax ay az aA aB aC aD aE aF aG aH aI aJ aK aL aM aN aO aP aQ aR aS aT aU aV aW aX aY=>sD k (Int.tmod ap 4294967296) aq ar au av aw ax ay az aA aB aC aD aE aF aG aH aI aJ aK aL aM aN aO aP aQ aR aS aT aU aV aW aX aY f.drew λaZ a4 a5=>K aZ a4 a5)
 (cond (decide (k>0)) (St l a (.int .i64 30) λa6=>m a6) (m l)))
 oV e.drew (a.add 1) λn o p q r s t u v x y z A B C D=>sF d e.drew λa7 a8 a9 ba bb bc bd be bf bg bh bi bj bk bl bm b=>CkN (jH n o p q r s t u v x y z A B C D) b (a.add 1) 0 (
 (cond ((n==a7) && ((o==a8) && ((p==a9) && ((q==ba) && ((r==bb) && ((s==bc) && ((t==bd) && ((u==be) && ((v==bf) && ((x==bg) && ((y==bh) && ((z==bi) && ((A==bj) && ((B==bk) && ((C==bl) && ((D==bm) && true)))))))))))))))) (f_ b (a.add 29) λbn=>f_ b (a.add 30) λbo=>jD b a λbp bq br bs bt bu bv bw bx bz bA bB bC bD bE bF bG bH bI bJ bK bL bM bN bO bP bQ bR bS bT bU bV bW=>yM c g bn d bo bp bq br bs bt bu bv bw bx bz bA bB bC bD bE bF bG bH bI bJ bK bL bM bN bO bP bQ bR bS bT bU bV bW b λbX bY bZ b0 b1 b2 b3 b4 b5 b6 b7 b8 b9 ca cb cc cd ce cf cg ch ci cj ck cl cm cn co cp cq cr cs ct cu cv=>lM (iU bY bZ b0 b1 b2 b3 b4 b5 b6 b7 b8 b9 ca cb cc cd ce cf cg ch ci cj ck cl cm cn co cp cq cr cs ct cu) cv a 0 λcw=>j bX cw) (j 12 b)))))):=okF ji Tryz.func19 .leaf (by kernel_rfl)
theorem Vj {a b w K}:iH (uK a b w K)
 (FZ w a λc=>FZ w b λd=>K (strEq c d) w):=okF ji Tryz.func20 .leaf (by kernel_rfl)
theorem GL {a d w K}:iH (kR a d w K)
 (Pt a λh=>f_ w (h.add 2) λe=>Pt a λi=>St w (i.add 2) (.int .i64 (if (if (1099511627776:Int)<d then 1099511627776 else d)>e then (if (1099511627776:Int)<d then 1099511627776 else d) else e)) λf=>Pt a λj=>Ld .slice f (j.add 1) λk=>iT (S:=Int×Int×Unit) (λb c l=>(cond (decide (b.2.1>=0)) (let g:Int->b_:=λm n=>(l (m,(IntKind.i64.wrap (b.2.1 - 1)),()) n)
 Pt a λo=>Ld .slice c.drew (o.add 1) λp=>iO p 8 b.2.1 λq=>f_ c.drew (q.add 7) λr=>Pt a λs=>f_ c.drew (s.add 2) λt=>(cond (decide (r<=t)) (ny a b.2.1 c.drew λu=>g (IntKind.i64.wrap (b.1+1)) u) (g b.1 c.drew))) (K b.1 c))) (0,(IntKind.i64.wrap ((k.len:Int) - 1)),()) f):=okF ji Tryz.func21 (ig (ig (ig (.seq (ig (.blk (.loop [(5,(.int .i64)),(6,(.int .i64))] .leaf))) .leaf)))) (by kernel_rfl)
theorem Ia {a c w K}:iH (kX a c w K)
 (jR a w λo e=>(cond (!o) (K 0 e) (Pt a λp=>f_ e (p.add 41) λi=>Pt a λq=>St e (q.add 41) (.int .i64 (if (if (1099511627776:Int)<c then 1099511627776 else c)>i then (if (1099511627776:Int)<c then 1099511627776 else c) else i)) λf=>Pt a λr=>Ld .ptr f.drew (r.add 4) λs=>Pt a λt=>f_ f.drew (t.add 41) λu=>kH s u f.drew λj v=>iT (S:=Int×Int×Unit) (λb d x=>(cond (decide (b.2.1<(j.len:Int))) (let k:Int->b_:=λy z=>(x (y,(IntKind.i64.wrap (b.2.1+1)),()) z)
 iO j 1 b.2.1 λA=>f_ d A λl=>Pt a λB=>Ld .ptr d (B.add 3) λC=>LC C l d λD E F G H R I=>Al I (.cells ⟨[.int .i64 0,.int .i64 0,.int .i64 0,.int .i64 0,.int .i64 0]⟩ 137) λg J=>lM [.int .i64 D,.int .i64 E,.int .i64 F,.int .i64 G,.int .i64 H] J g 0 λm=>Pt a λL=>Ld .ptr m (L.add 3) λM=>Hw M l m λT n=>f_ n g λN=>Jc a N n λO h=>(cond O (f_ h g λP=>kG a P h λQ=>k (IntKind.i64.wrap (b.1+1)) Q) (k b.1 h))) (K b.1 d))) (0,0,()) v))):=okF ji Tryz.func22 (ig (ig (ig (ig (.seq (ig (.blk (.loop [(5,(.int .i64)),(34,(.int .i64))] .leaf))) .leaf))))) (by kernel_rfl)
theorem GK {a e w K}:iH (kQ a e w K)
 (Pt a λo=>f_ w (o.add 36) λk=>Pt a λp=>St w (p.add 36) (.int .i64 (if (if (1099511627776:Int)<e then 1099511627776 else e)>k then (if (1099511627776:Int)<e then 1099511627776 else e) else k)) λh=>Pt a λq=>Ld .ptr h (q.add 40) λr=>Pt r λs=>Ld .slice h s λt=>j_ 175 6 48 [(Value.int .i64 0),(Value.int .i64 0),(Value.int .i64 0),(Value.int .i64 0),(Value.int .i64 0),(Value.int .i64 0)] ⟨none,0,0⟩ t h λi u=>iT (S:=Int×Unit) (λf b v=>(cond (decide (f.1<(i.len:Int))) (let l:b_:=λx=>(v ((IntKind.i64.wrap (f.1+1)),()) x)
 iO i 6 f.1 λy=>f_ b.drew ((y.add 1).add 2) λz=>Pt a λA=>f_ b.drew (A.add 36) λB=>(cond (decide (z<=B)) (Pt a λC=>Ld .ptr b.drew.drew (C.add 40) λD=>iO i 6 f.1 λE=>f_ b.drew.drew E λF=>vT D F b.drew.drew λad G=>l G) (l b.drew))) (Pt a λH=>Ld .ptr b (H.add 39) λI=>Pt I λJ=>Ld .slice b J λL=>j_ 180 9 72 (SI 0 0 0 0 0 0 0 0 false) ⟨none,0,0⟩ L b λg M=>iT (S:=Int×Int×Unit) (λc d N=>(cond (decide (c.2.1<(g.len:Int))) (let m:Int->b_:=λO P=>(N (O,(IntKind.i64.wrap (c.2.1+1)),()) P)
 let n:Bool->b_:=λQ j=>((cond Q (iO g 9 c.2.1 λR=>f_ j R λT=>kV a T j λU=>m (IntKind.i64.wrap (c.1+1)) U) (m c.1 j)))
 iO g 9 c.2.1 λV=>Ld .bool d.drew ((V.add 1).add 7) λW=>(cond (!W) (Pt a λX=>Ld .ptr d.drew (X.add 40) λY=>iO g 9 c.2.1 λZ=>f_ d.drew Z λaa=>nM Y aa d.drew λab ac=>n ((ab.len:Int)==0) ac) (n false d.drew))) (K c.1 d))) (0,0,()) M))) (0,()) u):=okF ji Tryz.func23 (ig (ig (ig (.seq (ig (.blk (.loop [(6,(.int .i64))] .leaf))) (ig (ig (.seq (ig (.blk (.loop [(7,(.int .i64)),(9,(.int .i64))] .leaf))) .leaf))))))) (by kernel_rfl)
theorem JX {g i w K}:iH (m_ g i w K)
 (jr (Value.pointer g)=true/\
 Al w (.cells ⟨[.pointer g]⟩ 23) λe j=>Ld .ptr j e λr=>jR r j λs k=>(cond (!s) (K 0 k) (Al k (.cells ⟨[.int .i64 0]⟩ 3) λf t=>St t f (.int .i64 0) λl=>Ld .ptr l e λu=>rV u i l λv d=>F7 Tryz.prog none [.one (.int .i64),.agg [(.int .i64),(.int .i64),(.int .i64),(.int .i64),(.int .i64),(.int .i64),(.int .i64),.bool]] v d (λb a m n=>Al m (.cells ⟨[.int .i64 0,.int .i64 0,.int .i64 0,.int .i64 0,.int .i64 0,.int .i64 0,.int .i64 0,.bool false]⟩ 130) λo x=>lM [.int .i64 a.2.1.1,.int .i64 a.2.1.2.1,.int .i64 a.2.1.2.2.1,.int .i64 a.2.1.2.2.2.1,.int .i64 a.2.1.2.2.2.2.1,.int .i64 a.2.1.2.2.2.2.2.1,.int .i64 a.2.1.2.2.2.2.2.2.1,.bool a.2.1.2.2.2.2.2.2.2.1] x o 0 λc=>c.heap[b]? =m.heap[b]? /\
 Ld .bool (iD c b) (o.add 7) λy=>(cond y (Ld .ptr (iD c b) e λz=>ng z a.1 (iD c b) λA=>n .normal A) (Ld .ptr (iD c b) e λB=>kG B a.1 (iD c b) λp=>f_ p f λC=>St p f (.int .i64 (IntKind.i64.wrap (C+1))) λD=>n .normal D)))
 (λh=>f_ h f λE=>h.heap[d.heap.size]? =some (.deferred (some []))/\
 K E (h.putObj d.heap.size (.deferred none)))
 (λq=>q.heap[d.heap.size]? =some (.deferred (some []))/\
 K 0 (q.putObj d.heap.size (.deferred none)))
 [(1,(λF=>False))]))):=okF ji Tryz.func24 (ig (ig (ig (ig (.seq (ig (.blk (.rng [.one (.int .i64),.agg [(.int .i64),(.int .i64),(.int .i64),(.int .i64),(.int .i64),(.int .i64),(.int .i64),.bool]] .leaf .leaf))) .leaf))))) (by kernel_rfl)
theorem IL {c h w K}:iH (lN c h w K)
 (Pt c λj=>Ld .ptr w (j.add 39) λk=>Pt k λl=>Ld .slice w l λm=>j_ 180 9 72 (SI 0 0 0 0 0 0 0 0 false) ⟨none,0,0⟩ m w λd n=>iT (S:=Int×Int×Unit) (λa b o=>(cond (decide (a.2.1<(d.len:Int))) (let f:Int->b_:=λp q=>(o (p,(IntKind.i64.wrap (a.2.1+1)),()) q)
 iO d 9 a.2.1 λr=>f_ b (r.add 1) λs=>(cond (s !=h) (f a.1 b) (iO d 9 a.2.1 λt=>Ld .bool b ((t.add 1).add 7) λu=>(cond (!u) (iO d 9 a.2.1 λv=>f_ b v λx=>kV c x b λy=>f (IntKind.i64.wrap (a.1+1)) y) (Pt c λz=>Ld .ptr b.drew (z.add 40) λA=>iO d 9 a.2.1 λB=>f_ b.drew B λC=>nM A C b.drew λi D=>iT (S:=Int×Unit) (λg e E=>(cond (decide (g.1<(i.len:Int))) (Pt c λF=>Ld .ptr e.drew (F.add 40) λG=>iO i 6 g.1 λH=>f_ e.drew H λI=>vT G I e.drew λL J=>E ((IntKind.i64.wrap (g.1+1)),()) J) (f a.1 e))) (0,()) D))))) (K a.1 b))) (0,0,()) n):=okF ji Tryz.func25 (ig (ig (ig (.seq (ig (.blk (.loop [(5,(.int .i64)),(7,(.int .i64))] (ig (.seq (.blk (ig (ig (ig (ig (.blk (.loop [(9,(.int .i64))] .leaf))))))) .leaf))))) .leaf)))) (by kernel_rfl)
theorem Ox {a w K}:iH (oz a w K)
 (kD a w λc b=>(cond (!c) (K 0 b) (Pt a λd=>f_ b (d.add 4) λe=>K e b))):=okF ji Tryz.func26 .leaf (by kernel_rfl)
theorem WZ {t l m u v x n y o p z A B q w K}:iH (wH t l m u v x n y o p z A B q w K)
 (Al w (.cells ⟨[.int .i64 t,.slice l.a l.len l.cap,.slice m.a m.len m.cap,.int .i64 u,.int .i64 v,.int .i64 x,.slice n.a n.len n.cap]⟩ 47) λd D=>Al D (.cells ⟨[.int .i64 y,.slice o.a o.len o.cap,.slice p.a p.len p.cap,.int .i64 z,.int .i64 A,.int .i64 B,.slice q.a q.len q.cap]⟩ 47) λe h=>let C:Bool->Prop:=λE=>((cond E (K false h) (iT (S:=Int×Unit) (λr c F=>Ld .slice c (d.add 1) λG=>(cond (decide (r.1<(G.len:Int))) (Ld .slice c.drew (d.add 1) λH=>iO H 8 r.1 λf=>f_ c.drew (f.add 0) λI=>f_ c.drew (f.add 1) λJ=>f_ c.drew (f.add 2) λL=>f_ c.drew (f.add 3) λM=>f_ c.drew (f.add 4) λN=>f_ c.drew (f.add 5) λO=>f_ c.drew (f.add 6) λP=>Ld .bool c.drew (f.add 7) λQ=>Ld .slice c.drew (e.add 1) λR=>iO R 8 r.1 λg=>f_ c.drew (g.add 0) λT=>f_ c.drew (g.add 1) λU=>f_ c.drew (g.add 2) λV=>f_ c.drew (g.add 3) λW=>f_ c.drew (g.add 4) λX=>f_ c.drew (g.add 5) λY=>f_ c.drew (g.add 6) λZ=>Ld .bool c.drew (g.add 7) λaa=>(cond (!(((I==T) && ((J==U) && ((L==V) && ((M==W) && true)))) && (((N==X) && ((O==Y) && ((P==Z) && true))) && (((Q:Bool)==aa) && true)))) (K false c.drew) (F ((IntKind.i64.wrap (r.1+1)),()) c.drew))) (iT (S:=Int×Unit) (λs b ab=>Ld .slice b (d.add 2) λac=>(cond (decide (s.1<(ac.len:Int))) (Ld .slice b.drew (d.add 2) λad=>iO ad 5 s.1 λi=>f_ b.drew (i.add 0) λae=>f_ b.drew (i.add 1) λaf=>f_ b.drew (i.add 2) λag=>f_ b.drew (i.add 3) λah=>f_ b.drew (i.add 4) λai=>Ld .slice b.drew (e.add 2) λaj=>iO aj 5 s.1 λj=>f_ b.drew (j.add 0) λak=>f_ b.drew (j.add 1) λal=>f_ b.drew (j.add 2) λam=>f_ b.drew (j.add 3) λan=>f_ b.drew (j.add 4) λao=>(cond (!((ae==ak) && ((af==al) && ((ag==am) && (((ah==an) && ((ai==ao) && true)) && true))))) (K false b.drew) (ab ((IntKind.i64.wrap (s.1+1)),()) b.drew))) (let k:Bool->b_:=λap aq=>(K ap aq)
 f_ b d λar=>f_ b e λau=>(cond (ar==au) (f_ b (d.add 3) λav=>f_ b (e.add 3) λaw=>(cond (av==aw) (f_ b (d.add 4) λax=>f_ b (e.add 4) λay=>(cond (ax==ay) (f_ b (d.add 5) λaz=>f_ b (e.add 5) λaA=>(cond (az==aA) (Ld .slice b (d.add 6) λaB=>Ld .slice b (e.add 6) λaC=>zF aB aC b λaD aE=>k aD aE) (k false b))) (k false b))) (k false b))) (k false b))))) (0,()) c))) (0,()) h)))
 Ld .slice h (d.add 1) λaF=>Ld .slice h (e.add 1) λaG=>(cond ((aF.len:Int) !=(aG.len:Int)) (C true) (Ld .slice h (d.add 2) λaH=>Ld .slice h (e.add 2) λaI=>C ((aH.len:Int) !=(aI.len:Int))))):=okF ji Tryz.func27 (ig (ig (.seq (ig (.blk (.loop [(5,(.int .i64))] .leaf))) (.seq (ig (.blk (.loop [(6,(.int .i64))] .leaf))) .leaf)))) (by kernel_rfl)
theorem Kw {e w K}:iH (rJ e w K)
 (Al w (.cells ⟨[.int .i64 0,.slice none 0 0,.slice none 0 0,.int .i64 0,.int .i64 0,.int .i64 0,.slice none 0 0]⟩ 47) λf l=>Pt e λy=>f_ l.drew (y.add 36) λz=>Pt e λA=>Ld .ptr l.drew (A.add 40) λB=>Pt B λC=>Ld .slice l.drew C λm=>Al l.drew (.cells ⟨[.int .i64 0,.slice none 0 0,.slice none 0 0,.int .i64 0,.int .i64 0,.int .i64 0,.slice none 0 0]⟩ 47) λd n=>n.cell? C=some (Value.slice m.a m.len m.cap)/\
 n.cell? (A.add 40)=some (Value.pointer B)/\
 n.cell? (y.add 36)=some (Value.int .i64 z)/\
 lM [.int .i64 z,.slice none 0 0,.slice none 0 0,.int .i64 0,.int .i64 0,.int .i64 (m.len:Int),.slice none 0 0] n d 0 λE=>iT (S:=Int×Unit) (λp c F=>Pt e λG=>Ld .ptr c (G.add 39) λH=>Pt H λI=>Ld .slice c I λJ=>(cond (decide (p.1<(J.len:Int))) (Ld .slice c.drew (d.add 1) λo=>Pt e λL=>Ld .ptr c.drew (L.add 39) λM=>Pt M λN=>Ld .slice c.drew N λO=>iO O 9 p.1 λg=>f_ c.drew ((g.add 1).add 0) λP=>f_ c.drew ((g.add 1).add 1) λQ=>f_ c.drew ((g.add 1).add 2) λR=>f_ c.drew ((g.add 1).add 3) λT=>f_ c.drew ((g.add 1).add 4) λU=>f_ c.drew ((g.add 1).add 5) λV=>f_ c.drew ((g.add 1).add 6) λW=>Ld .bool c.drew ((g.add 1).add 7) λX=>Al c.drew (.cells ⟨[.int .i64 P,.int .i64 Q,.int .i64 R,.int .i64 T,.int .i64 U,.int .i64 V,.int .i64 W,.bool X]⟩ 130) λY D=>D.cell? (d.add 1)=some (Value.slice o.a o.len o.cap)/\
 j_ 130 8 64 [(Value.int .i64 0),(Value.int .i64 0),(Value.int .i64 0),(Value.int .i64 0),(Value.int .i64 0),(Value.int .i64 0),(Value.int .i64 0),(Value.bool false)] o ⟨(some Y),1,1⟩ D λq Z=>St Z (d.add 1) (.slice q.a q.len q.cap) λaa=>F ((IntKind.i64.wrap (p.1+1)),()) aa) (iT (S:=Int×Unit) (λr b ab=>Pt e λac=>Ld .ptr b (ac.add 40) λad=>Pt ad λae=>Ld .slice b ae λaf=>(cond (decide (r.1<(af.len:Int))) (Pt e λag=>Ld .ptr b (ag.add 40) λah=>Pt ah λai=>Ld .slice b ai λaj=>iO aj 6 r.1 λk=>f_ b ((k.add 1).add 0) λak=>f_ b ((k.add 1).add 1) λal=>f_ b ((k.add 1).add 2) λam=>f_ b ((k.add 1).add 3) λan=>f_ b ((k.add 1).add 4) λao=>Al b (.cells ⟨[.int .i64 0,.int .i64 0,.int .i64 0,.int .i64 0,.int .i64 0]⟩ 137) λh ap=>lM [.int .i64 ak,.int .i64 al,.int .i64 am,.int .i64 an,.int .i64 ao] ap h 0 λs=>Pt e λaq=>Ld .ptr s.drew (aq.add 39) λar=>f_ s.drew h λau=>QE ar au s.drew λav aw=>St aw h (.int .i64 av) λj=>Ld .slice j (d.add 2) λax=>f_ j (h.add 0) λay=>f_ j (h.add 1) λaz=>f_ j (h.add 2) λaA=>f_ j (h.add 3) λaB=>f_ j (h.add 4) λaC=>Al j (.cells ⟨[.int .i64 ay,.int .i64 az,.int .i64 aA,.int .i64 aB,.int .i64 aC]⟩ 137) λaD aE=>j_ 137 5 40 [(Value.int .i64 0),(Value.int .i64 0),(Value.int .i64 0),(Value.int .i64 0),(Value.int .i64 0)] ax ⟨(some aD),1,1⟩ aE λt aF=>St aF (d.add 2) (.slice t.a t.len t.cap) λaG=>ab ((IntKind.i64.wrap (r.1+1)),()) aG) (f_ b (d.add 0) λaH=>Ld .slice b (d.add 1) λu=>Ld .slice b (d.add 2) λv=>f_ b (d.add 3) λaI=>f_ b (d.add 4) λaJ=>f_ b (d.add 5) λaK=>Ld .slice b (d.add 6) λx=>lM [.int .i64 aH,.slice u.a u.len u.cap,.slice v.a v.len v.cap,.int .i64 aI,.int .i64 aJ,.int .i64 aK,.slice x.a x.len x.cap] b f 0 λi=>f_ i (f.add 0) λaL=>Ld .slice i (f.add 1) λaM=>Ld .slice i (f.add 2) λaN=>f_ i (f.add 3) λaO=>f_ i (f.add 4) λaP=>f_ i (f.add 5) λaQ=>Ld .slice i (f.add 6) λaR=>K aL aM aN aO aP aQ aR i))) (0,()) c))) (0,()) E):=okF ji Tryz.func28 (ig (ig (.seq (ig (.blk (.loop [(4,(.int .i64))] .leaf))) (.seq (ig (.blk (.loop [(5,(.int .i64))] .leaf))) .leaf)))) (by kernel_rfl)
theorem Y2 {b f g w K}:iH (BP b f g w K)
 (let d:Bool->Prop:=λl=>((cond l (K none 1 w) (iT (S:=Int×Unit) (λe j m=>(cond (decide (e.1<(b.len:Int))) (iT (S:=Int×Unit) (λh c n=>(cond (decide (h.1<e.1)) (iO b 1 h.1 λo=>f_ c.drew o λp=>iO b 1 e.1 λq=>f_ c.drew q λr=>(cond (p==r) (K none 1 c.drew) (n ((IntKind.i64.wrap (h.1+1)),()) c.drew))) (iO b 1 e.1 λs=>f_ c s λt=>qU t c λu k=>(cond (!u) (K none 1 k) (m ((IntKind.i64.wrap (e.1+1)),()) k))))) (0,()) j) (j_ 3 1 8 [(Value.int .i64 0)] ⟨none,0,0⟩ b j λi v=>Al v (.cells ⟨[.slice i.a i.len i.cap,.int .i64 f,.int .i64 g,.slice none 0 0]⟩ 256) λx y=>K (some x) 0 y))) (0,()) w)))
 (cond (decide ((b.len:Int)<1)) (d true) (cond (decide ((b.len:Int)>16)) (d true) (cond (decide (f<1)) (d true) (cond (decide (f>g)) (d true) (d (decide (g>65535)))))))):=okF ji Tryz.func58 (ig (ig (.seq (ig (.blk (.loop [(8,(.int .i64))] (ig (.seq (.blk (.seq (ig (.blk (.loop [(9,(.int .i64))] .leaf))) .leaf)) .leaf))))) .leaf))) (by kernel_rfl)
theorem Y3 {b c w K}:iH (BQ b c w K)
 (let d:Bool->Prop:=λf=>((cond f (K none 1 w) (XU 3 1 8 [(Value.int .i64 0)] b b w λe g=>Al g (.cells ⟨[.slice e.a e.len e.cap,.int .i64 c]⟩ 258) λh i=>K (some h) 0 i)))
 (cond (decide (b<1)) (d true) (cond (decide (b>64)) (d true) (cond (decide (c<0)) (d true) (d (decide (c>4096))))))):=okF ji Tryz.func59 .leaf (by kernel_rfl)
theorem Y4 {a w K}:iH (BR a w K)
 (let b:Bool->Prop:=λc=>((cond c (K none 1 w) (Al w (.cells ⟨[.slice none 0 0,.int .i64 a]⟩ 178) λd e=>K (some d) 0 e)))
 (cond (decide (a<0)) (b true) (b (decide (a>4096))))):=okF ji Tryz.func60 .leaf (by kernel_rfl)
theorem Y5 {a w K}:iH (BU a w K)
 (let b:Bool->Prop:=λc=>((cond c (K none 1 w) (Al w (.cells ⟨[.slice none 0 0,.int .i64 a]⟩ 173) λd e=>K (some d) 0 e)))
 (cond (decide (a<0)) (b true) (b (decide (a>4096))))):=okF ji Tryz.func61 .leaf (by kernel_rfl)
theorem MR {b j k l m n o p w K}:iH (nN b j k l m n o p w K)
 (Al w (.cells ⟨[.int .i64 j,.int .i64 k,.int .i64 l,.int .i64 m,.int .i64 n,.int .i64 o,.int .i64 p]⟩ 105) λa e=>f_ e (a.add 0) λt=>f_ e (a.add 1) λu=>f_ e (a.add 2) λv=>f_ e (a.add 3) λx=>f_ e (a.add 4) λy=>f_ e (a.add 5) λz=>f_ e (a.add 6) λA=>pX b t u v x y z A e λB f=>(cond (!B) (K 1 f) (Pt b λC=>Ld .ptr f.drew (C.add 39) λD=>f_ f.drew (a.add 0) λE=>f_ f.drew (a.add 1) λF=>f_ f.drew (a.add 2) λG=>f_ f.drew (a.add 3) λH=>oJ D E F G H f.drew λav I g=>Pt b λJ=>Ld .ptr g.drew (J.add 39) λL=>f_ g.drew ((a.add 4).add 0) λM=>f_ g.drew ((a.add 4).add 1) λN=>f_ g.drew ((a.add 4).add 2) λO=>qH L M N O g.drew λaw P h=>let q:Bool->Prop:=λQ=>((cond Q (K 9 h) (Pt b λR=>Ld .ptr h.drew (R.add 38) λS=>f_ h.drew a λT=>Pt b λr=>f_ h.drew (r.add 20) λs=>oO S T h.drew λU c=>c.cell? (r.add 20)=some (Value.int .i64 s)/\
 (cond (decide (U>=s)) (K 10 c) (Pt b λV=>Ld .ptr c.drew (V.add 39) λW=>Pt W λX=>Ld .slice c.drew X λY=>Pt b λZ=>f_ c.drew (Z.add 21) λaa=>(cond (decide ((Y.len:Int)>=aa)) (K 7 c.drew) (Pt b λab=>Ld .ptr c.drew.drew (ab.add 38) λac=>f_ c.drew.drew a λad=>pV ac ad c.drew.drew λax i=>Pt b λae=>Ld .ptr i.drew (ae.add 37) λaf=>f_ i.drew ((a.add 4).add 0) λag=>f_ i.drew ((a.add 4).add 1) λah=>f_ i.drew ((a.add 4).add 2) λai=>qX af ag ah ai i.drew λay d=>Pt b λaj=>Ld .ptr d.drew (aj.add 39) λak=>f_ d.drew (a.add 0) λal=>f_ d.drew (a.add 1) λam=>f_ d.drew (a.add 2) λan=>f_ d.drew (a.add 3) λao=>f_ d.drew ((a.add 4).add 0) λap=>f_ d.drew ((a.add 4).add 1) λaq=>f_ d.drew ((a.add 4).add 2) λar=>vS ak al am an ao ap aq ar true d.drew λaz aA au=>K 0 au)))))))
 (cond I (q true) (q P))))):=okF ji Tryz.func62 .leaf (by kernel_rfl)
theorem Vw {a w K}:iH (FB a w K)
 (Al w (.cells ⟨(iU 0 0 0 0 0 0 0 0 0 0 0 0 0 0 0 0 0 0 0 0 0 0 0 0 0 0 0 0 0 0 0 0 0)⟩ 159) λb d=>Hu a 1 d λe f g h i j k l m n o p q r s t u v x y z A B C D E F G H I J L M N O=>lM (iU e f g h i j k l m n o p q r s t u v x y z A B C D E F G H I J L M) O b 0 λc=>jD c b λP Q R S T U V W X Y Z aa ab ac ad ae af ag ah ai aj ak al am an ao ap aq ar au av aw ax=>K P Q R S T U V W X Y Z aa ab ac ad ae af ag ah ai aj ak al am an ao ap aq ar au av aw ax N c):=okF ji Tryz.func63 .leaf (by kernel_rfl)
theorem Iw {d w K}:iH (sF d w K)
 (Al w (.cells ⟨(jH 0 0 0 0 0 0 0 0 0 0 0 0 0 0 0 0)⟩ 28) λe g=>Al g (.cells ⟨(jH 0 0 0 0 0 0 0 0 0 0 0 0 0 0 0 0)⟩ 28) λb h=>(0:Int)<=10/\10<(16:Int)/\
 St h (b.add (Int.toNat 10 * 1)) (Value.int .u8 255) λi=>(0:Int)<=11/\11<(16:Int)/\
 St i (b.add (Int.toNat 11 * 1)) (Value.int .u8 255) λj=>iT (S:=Int×Unit) (λa c k=>(cond (decide (a.1<4)) (0<=(IntKind.i64.wrap (8 * a.1))/\
 (0:Int)<=(IntKind.i64.wrap (15 - a.1))/\(IntKind.i64.wrap (15 - a.1))<(16:Int)/\
 St c (b.add (Int.toNat (IntKind.i64.wrap (15 - a.1)) * 1)) (Value.int .u8 (IntKind.u8.wrap (mW .i64 d (IntKind.i64.wrap (8 * a.1))))) λl=>k ((IntKind.i64.wrap (a.1+1)),()) l) (oV c b λm n o p q r s t u v x y z A B C=>lM (jH m n o p q r s t u v x y z A B C) c e 0 λf=>oV f e λD E F G H I J L M N O P Q R T U=>K D E F G H I J L M N O P Q R T U f))) (0,()) j):=okF ji Tryz.func64 (ig (ig (ig (.seq (ig (.blk (.loop [(4,(.int .i64))] .leaf))) .leaf)))) (by kernel_rfl)
theorem MV {d z A B C D E F G H I J L M N O P Q R S T U V W X Y Z aa ab ac ad ae af ag ah ai aj ak w K}:iH (yM d z A B C D E F G H I J L M N O P Q R S T U V W X Y Z aa ab ac ad ae af ag ah ai aj ak w K)
 (Al w (.cells ⟨[.int .i64 z,.int .i64 A,.int .i64 B,.int .i64 C]⟩ 78) λf w4=>Al w4 (.cells ⟨(iU D E F G H I J L M N O P Q R S T U V W X Y Z aa ab ac ad ae af ag ah ai aj ak)⟩ 159) λc w6=>Al w6 (.cells ⟨(iU 0 0 0 0 0 0 0 0 0 0 0 0 0 0 0 0 0 0 0 0 0 0 0 0 0 0 0 0 0 0 0 0 0)⟩ 159) λg m=>f_ m (f.add 0) λaD=>f_ m (f.add 1) λaE=>f_ m (f.add 2) λaF=>f_ m (f.add 3) λaG=>oP d aD aE aF aG m λi j=>f_ j c λaH=>(cond (aH==0) (let al:b_:=λam=>(jD am.drew c λaI aJ aK aL aM aN aO aP aQ aR aS aT aU aV aW aX aY aZ a1 a2 a3 a4 a6 a8 ba bb bc bd be bf bg bh bi=>lM (iU aI aJ aK aL aM aN aO aP aQ aR aS aT aU aV aW aX aY aZ a1 a2 a3 a4 a6 a8 ba bb bc bd be bf bg bh bi) am.drew g 0 λan=>jD an g λbj bk bl bm bn bo bp bq br bs bt bu bv bw bx bz bA bB bC bD bE bF bG bH bI bJ bK bL bM bN bO bP bQ=>K 0 bj bk bl bm bn bo bp bq br bs bt bu bv bw bx bz bA bB bC bD bE bF bG bH bI bJ bK bL bM bN bO bP bQ an)
 (cond (decide (i>=0)) (ny d i j λbR=>al bR) (al j))) (f_ j c λk=>f_ j (c.add 29) λbS=>f_ j (c.add 32) λbT=>f_ j (c.add 31) λbU=>Al j (.cells ⟨[.int .i64 0,.int .i64 0,.int .i64 0]⟩ 80) λe bV=>lM [.int .i64 bS,.int .i64 bT,.int .i64 bU] bV e 0 λb=>(cond (decide (i>=0)) (let r:Bool->b_:=λbW n=>((cond bW (jD n.drew c λbX bY bZ b0 b1 b2 b3 b4 b5 b6 b7 b8 b9 ca cb cc cd ce cf cg ch ci cj ck cl cm cn co cp cq cr cs ct=>lM (iU bX bY bZ b0 b1 b2 b3 b4 b5 b6 b7 b8 b9 ca cb cc cd ce cf cg ch ci cj ck cl cm cn co cp cq cr cs ct) n.drew g 0 λao=>jD ao g λcu cv cw cx cy cz cA cB cC cD cE cF cG cH cI cJ cK cL cM cN cO cP cQ cR cS cT cU cV cW cX cY cZ c0=>K 11 cu cv cw cx cy cz cA cB cC cD cE cF cG cH cI cJ cK cL cM cN cO cP cQ cR cS cT cU cV cW cX cY cZ c0 ao) (Pt d λc1=>Ld .slice n.drew (c1.add 1) λc2=>Pt d λc3=>f_ n.drew (c3.add 2) λc4=>iO c2 8 i λc5=>St n.drew (c5.add 7) (.int .i64 (IntKind.i64.wrap (c4+(if (86400:Int)<k then 86400 else k)))) λo=>Pt d λap=>Ld .slice o.drew (ap.add 1) λq=>iO q 8 i λaq=>f_ o.drew ((aq.add 4).add 1) λar=>Pt d λs=>Ld .slice o.drew (s.add 1) λl=>iO l 8 i λt=>f_ o.drew ((t.add 4).add 2) λu=>St o.drew c (.int .i64 (if (86400:Int)<k then 86400 else k)) λp=>p.cell? ((t.add 4).add 2)=some (Value.int .i64 u)/\
 p.cell? (s.add 1)=some (Value.slice l.a l.len l.cap)/\
 p.cell? ((aq.add 4).add 1)=some (Value.int .i64 ar)/\
 p.cell? (ap.add 1)=some (Value.slice q.a q.len q.cap)/\
 St p (c.add 32) (.int .i64 ar) λv=>v.cell? ((t.add 4).add 2)=some (Value.int .i64 u)/\
 v.cell? (s.add 1)=some (Value.slice l.a l.len l.cap)/\
 St v (c.add 31) (.int .i64 u) λau=>jD au.drew c λc6 c7 c8 c9 da db dc dd de df dg dh di dj dk dl dm dn dp dq dr ds dt du dv dw dx dy dz dA dB dC dD=>lM (iU c6 c7 c8 c9 da db dc dd de df dg dh di dj dk dl dm dn dp dq dr ds dt du dv dw dx dy dz dA dB dC dD) au.drew g 0 λav=>jD av g λdE dF dG dH dI dJ dK dL dM dN dO dP dQ dR dS dT dU dV dW dX dY dZ d0 d1 d2 d3 d4 d5 d6 d7 d8 d9 ea=>K 0 dE dF dG dH dI dJ dK dL dM dN dO dP dQ dR dS dT dU dV dW dX dY dZ d0 d1 d2 d3 d4 d5 d6 d7 d8 d9 ea av)))
 f_ b.drew (c.add 32) λeb=>(cond (eb !=0) (f_ b.drew (e.add 0) λec=>f_ b.drew (e.add 1) λed=>f_ b.drew (e.add 2) λee=>Pt d λef=>Ld .slice b.drew (ef.add 1) λeg=>iO eg 8 i λx=>f_ b.drew ((x.add 4).add 0) λeh=>f_ b.drew ((x.add 4).add 1) λei=>f_ b.drew ((x.add 4).add 2) λej=>r (!((ec==eh) && ((ed==ei) && ((ee==ej) && true)))) b.drew) (f_ b.drew (c.add 31) λek=>(cond (ek !=0) (f_ b.drew (e.add 0) λel=>f_ b.drew (e.add 1) λem=>f_ b.drew (e.add 2) λen=>Pt d λeo=>Ld .slice b.drew (eo.add 1) λep=>iO ep 8 i λy=>f_ b.drew ((y.add 4).add 0) λeq=>f_ b.drew ((y.add 4).add 1) λer=>f_ b.drew ((y.add 4).add 2) λes=>r (!((el==eq) && ((em==er) && ((en==es) && true)))) b.drew) (r false b.drew))))) (Pt d λet=>Ld .slice b.drew (et.add 1) λeu=>Pt d λev=>f_ b.drew (ev.add 3) λew=>(cond (decide ((eu.len:Int)>=ew)) (jD b.drew.drew c λex ey ez eA eB eC eD eE eF eG eH eI eJ eK eL eM eN eO eP eQ eR eS eT eU eV eW eX eY eZ e0 e1 e2 e3=>lM (iU ex ey ez eA eB eC eD eE eF eG eH eI eJ eK eL eM eN eO eP eQ eR eS eT eU eV eW eX eY eZ e0 e1 e2 e3) b.drew.drew g 0 λaw=>jD aw g λe4 e5 e6 e7 e8 e9 fa fb fc fd fe ff fg fh fi fj fk fl fm fn fo fp fq fr fs ft fu fv fw fx fy fz fA=>K 8 e4 e5 e6 e7 e8 e9 fa fb fc fd fe ff fg fh fi fj fk fl fm fn fo fp fq fr fs ft fu fv fw fx fy fz fA aw) (Pt d λfB=>Ld .ptr b.drew.drew fB λfC=>f_ b.drew.drew (f.add 0) λfD=>f_ b.drew.drew (f.add 1) λfE=>f_ b.drew.drew (f.add 2) λfF=>f_ b.drew.drew (f.add 3) λfG=>f_ b.drew.drew (e.add 0) λfH=>f_ b.drew.drew (e.add 1) λfI=>f_ b.drew.drew (e.add 2) λfJ=>nN fC fD fE fF fG fH fI fJ b.drew.drew λfK fL=>zH fK fL λax h=>(cond (ax !=0) (jD h.drew c λfM fN fO fP fQ fR fS fT fU fV fW fX fY fZ f0 f1 f2 f3 f4 f5 f6 f7 f8 f9 ga gb gc gd ge gf gg gh gi=>lM (iU fM fN fO fP fQ fR fS fT fU fV fW fX fY fZ f0 f1 f2 f3 f4 f5 f6 f7 f8 f9 ga gb gc gd ge gf gg gh gi) h.drew g 0 λay=>jD ay g λgj gk gl gm gn go gp gq gr gs gt gu gv gw gx gy gz gA gB gC gD gE gF gG gH gI gJ gK gL gM gN gO gP=>K ax gj gk gl gm gn go gp gq gr gs gt gu gv gw gx gy gz gA gB gC gD gE gF gG gH gI gJ gK gL gM gN gO gP ay) (f_ h.drew (f.add 0) λgQ=>f_ h.drew (f.add 1) λgR=>f_ h.drew (f.add 2) λgS=>f_ h.drew (f.add 3) λgT=>f_ h.drew (e.add 0) λgU=>f_ h.drew (e.add 1) λgV=>f_ h.drew (e.add 2) λgW=>Pt d λgX=>f_ h.drew (gX.add 2) λgY=>pY d gQ gR gS gT gU gV gW (IntKind.i64.wrap (gY+(if (86400:Int)<k then 86400 else k))) h.drew λgZ=>St gZ c (.int .i64 (if (86400:Int)<k then 86400 else k)) λaz=>jD az.drew c λg0 g1 g2 g3 g4 g5 g6 g7 g8 g9 ha hb hc hd he hf hg hh hi hj hk hl hm hn ho hp hq hr hs ht hu hv hw=>lM (iU g0 g1 g2 g3 g4 g5 g6 g7 g8 g9 ha hb hc hd he hf hg hh hi hj hk hl hm hn ho hp hq hr hs ht hu hv hw) az.drew g 0 λaA=>jD aA g λhx hy hz hA hB hC hD hE hF hG hH hI hJ hK hL hM hN hO hP hQ hR hS hT hU hV hW hX hY hZ h0 h1 h2 h3=>K 0 hx hy hz hA hB hC hD hE hF hG hH hI hJ hK hL hM hN hO hP hQ hR hS hT hU hV hW hX hY hZ h0 h1 h2 h3 aA))))))))):=okF ji Tryz.func65 .leaf (by kernel_rfl)
theorem TM {f g h i j k l m n o p q r s t u v x y z A B C D E F G H I J L M N O P w K}:iH (sD f g h i j k l m n o p q r s t u v x y z A B C D E F G H I J L M N O P w K)
 (Al w (.cells ⟨(Nc f g h i j k l m n o p q r s t u v x y z A B C D E F G H I J L M N O P)⟩ 166) λa Q=>let b:Bool->b_:=λj5 c=>((cond j5 (K ⟨none,0,0⟩ 1 c) (f_ c a λx7=>Al c (.cells ⟨[.int .u8 2,.int .u8 129,.int .u8 0,.int .u8 (IntKind.u8.wrap x7)]⟩ 5) λa9 R=>f_ R (a.add 2) λaH=>tq ⟨(some a9),4,4⟩ aH 4 R λaI S=>f_ S (a.add 1) λaJ=>tq aI aJ 4 S λaK T=>jD T.drew (a.add 2) λU V W X Y Z aa ab ac ad ae af ag ah ai aj ak al am an ao ap aq ar au av aw ax ay az aA aB aC=>aew 5 1 1 [(Value.int .u8 0)] aK 12 T.drew λaL aD=>CkN (iU U V W X Y Z aa ab ac ad ae af ag ah ai aj ak al am an ao ap aq ar au av aw ax ay az aA aB aC) aD (a.add 2) 0 (
 zG aL U V W X Y Z aa ab ac ad ae af ag ah ai aj ak al am an ao ap aq ar au av aw ax ay az aA aB aC aD λaM aN=>K aM 0 aN))))
 jD Q (a.add 2) λaO aP aQ aR aS aT aU aV aW aX aY aZ a0 a1 a2 a4 a5 a6 a7 a8 ba bb bc bd be bf bg bh bi bj bk bl bm=>xZ aO aP aQ aR aS aT aU aV aW aX aY aZ a0 a1 a2 a4 a5 a6 a7 a8 ba bb bc bd be bf bg bh bi bj bk bl bm Q λbn d=>(cond (bn !=0) (b true d) (f_ d a λbo=>lD bo 1 d λbp e=>(cond (!bp) (b true e) (f_ e (a.add 1) λbq=>lD bq 4 e λbr bs=>b (!br) bs))))):=okF ji Tryz.func66 .leaf (by kernel_rfl)
theorem Kz {b d w K}:iH (ny b d w K)
 (Pt b λj=>Ld .ptr w.drew j λk=>Pt b λl=>Ld .slice w.drew (l.add 1) λm=>iO m 8 d λe=>f_ w.drew (e.add 0) λn=>f_ w.drew (e.add 1) λo=>f_ w.drew (e.add 2) λp=>f_ w.drew (e.add 3) λq=>nU k n o p q w.drew λA f=>Pt b λr=>Ld .slice f.drew (r.add 1) λs=>BF s 8 0 d λt=>Pt b λh=>Ld .slice f.drew (h.add 1) λc=>BF c 8 (IntKind.i64.wrap (d+1)) (c.len:Int) λu=>j_ 82 8 64 [(Value.int .i64 0),(Value.int .i64 0),(Value.int .i64 0),(Value.int .i64 0),(Value.int .i64 0),(Value.int .i64 0),(Value.int .i64 0),(Value.int .i64 0)] ⟨none,0,0⟩ t f.drew λv i=>i.cell? (h.add 1)=some (Value.slice c.a c.len c.cap)/\
 j_ 82 8 64 [(Value.int .i64 0),(Value.int .i64 0),(Value.int .i64 0),(Value.int .i64 0),(Value.int .i64 0),(Value.int .i64 0),(Value.int .i64 0),(Value.int .i64 0)] v u i λg x=>Pt b λy=>St x (y.add 1) (.slice g.a g.len g.cap) λz=>K z):=okF ji Tryz.func67 .leaf (by kernel_rfl)
theorem Qj {d e w K}:iH (nM d e w K)
 (iT (S:=iq×Int×Unit) (λb a g=>Pt d λh=>Ld .slice a h λi=>(cond (decide (b.2.1<(i.len:Int))) (let f:iq->b_:=λj k=>(g (j,(IntKind.i64.wrap (b.2.1+1)),()) k)
 Pt d λl=>Ld .slice a l λm=>iO m 6 b.2.1 λn=>f_ a (n.add 1) λo=>(cond (o==e) (Pt d λp=>Ld .slice a p λq=>iO q 6 b.2.1 λc=>f_ a (c.add 0) λr=>f_ a (c.add 1) λs=>f_ a (c.add 2) λt=>f_ a (c.add 3) λu=>f_ a (c.add 4) λv=>f_ a (c.add 5) λx=>Al a (.cells ⟨[.int .i64 r,.int .i64 s,.int .i64 t,.int .i64 u,.int .i64 v,.int .i64 x]⟩ 175) λy z=>j_ 175 6 48 [(Value.int .i64 0),(Value.int .i64 0),(Value.int .i64 0),(Value.int .i64 0),(Value.int .i64 0),(Value.int .i64 0)] b.1 ⟨(some y),1,1⟩ z λA B=>f A B) (f b.1 a))) (K b.1 a))) (⟨none,0,0⟩,0,()) w):=okF ji Tryz.func73 (ig (ig (.seq (ig (.blk (.loop [(5,.slice),(6,(.int .i64))] .leaf))) .leaf))) (by kernel_rfl)
theorem Ky {b d w K}:iH (kV b d w K)
 (Pt b λj=>Ld .ptr w (j.add 39) λk=>r_ k d w λl m n o p q r s R t=>Al t (.cells ⟨[.int .i64 0,.int .i64 0,.int .i64 0,.int .i64 0,.int .i64 0,.int .i64 0,.int .i64 0,.bool false]⟩ 130) λc u=>lM [.int .i64 l,.int .i64 m,.int .i64 n,.int .i64 o,.int .i64 p,.int .i64 q,.int .i64 r,.bool s] u c 0 λg=>Pt b λv=>Ld .ptr g (v.add 40) λx=>nM x d g λh y=>iT (S:=Int×Unit) (λe a z=>(cond (decide (e.1<(h.len:Int))) (Pt b λA=>Ld .ptr a.drew (A.add 40) λB=>iO h 6 e.1 λC=>f_ a.drew C λD=>vT B D a.drew λT E=>z ((IntKind.i64.wrap (e.1+1)),()) E) (Pt b λF=>Ld .ptr a.drew (F.add 37) λG=>f_ a.drew ((c.add 4).add 0) λH=>f_ a.drew ((c.add 4).add 1) λI=>f_ a.drew ((c.add 4).add 2) λJ=>qV G H I J a.drew λU f=>Pt b λL=>Ld .ptr f.drew (L.add 38) λM=>f_ f.drew c λN=>pU M N f.drew λV i=>Pt b λO=>Ld .ptr i (O.add 39) λP=>qY P d i λW Q=>K Q))) (0,()) y):=okF ji Tryz.func74 (ig (ig (.seq (ig (.blk (.loop [(7,(.int .i64))] .leaf))) .leaf))) (by kernel_rfl)
theorem Qd {a b w K}:iH (rV a b w K)
 (jr (Value.pointer a)=true/\
 Al w (.cells ⟨[.pointer a]⟩ 23) λc d=>jr (Value.int .i64 b)=true/\
 Al d (.cells ⟨[.int .i64 b]⟩ 3) λe f=>K (Value.func (.func 157) #[] #[(Value.pointer (some c)),(Value.pointer (some e))]) f):=okF ji Tryz.func75 .leaf (by kernel_rfl)
theorem W9 {b d w K}:iH (zF b d w K)
 ((cond ((b.len:Int) !=(d.len:Int)) (K false w) (iT (S:=Int×Unit) (λc a e=>(cond (decide (c.1<(b.len:Int))) (iO b 1 c.1 λf=>f_ a.drew f λg=>iO d 1 c.1 λh=>f_ a.drew h λi=>(cond (g !=i) (K false a.drew) (e ((IntKind.i64.wrap (c.1+1)),()) a.drew))) (K true a))) (0,()) w))):=okF ji Tryz.func77 (ig (ig (.seq (ig (.blk (.loop [(5,(.int .i64))] .leaf))) .leaf))) (by kernel_rfl)
theorem MS {g i j k l m n o w K}:iH (pX g i j k l m n o w K)
 (Al w (.cells ⟨[.int .i64 i,.int .i64 j,.int .i64 k,.int .i64 l,.int .i64 m,.int .i64 n,.int .i64 o]⟩ 105) λa b=>let h:Bool->Prop:=λq=>(let e:Bool->Prop:=λr=>(let p:Bool->b_:=λs c=>(let d:Bool->b_:=λt u=>(K t u)
 (cond q (cond r (cond s (f_ c.drew (a.add 4) λv=>f_ c.drew (a.add 1) λx=>(cond (v==x) (f_ c.drew (a.add 2) λy=>qU y c.drew λz f=>(cond z (Pt g λA=>Ld .ptr f (A.add 37) λB=>f_ f ((a.add 4).add 1) λC=>o_ B C f λD E=>d D E) (d false f))) (d false c.drew))) (d false c.drew)) (d false c.drew)) (d false c.drew)))
 f_ b.drew a λF=>(cond (decide (F>=0)) (f_ b.drew a λG=>Pt g λH=>Ld .slice b.drew (H.add 16) λI=>p (decide (G<(I.len:Int))) b.drew) (p false b.drew)))
 f_ b (a.add 3) λJ=>(cond (decide (J>=0)) (f_ b (a.add 3) λL=>(cond (decide (L<=65535)) (f_ b ((a.add 4).add 2) λM=>(cond (decide (M>=0)) (f_ b ((a.add 4).add 2) λN=>e (decide (N<=65535))) (e false))) (e false))) (e false)))
 f_ b (a.add 1) λO=>(cond (O==1) (h true) (f_ b (a.add 1) λP=>(cond (P==6) (h true) (f_ b (a.add 1) λQ=>h (Q==17)))))):=okF ji Tryz.func127 .leaf (by kernel_rfl)
theorem Rq {b f g h i w K}:iH (oJ b f g h i w K)
 (Al w (.cells ⟨[.int .i64 f,.int .i64 g,.int .i64 h,.int .i64 i]⟩ 78) λc j=>iT (S:=Int×Unit) (λd a k=>Pt b λl=>Ld .slice a l λm=>(cond (decide (d.1<(m.len:Int))) (Pt b λn=>Ld .slice a.drew n λo=>iO o 9 d.1 λe=>f_ a.drew ((e.add 1).add 0) λp=>f_ a.drew ((e.add 1).add 1) λq=>f_ a.drew ((e.add 1).add 2) λr=>f_ a.drew ((e.add 1).add 3) λs=>f_ a.drew (c.add 0) λt=>f_ a.drew (c.add 1) λu=>f_ a.drew (c.add 2) λv=>f_ a.drew (c.add 3) λx=>(cond ((p==t) && ((q==u) && ((r==v) && ((s==x) && true)))) (Pt b λy=>Ld .slice a.drew y λz=>iO z 9 d.1 λA=>f_ a.drew A λB=>K B true a.drew) (k ((IntKind.i64.wrap (d.1+1)),()) a.drew))) (K 0 false a))) (0,()) j):=okF ji Tryz.func128 (ig (.seq (ig (.blk (.loop [(6,(.int .i64))] .leaf))) .leaf)) (by kernel_rfl)
theorem Ro {b f g h w K}:iH (qH b f g h w K)
 (Al w (.cells ⟨[.int .i64 f,.int .i64 g,.int .i64 h]⟩ 80) λd i=>iT (S:=Int×Unit) (λc a j=>Pt b λk=>Ld .slice a k λl=>(cond (decide (c.1<(l.len:Int))) (Pt b λm=>Ld .slice a.drew m λn=>iO n 9 c.1 λe=>f_ a.drew (((e.add 1).add 4).add 0) λo=>f_ a.drew (((e.add 1).add 4).add 1) λp=>f_ a.drew (((e.add 1).add 4).add 2) λq=>f_ a.drew (d.add 0) λr=>f_ a.drew (d.add 1) λs=>f_ a.drew (d.add 2) λt=>(cond ((o==r) && ((p==s) && ((q==t) && true))) (Pt b λu=>Ld .slice a.drew u λv=>iO v 9 c.1 λx=>f_ a.drew x λy=>K y true a.drew) (j ((IntKind.i64.wrap (c.1+1)),()) a.drew))) (K 0 false a))) (0,()) i):=okF ji Tryz.func129 (ig (.seq (ig (.blk (.loop [(6,(.int .i64))] .leaf))) .leaf)) (by kernel_rfl)
theorem Kv {b a w K}:iH (oO b a w K)
 (let c:Bool->Prop:=λd=>((cond d (K 0 w) (Pt b λe=>Ld .slice w e λf=>iO f 1 a λg=>f_ w g λh=>K h w)))
 (cond (decide (a<0)) (c true) (Pt b λi=>Ld .slice w i λj=>c (decide (a>=(j.len:Int)))))):=okF ji Tryz.func130 .leaf (by kernel_rfl)
theorem MQ {b a w K}:iH (pV b a w K)
 (let c:Bool->Prop:=λe=>((cond e (K 1 w) (Pt b λf=>Ld .slice w.drew f λg=>iO g 1 a λh=>f_ w.drew h λi=>Pt b λj=>f_ w.drew (j.add 1) λk=>(cond (decide (i>=k)) (K 10 w.drew) (Pt b λl=>Ld .slice w.drew l λd=>iO d 1 a λm=>f_ w.drew m λn=>iO d 1 a λo=>St w.drew o (.int .i64 (IntKind.i64.wrap (n+1))) λp=>K 0 p)))))
 (cond (decide (a<0)) (c true) (Pt b λq=>Ld .slice w q λr=>c (decide (a>=(r.len:Int)))))):=okF ji Tryz.func131 .leaf (by kernel_rfl)
theorem OB {d k l m w K}:iH (qX d k l m w K)
 (Al w (.cells ⟨[.int .i64 k,.int .i64 l,.int .i64 m]⟩ 80) λb n=>let g:Bool->b_:=λq e=>((cond q (K 1 e) (f_ e (b.add 0) λr=>f_ e (b.add 1) λs=>f_ e (b.add 2) λt=>pR d r s t e λu c=>(cond u (K 9 c) (Pt d λo=>Ld .slice c.drew (o.add 3) λh=>f_ c.drew (b.add 0) λv=>f_ c.drew (b.add 1) λx=>f_ c.drew (b.add 2) λy=>Al c.drew (.cells ⟨[.int .i64 v,.int .i64 x,.int .i64 y]⟩ 80) λz p=>p.cell? (o.add 3)=some (Value.slice h.a h.len h.cap)/\
 j_ 80 3 24 [(Value.int .i64 0),(Value.int .i64 0),(Value.int .i64 0)] h ⟨(some z),1,1⟩ p λi A=>Pt d λB=>St A (B.add 3) (.slice i.a i.len i.cap) λC=>K 0 C)))))
 f_ n b λD=>xR D n λE j=>(cond (!E) (g true j) (f_ j (b.add 1) λF=>o_ d F j λG f=>(cond (!G) (g true f) (f_ f (b.add 2) λH=>(cond (decide (H<0)) (g true f) (f_ f (b.add 2) λI=>g (decide (I>65535)) f))))))):=okF ji Tryz.func132 .leaf (by kernel_rfl)
theorem TK {e B C D E F G H I w K}:iH (vS e B C D E F G H I w K)
 (Al w (.cells ⟨[.int .i64 B,.int .i64 C,.int .i64 D,.int .i64 E,.int .i64 F,.int .i64 G,.int .i64 H,.bool I]⟩ 130) λb k=>f_ k (b.add 0) λQ=>f_ k (b.add 1) λR=>f_ k (b.add 2) λT=>f_ k (b.add 3) λU=>oJ e Q R T U k λr9 V l=>(cond V (K 0 9 l) (f_ l ((b.add 4).add 0) λW=>f_ l ((b.add 4).add 1) λX=>f_ l ((b.add 4).add 2) λY=>qH e W X Y l λaC Z m=>(cond Z (K 0 9 m) (Pt e λaa=>Ld .slice m.drew aa λab=>Pt e λac=>f_ m.drew (ac.add 1) λad=>(cond (decide ((ab.len:Int)>=ad)) (K 0 7 m.drew) (iT (S:=Int×Unit) (λh d ae=>let J:Bool->Prop:=λaf=>((cond af (ae ((IntKind.i64.wrap (h.1+1)),()) d) (let L:b_:=λag=>(K h.1 0 ag)
 Pt e λv=>Ld .slice d.drew v λi=>BF i 9 0 h.1 λM=>f_ d.drew (b.add 0) λn=>f_ d.drew (b.add 1) λo=>f_ d.drew (b.add 2) λp=>f_ d.drew (b.add 3) λq=>f_ d.drew (b.add 4) λr=>f_ d.drew (b.add 5) λs=>f_ d.drew (b.add 6) λt=>Ld .bool d.drew (b.add 7) λu=>Pt e λj=>Ld .slice d.drew j λc=>BF c 9 h.1 (c.len:Int) λN=>(j_ 180 9 72 (SI 0 0 0 0 0 0 0 0 false) ⟨none,0,0⟩ M d.drew λah f=>f.cell? j=some (Value.slice c.a c.len c.cap)/\
 f.cell? (b.add 0)=some (Value.int .i64 n)/\
 f.cell? (b.add 1)=some (Value.int .i64 o)/\
 f.cell? (b.add 2)=some (Value.int .i64 p)/\
 f.cell? (b.add 3)=some (Value.int .i64 q)/\
 f.cell? (b.add 4)=some (Value.int .i64 r)/\
 f.cell? (b.add 5)=some (Value.int .i64 s)/\
 f.cell? (b.add 6)=some (Value.int .i64 t)/\
 f.cell? (b.add 7)=some (Value.bool u)/\
 Al f (.cells ⟨(SI h.1 n o p q r s t u)⟩ 180) λai x=>x.cell? j=some (Value.slice c.a c.len c.cap)/\
 x.cell? v=some (Value.slice i.a i.len i.cap)/\
 j_ 180 9 72 (SI 0 0 0 0 0 0 0 0 false) ah ⟨(some ai),1,1⟩ x λaj O=>O.cell? j=some (Value.slice c.a c.len c.cap)/\
 j_ 180 9 72 (SI 0 0 0 0 0 0 0 0 false) aj N O λy ak=>Pt e λal=>St ak al (.slice y.a y.len y.cap) λam=>L am)/\
 (Al d.drew (.cells ⟨(SI h.1 n o p q r s t u)⟩ 180) λan z=>z.cell? j=some (Value.slice c.a c.len c.cap)/\
 z.cell? v=some (Value.slice i.a i.len i.cap)/\
 j_ 180 9 72 (SI 0 0 0 0 0 0 0 0 false) ⟨none,0,0⟩ M z λao g=>g.cell? j=some (Value.slice c.a c.len c.cap)/\
 g.cell? (b.add 0)=some (Value.int .i64 n)/\
 g.cell? (b.add 1)=some (Value.int .i64 o)/\
 g.cell? (b.add 2)=some (Value.int .i64 p)/\
 g.cell? (b.add 3)=some (Value.int .i64 q)/\
 g.cell? (b.add 4)=some (Value.int .i64 r)/\
 g.cell? (b.add 5)=some (Value.int .i64 s)/\
 g.cell? (b.add 6)=some (Value.int .i64 t)/\
 g.cell? (b.add 7)=some (Value.bool u)/\
 j_ 180 9 72 (SI 0 0 0 0 0 0 0 0 false) ao ⟨(some an),1,1⟩ g λap P=>P.cell? j=some (Value.slice c.a c.len c.cap)/\
 j_ 180 9 72 (SI 0 0 0 0 0 0 0 0 false) ap N P λA aq=>Pt e λar=>St aq ar (.slice A.a A.len A.cap) λau=>L au))))
 Pt e λav=>Ld .slice d av λaw=>(cond (decide (h.1<(aw.len:Int))) (Pt e λax=>Ld .slice d ax λay=>iO ay 9 h.1 λaz=>f_ d az λaA=>J (aA==h.1)) (J false))) (0,()) m.drew))))))):=okF ji Tryz.func133 (ig (ig (ig (ig (ig (.seq (.blk (.loop [(10,(.int .i64))] .leaf)) .leaf)))))) (by kernel_rfl)
theorem W_ {a m w K}:iH (Hu a m w K)
 (Al w (.cells ⟨(iU 0 0 0 0 0 0 0 0 0 0 0 0 0 0 0 0 0 0 0 0 0 0 0 0 0 0 0 0 0 0 0 0 0)⟩ 159) λc k=>(cond (decide ((a.len:Int)<60)) (lM (iU 0 0 0 0 0 0 0 0 0 0 0 0 0 0 0 0 0 0 0 0 0 0 0 0 0 0 0 0 0 0 0 0 0) k c 0 λn=>jD n c λB C D E F G H I J L M N O P Q R T U V W X Y Z aa ab ac ad ae af ag ah ai aj=>K B C D E F G H I J L M N O P Q R T U V W X Y Z aa ab ac ad ae af ag ah ai aj 3 n) (cond (decide ((a.len:Int)>60)) (lM (iU 0 0 0 0 0 0 0 0 0 0 0 0 0 0 0 0 0 0 0 0 0 0 0 0 0 0 0 0 0 0 0 0 0) k c 0 λo=>jD o c λak al am an ao ap aq ar au av aw ax ay az aA aB aC aD aE aF aG aH aI aJ aK aL aM aN aO aP aQ aR aS=>K ak al am an ao ap aq ar au av aw ax ay az aA aB aC aD aE aF aG aH aI aJ aK aL aM aN aO aP aQ aR aS 6 o) (Al k (.cells ⟨(iU 0 0 0 0 0 0 0 0 0 0 0 0 0 0 0 0 0 0 0 0 0 0 0 0 0 0 0 0 0 0 0 0 0)⟩ 159) λd aT=>Al aT (.cells ⟨(jH 0 0 0 0 0 0 0 0 0 0 0 0 0 0 0 0)⟩ 28) λp aU=>iT (S:=Int×Unit) (λb i aV=>(cond (decide (b.1<16)) (iO a 1 (IntKind.i64.wrap (8+b.1)) λaW=>Ld (.int .u8) i.drew aW λaX=>iO a 1 (IntKind.i64.wrap (44+b.1)) λq=>Ld (.int .u8) i.drew q λr=>(0:Int)<=b.1/\b.1<(16:Int)/\
 St i.drew ((d.add 1).add (Int.toNat b.1 * 1)) (Value.int .u8 aX) λs=>s.cell? q=some (Value.int .u8 r)/\
 (0:Int)<=b.1/\b.1<(16:Int)/\
 St s (p.add (Int.toNat b.1 * 1)) (Value.int .u8 r) λaY=>aV ((IntKind.i64.wrap (b.1+1)),()) aY) (iT (S:=Int×Unit) (λe j aZ=>(cond (decide (e.1<12)) (iO a 1 (IntKind.i64.wrap (24+e.1)) λa2=>Ld (.int .u8) j a2 λa3=>(0:Int)<=e.1/\e.1<(12:Int)/\
 St j ((d.add 17).add (Int.toNat e.1 * 1)) (Value.int .u8 a3) λa5=>aZ ((IntKind.i64.wrap (e.1+1)),()) a5) (oV j p λa6 a7 a8 a9 ba bb bc bd be bf bg bh bi bj bk bl=>FC a6 a7 a8 a9 ba bb bc bd be bf bg bh bi bj bk bl j λbm bn f=>let l:Bool->Prop:=λbo=>((cond bo (lM (iU 0 0 0 0 0 0 0 0 0 0 0 0 0 0 0 0 0 0 0 0 0 0 0 0 0 0 0 0 0 0 0 0 0) f c 0 λt=>jD t c λbp bq br bs bt bu bv bw bx bz bA bB bC bD bE bF bG bH bI bJ bK bL bM bN bO bP bQ bR bS bT bU bV bW=>K bp bq br bs bt bu bv bw bx bz bA bB bC bD bE bF bG bH bI bJ bK bL bM bN bO bP bQ bR bS bT bU bV bW 4 t) (iO a 1 36 λg=>Ld (.int .u8) f.drew g λh=>vU a 4 4 f.drew λbX u=>u.cell? g=some (Value.int .u8 h)/\
 vU a 40 2 u λbY v=>v.cell? g=some (Value.int .u8 h)/\
 vU a 42 2 v λbZ x=>x.cell? g=some (Value.int .u8 h)/\
 St x d (.int .i64 bX) λy=>y.cell? g=some (Value.int .u8 h)/\
 St y (d.add 29) (.int .i64 (IntKind.i64.wrap h)) λb0=>St b0 (d.add 30) (.int .i64 bY) λb1=>St b1 (d.add 31) (.int .i64 bZ) λb2=>St b2 (d.add 32) (.int .i64 bm) λz=>jD z d λb3 b4 b5 b6 b7 b8 b9 ca cb cc cd ce cf cg ch ci cj ck cl cm cn co cp cq cr cs ct cu cv cw cx cy cz=>lM (iU b3 b4 b5 b6 b7 b8 b9 ca cb cc cd ce cf cg ch ci cj ck cl cm cn co cp cq cr cs ct cu cv cw cx cy cz) z c 0 λA=>jD A c λcA cB cC cD cE cF cG cH cI cJ cK cL cM cN cO cP cQ cR cS cT cU cV cW cX cY cZ c0 c1 c2 c3 c4 c5 c6=>K cA cB cC cD cE cF cG cH cI cJ cK cL cM cN cO cP cQ cR cS cT cU cV cW cX cY cZ c0 c1 c2 c3 c4 c5 c6 0 A)))
 iO a 1 0 λc7=>Ld (.int .u8) f c7 λc8=>(cond (c8 !=2) (l true) (iO a 1 1 λc9=>Ld (.int .u8) f c9 λda=>(cond (da !=m) (l true) (l (!bn)))))))) (0,()) i))) (0,()) aU)))):=okF ji Tryz.func134 (ig (ig (ig (ig (ig (.seq (ig (.blk (.loop [(8,(.int .i64))] .leaf))) (.seq (ig (.blk (.loop [(9,(.int .i64))] .leaf))) .leaf))))))) (by kernel_rfl)
theorem KA {e f g h i w K}:iH (oP e f g h i w K)
 (Al w (.cells ⟨[.int .i64 f,.int .i64 g,.int .i64 h,.int .i64 i]⟩ 78) λb j=>iT (S:=Int×Unit) (λc a k=>Pt e λl=>Ld .slice a (l.add 1) λm=>(cond (decide (c.1<(m.len:Int))) (Pt e λn=>Ld .slice a.drew (n.add 1) λo=>iO o 8 c.1 λd=>f_ a.drew (d.add 0) λp=>f_ a.drew (d.add 1) λq=>f_ a.drew (d.add 2) λr=>f_ a.drew (d.add 3) λs=>f_ a.drew (b.add 0) λt=>f_ a.drew (b.add 1) λu=>f_ a.drew (b.add 2) λv=>f_ a.drew (b.add 3) λx=>(cond ((p==t) && ((q==u) && ((r==v) && ((s==x) && true)))) (K c.1 a.drew) (k ((IntKind.i64.wrap (c.1+1)),()) a.drew))) (K (-1) a))) (0,()) j):=okF ji Tryz.func135 (ig (.seq (ig (.blk (.loop [(5,(.int .i64))] .leaf))) .leaf)) (by kernel_rfl)
theorem Xb {a w K}:iH (zH a w K)
 ((cond (a==0) (K 0 w) (cond (a==10) (K 8 w) (cond (a==7) (K 4 w) (cond (a==9) (K 11 w) (K 3 w)))))):=okF ji Tryz.func136 .leaf (by kernel_rfl)
theorem MW {h A B C D E F G H w K}:iH (pY h A B C D E F G H w K)
 (Al w (.cells ⟨[.int .i64 A,.int .i64 B,.int .i64 C,.int .i64 D,.int .i64 E,.int .i64 F,.int .i64 G,.int .i64 H]⟩ 82) λb O=>iT (S:=Int×Unit) (λk e P=>let I:Bool->b_:=λQ d=>((cond Q (P ((IntKind.i64.wrap (k.1+1)),()) d) (Pt h λu=>Ld .slice d.drew (u.add 1) λi=>BF i 8 0 k.1 λJ=>f_ d.drew (b.add 0) λl=>f_ d.drew (b.add 1) λm=>f_ d.drew (b.add 2) λn=>f_ d.drew (b.add 3) λo=>f_ d.drew (b.add 4) λp=>f_ d.drew (b.add 5) λq=>f_ d.drew (b.add 6) λr=>f_ d.drew (b.add 7) λs=>Pt h λj=>Ld .slice d.drew (j.add 1) λc=>BF c 8 k.1 (c.len:Int) λL=>(j_ 82 8 64 [(Value.int .i64 0),(Value.int .i64 0),(Value.int .i64 0),(Value.int .i64 0),(Value.int .i64 0),(Value.int .i64 0),(Value.int .i64 0),(Value.int .i64 0)] ⟨none,0,0⟩ J d.drew λR f=>f.cell? (j.add 1)=some (Value.slice c.a c.len c.cap)/\
 f.cell? (b.add 0)=some (Value.int .i64 l)/\
 f.cell? (b.add 1)=some (Value.int .i64 m)/\
 f.cell? (b.add 2)=some (Value.int .i64 n)/\
 f.cell? (b.add 3)=some (Value.int .i64 o)/\
 f.cell? (b.add 4)=some (Value.int .i64 p)/\
 f.cell? (b.add 5)=some (Value.int .i64 q)/\
 f.cell? (b.add 6)=some (Value.int .i64 r)/\
 f.cell? (b.add 7)=some (Value.int .i64 s)/\
 Al f (.cells ⟨[.int .i64 l,.int .i64 m,.int .i64 n,.int .i64 o,.int .i64 p,.int .i64 q,.int .i64 r,.int .i64 s]⟩ 82) λT v=>v.cell? (j.add 1)=some (Value.slice c.a c.len c.cap)/\
 v.cell? (u.add 1)=some (Value.slice i.a i.len i.cap)/\
 j_ 82 8 64 [(Value.int .i64 0),(Value.int .i64 0),(Value.int .i64 0),(Value.int .i64 0),(Value.int .i64 0),(Value.int .i64 0),(Value.int .i64 0),(Value.int .i64 0)] R ⟨(some T),1,1⟩ v λU M=>M.cell? (j.add 1)=some (Value.slice c.a c.len c.cap)/\
 j_ 82 8 64 [(Value.int .i64 0),(Value.int .i64 0),(Value.int .i64 0),(Value.int .i64 0),(Value.int .i64 0),(Value.int .i64 0),(Value.int .i64 0),(Value.int .i64 0)] U L M λx V=>Pt h λW=>St V (W.add 1) (.slice x.a x.len x.cap) λX=>K X)/\
 (Al d.drew (.cells ⟨[.int .i64 l,.int .i64 m,.int .i64 n,.int .i64 o,.int .i64 p,.int .i64 q,.int .i64 r,.int .i64 s]⟩ 82) λY y=>y.cell? (j.add 1)=some (Value.slice c.a c.len c.cap)/\
 y.cell? (u.add 1)=some (Value.slice i.a i.len i.cap)/\
 j_ 82 8 64 [(Value.int .i64 0),(Value.int .i64 0),(Value.int .i64 0),(Value.int .i64 0),(Value.int .i64 0),(Value.int .i64 0),(Value.int .i64 0),(Value.int .i64 0)] ⟨none,0,0⟩ J y λZ g=>g.cell? (j.add 1)=some (Value.slice c.a c.len c.cap)/\
 g.cell? (b.add 0)=some (Value.int .i64 l)/\
 g.cell? (b.add 1)=some (Value.int .i64 m)/\
 g.cell? (b.add 2)=some (Value.int .i64 n)/\
 g.cell? (b.add 3)=some (Value.int .i64 o)/\
 g.cell? (b.add 4)=some (Value.int .i64 p)/\
 g.cell? (b.add 5)=some (Value.int .i64 q)/\
 g.cell? (b.add 6)=some (Value.int .i64 r)/\
 g.cell? (b.add 7)=some (Value.int .i64 s)/\
 j_ 82 8 64 [(Value.int .i64 0),(Value.int .i64 0),(Value.int .i64 0),(Value.int .i64 0),(Value.int .i64 0),(Value.int .i64 0),(Value.int .i64 0),(Value.int .i64 0)] Z ⟨(some Y),1,1⟩ g λaa N=>N.cell? (j.add 1)=some (Value.slice c.a c.len c.cap)/\
 j_ 82 8 64 [(Value.int .i64 0),(Value.int .i64 0),(Value.int .i64 0),(Value.int .i64 0),(Value.int .i64 0),(Value.int .i64 0),(Value.int .i64 0),(Value.int .i64 0)] aa L N λz ab=>Pt h λac=>St ab (ac.add 1) (.slice z.a z.len z.cap) λad=>K ad))))
 Pt h λae=>Ld .slice e.drew (ae.add 1) λaf=>(cond (decide (k.1<(af.len:Int))) (Pt h λag=>Ld .slice e.drew (ag.add 1) λah=>iO ah 8 k.1 λt=>f_ e.drew (t.add 0) λai=>f_ e.drew (t.add 1) λaj=>f_ e.drew (t.add 2) λak=>f_ e.drew (t.add 3) λal=>f_ e.drew (b.add 0) λam=>f_ e.drew (b.add 1) λan=>f_ e.drew (b.add 2) λao=>f_ e.drew (b.add 3) λap=>zI ai aj ak al am an ao ap e.drew λaq ar=>I aq ar) (I false e.drew))) (0,()) O):=okF ji Tryz.func137 (ig (ig (.seq (.blk (.loop [(4,(.int .i64))] .leaf)) .leaf))) (by kernel_rfl)
theorem Vy {g h i j k l m n o p q r s t u v x y z A B C D E F G H I J L M N O w K}:iH (xZ g h i j k l m n o p q r s t u v x y z A B C D E F G H I J L M N O w K)
 (Al w (.cells ⟨(iU g h i j k l m n o p q r s t u v x y z A B C D E F G H I J L M N O)⟩ 159) λa P=>let b:Bool->b_:=λR Q=>((cond R (K 1 Q) (K 0 Q)))
 f_ P a λS=>lD S 4 P λT c=>(cond (!T) (b true c) (f_ c (a.add 29) λU=>lD U 1 c λV d=>(cond (!V) (b true d) (f_ d (a.add 30) λW=>lD W 2 d λX e=>(cond (!X) (b true e) (f_ e (a.add 31) λY=>lD Y 2 e λZ f=>(cond (!Z) (b true f) (f_ f (a.add 32) λaa=>lD aa 4 f λab ac=>b (!ab) ac))))))))):=okF ji Tryz.func138 .leaf (by kernel_rfl)
theorem WU {c a w K}:iH (lD c a w K)
 (let b:Bool->b_:=λd e=>(K d e)
 (cond (decide (a>=1)) (cond (decide (a<=4)) (cond (decide (c>=0)) (yX a w λf g=>b (decide (c<f)) g) (b false w)) (b false w)) (b false w))):=okF ji Tryz.func139 .leaf (by kernel_rfl)
theorem Y0 {d b c w K}:iH (tq d b c w K)
 (j_ 5 1 1 [(Value.int .u8 0)] ⟨none,0,0⟩ d w λe i=>lD b c i λj f=>(cond (!j) (K e f) (iT (S:=iq×Int×Unit) (λa g k=>(cond (decide (a.2.1>=0)) (yX a.2.1 g λh l=>h≠0/\
 (256:Int)≠0/\
 Al l (.cells ⟨[.int .u8 (IntKind.u8.wrap (Int.tmod (IntKind.i64.wrap (Int.tdiv b h)) 256))]⟩ 5) λm n=>j_ 5 1 1 [(Value.int .u8 0)] a.1 ⟨(some m),1,1⟩ n λo p=>k (o,(IntKind.i64.wrap (a.2.1 - 1)),()) p) (K a.1 g))) (e,(IntKind.i64.wrap (c - 1)),()) f))):=okF ji Tryz.func140 (ig (ig (ig (.seq (ig (.blk (.loop [(7,.slice),(8,(.int .i64))] .leaf))) .leaf)))) (by kernel_rfl)
theorem Xa {c d e f g h i j k l m n o p q r s t u v x y z A B C D E F G H I J L w K}:iH (zG c d e f g h i j k l m n o p q r s t u v x y z A B C D E F G H I J L w K)
 (Al w (.cells ⟨(iU d e f g h i j k l m n o p q r s t u v x y z A B C D E F G H I J L)⟩ 159) λa R=>uP (a.add 17) 12 1 0 (12:Int) λS=>j_ 5 1 1 [(Value.int .u8 0)] ⟨none,0,0⟩ c R.drew λT U=>j_ 5 1 1 [(Value.int .u8 0)] T S U λV M=>f_ M (a.add 29) λW=>Al M (.cells ⟨[.int .u8 (IntKind.u8.wrap W),.int .u8 0,.int .u8 0,.int .u8 0]⟩ 5) λX Y=>j_ 5 1 1 [(Value.int .u8 0)] V ⟨(some X),4,4⟩ Y λZ b=>f_ b.drew (a.add 30) λaa=>f_ b.drew (a.add 31) λN=>tq Z aa 2 b.drew λab O=>O.cell? (a.add 31)=some (Value.int .i64 N)/\
 tq ab N 2 O λac P=>f_ P (a.add 32) λad=>sF ad P λae af ag ah ai aj ak al am an ao ap aq ar au av aw=>Al aw (.cells ⟨(jH 0 0 0 0 0 0 0 0 0 0 0 0 0 0 0 0)⟩ 28) λQ ax=>lM (jH ae af ag ah ai aj ak al am an ao ap aq ar au av) ax Q 0 λay=>uP Q 16 1 0 (16:Int) λaz=>j_ 5 1 1 [(Value.int .u8 0)] ac az ay λaA aB=>K aA aB):=okF ji Tryz.func141 .leaf (by kernel_rfl)
theorem IQ {b e f g h w K}:iH (nU b e f g h w K)
 (Al w (.cells ⟨[.int .i64 e,.int .i64 f,.int .i64 g,.int .i64 h]⟩ 78) λc a=>Pt b λm=>Ld .ptr a.drew (m.add 39) λn=>f_ a.drew (c.add 0) λo=>f_ a.drew (c.add 1) λp=>f_ a.drew (c.add 2) λq=>f_ a.drew (c.add 3) λr=>oJ n o p q r a.drew λi s j=>Pt b λt=>Ld .ptr j (t.add 39) λu=>r_ u i j λv x y z A B C D J E=>Al E (.cells ⟨[.int .i64 0,.int .i64 0,.int .i64 0,.int .i64 0,.int .i64 0,.int .i64 0,.int .i64 0,.bool false]⟩ 130) λk F=>lM [.int .i64 v,.int .i64 x,.int .i64 y,.int .i64 z,.int .i64 A,.int .i64 B,.int .i64 C,.bool D] F k 0 λd=>let l:Bool->Prop:=λG=>((cond G (K 8 d) (kV b i d λH=>K 0 H)))
 (cond (!s) (l true) (Ld .bool d (k.add 7) λI=>l (!I)))):=okF ji Tryz.func142 .leaf (by kernel_rfl)
theorem TL {f h w K}:iH (r_ f h w K)
 (Al w (.cells ⟨[.int .i64 0,.int .i64 0,.int .i64 0,.int .i64 0,.int .i64 0,.int .i64 0,.int .i64 0,.bool false]⟩ 130) λa i=>iT (S:=Int×Unit) (λg b j=>Pt f λk=>Ld .slice b k λl=>(cond (decide (g.1<(l.len:Int))) (Pt f λm=>Ld .slice b m λn=>iO n 9 g.1 λo=>f_ b o λp=>(cond (p==h) (Pt f λq=>Ld .slice b q λr=>iO r 9 g.1 λe=>f_ b ((e.add 1).add 0) λs=>f_ b ((e.add 1).add 1) λt=>f_ b ((e.add 1).add 2) λu=>f_ b ((e.add 1).add 3) λv=>f_ b ((e.add 1).add 4) λx=>f_ b ((e.add 1).add 5) λy=>f_ b ((e.add 1).add 6) λz=>Ld .bool b ((e.add 1).add 7) λA=>lM [.int .i64 s,.int .i64 t,.int .i64 u,.int .i64 v,.int .i64 x,.int .i64 y,.int .i64 z,.bool A] b a 0 λc=>f_ c (a.add 0) λB=>f_ c (a.add 1) λC=>f_ c (a.add 2) λD=>f_ c (a.add 3) λE=>f_ c (a.add 4) λF=>f_ c (a.add 5) λG=>f_ c (a.add 6) λH=>Ld .bool c (a.add 7) λI=>K B C D E F G H I true c) (j ((IntKind.i64.wrap (g.1+1)),()) b))) (lM [.int .i64 0,.int .i64 0,.int .i64 0,.int .i64 0,.int .i64 0,.int .i64 0,.int .i64 0,.bool false] b a 0 λd=>f_ d (a.add 0) λJ=>f_ d (a.add 1) λL=>f_ d (a.add 2) λM=>f_ d (a.add 3) λN=>f_ d (a.add 4) λO=>f_ d (a.add 5) λP=>f_ d (a.add 6) λQ=>Ld .bool d (a.add 7) λR=>K J L M N O P Q R false d))) (0,()) i):=okF ji Tryz.func153 (ig (.seq (ig (.blk (.loop [(6,(.int .i64))] .leaf))) .leaf)) (by kernel_rfl)
theorem OA {d h i j w K}:iH (qV d h i j w K)
 (Al w (.cells ⟨[.int .i64 h,.int .i64 i,.int .i64 j]⟩ 80) λe l=>iT (S:=iq×Int×Unit) (λc b m=>Pt d λn=>Ld .slice b (n.add 3) λo=>(cond (decide (c.2.1<(o.len:Int))) (let k:iq->b_:=λp q=>(m (p,(IntKind.i64.wrap (c.2.1+1)),()) q)
 Pt d λr=>Ld .slice b.drew (r.add 3) λs=>iO s 3 c.2.1 λf=>f_ b.drew (f.add 0) λt=>f_ b.drew (f.add 1) λu=>f_ b.drew (f.add 2) λv=>f_ b.drew (e.add 0) λx=>f_ b.drew (e.add 1) λy=>f_ b.drew (e.add 2) λz=>(cond (!((t==x) && ((u==y) && ((v==z) && true)))) (Pt d λA=>Ld .slice b.drew (A.add 3) λB=>iO B 3 c.2.1 λg=>f_ b.drew (g.add 0) λC=>f_ b.drew (g.add 1) λD=>f_ b.drew (g.add 2) λE=>Al b.drew (.cells ⟨[.int .i64 C,.int .i64 D,.int .i64 E]⟩ 80) λF G=>j_ 80 3 24 [(Value.int .i64 0),(Value.int .i64 0),(Value.int .i64 0)] c.1 ⟨(some F),1,1⟩ G λH I=>k H I) (k c.1 b.drew))) (Pt d λJ=>Ld .slice b (J.add 3) λL=>Pt d λM=>St b (M.add 3) (.slice c.1.a c.1.len c.1.cap) λN=>K (decide ((c.1.len:Int)<(L.len:Int))) N))) (⟨none,0,0⟩,0,()) l):=okF ji Tryz.func154 (ig (ig (.seq (ig (.blk (.loop [(5,.slice),(6,(.int .i64))] .leaf))) .leaf))) (by kernel_rfl)
theorem MP {b a w K}:iH (pU b a w K)
 (let c:Bool->Prop:=λe=>((cond e (K 1 w) (Pt b λf=>Ld .slice w f λg=>iO g 1 a λh=>f_ w h λi=>(cond (i==0) (K 8 w) (Pt b λj=>Ld .slice w j λd=>iO d 1 a λk=>f_ w k λl=>iO d 1 a λm=>St w m (.int .i64 (IntKind.i64.wrap (l - 1))) λn=>K 0 n)))))
 (cond (decide (a<0)) (c true) (Pt b λo=>Ld .slice w o λp=>c (decide (a>=(p.len:Int)))))):=okF ji Tryz.func155 .leaf (by kernel_rfl)
theorem OC {d e w K}:iH (qY d e w K)
 (iT (S:=iq×Int×Unit) (λb c g=>Pt d λh=>Ld .slice c h λi=>(cond (decide (b.2.1<(i.len:Int))) (let f:iq->b_:=λj k=>(g (j,(IntKind.i64.wrap (b.2.1+1)),()) k)
 Pt d λl=>Ld .slice c l λm=>iO m 9 b.2.1 λn=>f_ c n λo=>(cond (o !=e) (Pt d λp=>Ld .slice c p λq=>iO q 9 b.2.1 λr=>aj1 c r λs t u v x y z A B=>Al c (.cells ⟨(SI s t u v x y z A B)⟩ 180) λC D=>j_ 180 9 72 (SI 0 0 0 0 0 0 0 0 false) b.1 ⟨(some C),1,1⟩ D λE F=>f E F) (f b.1 c))) (Pt d λG=>Ld .slice c G λH=>Pt d λI=>St c I (.slice b.1.a b.1.len b.1.cap) λJ=>K (decide ((b.1.len:Int)<(H.len:Int))) J))) (⟨none,0,0⟩,0,()) w):=okF ji Tryz.func156 (ig (ig (.seq (ig (.blk (.loop [(5,.slice),(6,(.int .i64))] .leaf))) .leaf))) (by kernel_rfl)
theorem MH {a0 f0 f1 w K}:iH (NG a0 f0 f1 w K)
 (jr a0=true/\
 Al w (.cells ⟨[a0]⟩ 241) λn f=>Ld .ptr f f0 λo=>Pt o λp=>Ld .ptr f (p.add 2) λq=>Bl q f λr e=>F7 Tryz.prog none [.one (.int .i64),.agg [(.int .i64),(.int .i64),(.int .i64),(.int .i64),(.int .i64),(.int .i64),(.int .i64),.bool]] r e (λa d g h=>Al g (.cells ⟨[.int .i64 0,.int .i64 0,.int .i64 0,.int .i64 0,.int .i64 0,.int .i64 0,.int .i64 0,.bool false]⟩ 130) λc s=>lM [.int .i64 d.2.1.1,.int .i64 d.2.1.2.1,.int .i64 d.2.1.2.2.1,.int .i64 d.2.1.2.2.2.1,.int .i64 d.2.1.2.2.2.2.1,.int .i64 d.2.1.2.2.2.2.2.1,.int .i64 d.2.1.2.2.2.2.2.2.1,.bool d.2.1.2.2.2.2.2.2.2.1] s c 0 λb=>b.heap[a]? =g.heap[a]? /\
 let i:Bool->b_:=λt j=>((cond t (h .ret j) (h .normal j)))
 f_ (iD b a) c λu=>f_ (iD b a) f1 λv=>(cond (u==v) (Ld .any (iD b a) n λx=>f_ (iD b a) (c.add 0) λy=>f_ (iD b a) (c.add 1) λz=>f_ (iD b a) (c.add 2) λA=>f_ (iD b a) (c.add 3) λB=>f_ (iD b a) (c.add 4) λC=>f_ (iD b a) (c.add 5) λD=>f_ (iD b a) (c.add 6) λE=>Ld .bool (iD b a) (c.add 7) λF=>lJ Tryz.prog [.one .bool] x [(Value.int .i64 d.1),(Value.agg ⟨[.int .i64 y,.int .i64 z,.int .i64 A,.int .i64 B,.int .i64 C,.int .i64 D,.int .i64 E,.bool F]⟩)] (iD b a) λG H=>∃k:Bool,G=(Value.bool k)/\
 i (!k) H) (i false (iD b a))))
 (λl=>l.heap[e.heap.size]? =some (.deferred (some []))/\
 K (l.putObj e.heap.size (.deferred none)))
 (λm=>m.heap[e.heap.size]? =some (.deferred (some []))/\
 K (m.putObj e.heap.size (.deferred none)))
 []):=okF ji Tryz.func157 (ig (ig (.blk (.rng [.one (.int .i64),.agg [(.int .i64),(.int .i64),(.int .i64),(.int .i64),(.int .i64),(.int .i64),(.int .i64),.bool]] .leaf .leaf)))) (by kernel_rfl)
theorem Qi {b d w K}:iH (o_ b d w K)
 (iT (S:=Int×Unit) (λc a e=>Pt b λf=>Ld .slice a f λg=>(cond (decide (c.1<(g.len:Int))) (Pt b λh=>Ld .slice a h λi=>iO i 1 c.1 λj=>f_ a j λk=>(cond (k==d) (K true a) (e ((IntKind.i64.wrap (c.1+1)),()) a))) (K false a))) (0,()) w):=okF ji Tryz.func232 (ig (.seq (ig (.blk (.loop [(5,(.int .i64))] .leaf))) .leaf)) (by kernel_rfl)
theorem Vr {a w K}:iH (xR a w K)
 (let b:Bool->Prop:=λc=>(K c w)
 (cond (a==1) (b true) (cond (a==6) (b true) (b (a==17))))):=okF ji Tryz.func233 .leaf (by kernel_rfl)
theorem MO {b f g h w K}:iH (pR b f g h w K)
 (Al w (.cells ⟨[.int .i64 f,.int .i64 g,.int .i64 h]⟩ 80) λc i=>iT (S:=Int×Unit) (λd a j=>Pt b λk=>Ld .slice a (k.add 3) λl=>(cond (decide (d.1<(l.len:Int))) (Pt b λm=>Ld .slice a.drew (m.add 3) λn=>iO n 3 d.1 λe=>f_ a.drew (e.add 0) λo=>f_ a.drew (e.add 1) λp=>f_ a.drew (e.add 2) λq=>f_ a.drew (c.add 0) λr=>f_ a.drew (c.add 1) λs=>f_ a.drew (c.add 2) λt=>(cond ((o==r) && ((p==s) && ((q==t) && true))) (K true a.drew) (j ((IntKind.i64.wrap (d.1+1)),()) a.drew))) (K false a))) (0,()) i):=okF ji Tryz.func234 (ig (.seq (ig (.blk (.loop [(5,(.int .i64))] .leaf))) .leaf)) (by kernel_rfl)
theorem Vx {d e f g h i j k l m n o p q r s w K}:iH (FC d e f g h i j k l m n o p q r s w K)
 (Al w (.cells ⟨(jH d e f g h i j k l m n o p q r s)⟩ 28) λa b=>(0:Int)<=12/\12<(16:Int)/\
 Ld (.int .u8) b (a.add (Int.toNat 12 * 1)) λt=>(0:Int)<=13/\13<(16:Int)/\
 Ld (.int .u8) b (a.add (Int.toNat 13 * 1)) λu=>(0:Int)<=14/\14<(16:Int)/\
 Ld (.int .u8) b (a.add (Int.toNat 14 * 1)) λv=>(0:Int)<=15/\15<(16:Int)/\
 Ld (.int .u8) b (a.add (Int.toNat 15 * 1)) λx=>oV b.drew a λy z A B C D E F G H I J L M N O=>sF (IntKind.i64.wrap ((IntKind.i64.wrap ((IntKind.i64.wrap ((IntKind.i64.wrap ((IntKind.i64.wrap t) * 16777216))+(IntKind.i64.wrap ((IntKind.i64.wrap u) * 65536))))+(IntKind.i64.wrap ((IntKind.i64.wrap v) * 256))))+(IntKind.i64.wrap x))) b.drew λP Q R S T U V W X Y Z aa ab ac ad ae c=>CkN (jH y z A B C D E F G H I J L M N O) c a 0 (
 (cond (!((P==y) && ((Q==z) && ((R==A) && ((S==B) && ((T==C) && ((U==D) && ((V==E) && ((W==F) && ((X==G) && ((Y==H) && ((Z==I) && ((aa==J) && ((ab==L) && ((ac==M) && ((ad==N) && ((ae==O) && true))))))))))))))))) (K 0 false c) (K (IntKind.i64.wrap ((IntKind.i64.wrap ((IntKind.i64.wrap ((IntKind.i64.wrap ((IntKind.i64.wrap t) * 16777216))+(IntKind.i64.wrap ((IntKind.i64.wrap u) * 65536))))+(IntKind.i64.wrap ((IntKind.i64.wrap v) * 256))))+(IntKind.i64.wrap x))) true c)))):=okF ji Tryz.func235 .leaf (by kernel_rfl)
theorem Y7 {a b c w K}:iH (vU a b c w K)
 (BO a b c w λd f e=>K d e):=okF ji Tryz.func236 .leaf (by kernel_rfl)
theorem Xc {d e f g h i j k w K}:iH (zI d e f g h i j k w K)
 (Al w (.cells ⟨[.int .i64 d,.int .i64 e,.int .i64 f,.int .i64 g]⟩ 78) λb l=>Al l (.cells ⟨[.int .i64 h,.int .i64 i,.int .i64 j,.int .i64 k]⟩ 78) λc a=>f_ a b λm=>f_ a c λn=>(cond (m !=n) (f_ a b λo=>f_ a c λp=>K (decide (o<p)) a) (f_ a (b.add 1) λq=>f_ a (c.add 1) λr=>(cond (q !=r) (f_ a (b.add 1) λs=>f_ a (c.add 1) λt=>K (decide (s<t)) a) (f_ a (b.add 2) λu=>f_ a (c.add 2) λv=>(cond (u !=v) (f_ a (b.add 2) λx=>f_ a (c.add 2) λy=>K (decide (x<y)) a) (f_ a (b.add 3) λz=>f_ a (c.add 3) λA=>K (decide (z<A)) a))))))):=okF ji Tryz.func237 .leaf (by kernel_rfl)
theorem Y1 {b w K}:iH (yX b w K)
 (iT (S:=Int×Int×Unit) (λa c d=>(cond (decide (a.2.1<b)) (d ((IntKind.i64.wrap (a.1 * 256)),(IntKind.i64.wrap (a.2.1+1)),()) c) (K a.1 c))) (1,0,()) w):=okF ji Tryz.func238 (ig (ig (.seq (ig (.blk (.loop [(3,(.int .i64)),(4,(.int .i64))] .leaf))) .leaf))) (by kernel_rfl)
theorem YZ {d c a w K}:iH (BO d c a w K)
 (let e:Bool->Prop:=λg=>((cond g (K 0 1 w) (cond (decide (c>(IntKind.i64.wrap ((d.len:Int) - a)))) (K 0 3 w) (iT (S:=Int×Int×Unit) (λb f h=>(cond (decide (b.2.1<a)) (iO d 1 (IntKind.i64.wrap (c+b.2.1)) λi=>Ld (.int .u8) f i λj=>h ((IntKind.i64.wrap ((IntKind.i64.wrap (b.1 * 256))+(IntKind.i64.wrap j))),(IntKind.i64.wrap (b.2.1+1)),()) f) (K b.1 0 f))) (0,0,()) w))))
 (cond (decide (a<1)) (e true) (cond (decide (a>4)) (e true) (e (decide (c<0)))))):=okF ji Tryz.func265 (ig (ig (ig (ig (.seq (ig (.blk (.loop [(8,(.int .i64)),(9,(.int .i64))] .leaf))) .leaf))))) (by kernel_rfl)
end Go.Proofs
end
section
namespace Gp.Bind
open Gp.V4
theorem Z8:∀{l m:List Int},l.length=m.length->(∀n∈l,In64 n)->(∀n∈m,In64 n)->keyB l=keyB m->l=m
 |[],[],_,_,_,_=>rfl
 |[],_::_,h,_,_,_=>by simp at h
 |_::_,[],h,_,_,_=>by simp at h
 |a::l,b::m,h,hl,hm,he=>by
  have he:beN 8 (a % 18446744073709551616).toNat++keyB l=beN 8 (b % 18446744073709551616).toNat++keyB m:=he;obtain⟨h1,h2⟩:=List.append_inj he (by simp[lZ]);have h3:=congrArg vY h1;rw[Q8,Q8] at h3;have e:(256:Nat)^8=18446744073709551616:=by decide
  rw[e] at h3;have ha:=hl a (List.mem_cons_self ..);have hb:=hm b (List.mem_cons_self ..);obtain⟨ha1,ha2⟩:=ha;obtain⟨hb1,hb2⟩:=hb;have u:a=b:=by omega
  rw[u,Z8 (by simpa using h) (λn hn=>hl n (List.mem_cons_of_mem _ hn)) (λn hn=>hm n (List.mem_cons_of_mem _ hn)) h2]
theorem aac {l m:List Int} (h:l.length=m.length) (hl:∀n∈l,In64 n) (hm:∀n∈m,In64 n) (he:keyS l=keyS m):l=m:=by
 refine Z8 h hl hm ?_;unfold keyS at he;injection he with he;injection he
theorem JI:∀(S:Slots) (k i:Nat),live k (S.set i none)=(live k S).filter λx=>x.1 !=((k+i:Nat):Int)
 |[],_,_=>by simp[live]
 |c::r,k,0=>by
  have h:∀x∈live (k+1) r,(x.1 !=((k+0:Nat):Int))=true:=by
   rintro⟨v,b⟩ hx;obtain⟨j,_,hj⟩:=lY.1 hx;simp;omega
  have hf:=List.filter_eq_self.2 h
  cases c with
  |none=>rw[List.set_cons_zero,live,hf]
  |some b=>
   rw[List.set_cons_zero,live,live,List.filter_cons_of_neg (by simp),hf]
 |none::r,k,i+1=>by
  rw[List.set_cons_succ,live,live,JI r (k+1) i,show k+1+i=k+(i+1) by omega]
 |some b::r,k,i+1=>by
  rw[List.set_cons_succ,live,live,JI r (k+1) i,show k+1+i=k+(i+1) by omega,List.filter_cons_of_pos (by simp;omega)]
theorem aix {S:Slots} {Mi Mo:ByteArray->Option Int} (h:GoodB S Mi Mo) {q:List Int} (hq:∀n∈q,In64 n) (h4:q.length=4):Mi (keyS q)=((live 0 S).find? λx=>decide (x.2.i=q)).map (·.1):=by
 cases hf:(live 0 S).find? λx=>decide (x.2.i=q) with
 |none=>
  cases hm:Mi (keyS q) with
  |none=>rfl
  |some v=>
   obtain⟨j,b,hj,hk,rfl⟩:=(h.i _ v).1 hm;have:=List.find?_eq_none.1 hf ((j:Int),b) (lY.2 ⟨j,hj,by omega⟩);simp only[decide_eq_true_eq] at this;exact absurd (aac (by rw[h4];rfl) (h.ok j b hj).1 hq hk) this
 |some x=>
  obtain⟨v,b⟩:=x;have hm:=List.mem_of_find?_eq_some hf;have hp:=find?_some hf;simp only[decide_eq_true_eq] at hp;obtain⟨j,hj,hv⟩:=lY.1 hm;exact(h.i _ v).2 ⟨j,b,hj,by rw[hp],by omega⟩
theorem aiy {S:Slots} {Mi Mo:ByteArray->Option Int} (h:GoodB S Mi Mo) {q:List Int} (hq:∀n∈q,In64 n) (h4:q.length=3):Mo (keyS q)=((live 0 S).find? λx=>decide (x.2.o=q)).map (·.1):=by
 cases hf:(live 0 S).find? λx=>decide (x.2.o=q) with
 |none=>
  cases hm:Mo (keyS q) with
  |none=>rfl
  |some v=>
   obtain⟨j,b,hj,hk,rfl⟩:=(h.o _ v).1 hm;have:=List.find?_eq_none.1 hf ((j:Int),b) (lY.2 ⟨j,hj,by omega⟩);simp only[decide_eq_true_eq] at this;exact absurd (aac (by rw[h4];rfl) (h.ok j b hj).2 hq hk) this
 |some x=>
  obtain⟨v,b⟩:=x;have hm:=List.mem_of_find?_eq_some hf;have hp:=find?_some hf;simp only[decide_eq_true_eq] at hp;obtain⟨j,hj,hv⟩:=lY.1 hm;exact(h.o _ v).2 ⟨j,b,hj,by rw[hp],by omega⟩
theorem acG {S:Slots} (id:Int):((live 0 S).find? λx=>x.1==id).map (·.2)=getS S id:=by
 cases hf:(live 0 S).find? λx=>x.1==id with
 |none=>
  cases hg:getS S id with
  |none=>rfl
  |some b=>
   obtain⟨h0,hj⟩:=zh.1 hg;have:=List.find?_eq_none.1 hf (id,b) (lY.2 ⟨id.toNat,hj,by omega⟩);simp at this
 |some x=>
  obtain⟨v,b⟩:=x;have hm:=List.mem_of_find?_eq_some hf;have hp:=find?_some hf;simp only[beq_iff_eq] at hp;obtain⟨j,hj,hv⟩:=lY.1 hm;symm;refine zh.2 ⟨by omega,?_⟩;rw[show id.toNat=j by omega];exact hj
end Gp.Bind
end
