import Derived.Test.YtfndjkoiappemaaGreatW3
import Derived.Test.YtfndjkoiappemaaGreatProg
import Derived.KernelRfl
namespace Go.Proofs
open Gp
set_option maxRecDepth 100000
set_option maxHeartbeats 4000000
theorem iF:QI Tryz.prog:=QI.ac1 (by kernel_rfl) (by kernel_rfl)
abbrev adA:List Kind:=(.int .i64)::(.int .i64)::(.int .i64)::(.int .u8)::(.int .u8)::(.int .u8)::(.int .u8)::(.int .u8)::(.int .u8)::(.int .u8)::(.int .u8)::(.int .u8)::(.int .u8)::(.int .u8)::(.int .u8)::(.int .u8)::(.int .u8)::(.int .u8)::(.int .u8)::(.int .u8)::(.int .u8)::(.int .u8)::(.int .u8)::(.int .u8)::(.int .u8)::(.int .u8)::(.int .u8)::(.int .u8)::(.int .u8)::(.int .u8)::(.int .u8)::(.int .i64)::(.int .i64)::(.int .i64)::(.int .i64)::[]
@[reducible] def O9 (x0 x1 x2 x3 x4 x5 x6 x7 x8 x9 x10 x11 x12 x13 x14 x15 x16 x17 x18 x19 x20 x21 x22 x23 x24 x25 x26 x27 x28 x29 x30 x31 x32 x33 x34:Int):List Value:= .int .i64 x0:: .int .i64 x1:: .int .i64 x2:: .int .u8 x3:: .int .u8 x4:: .int .u8 x5:: .int .u8 x6:: .int .u8 x7:: .int .u8 x8:: .int .u8 x9:: .int .u8 x10:: .int .u8 x11:: .int .u8 x12:: .int .u8 x13:: .int .u8 x14:: .int .u8 x15:: .int .u8 x16:: .int .u8 x17:: .int .u8 x18:: .int .u8 x19:: .int .u8 x20:: .int .u8 x21:: .int .u8 x22:: .int .u8 x23:: .int .u8 x24:: .int .u8 x25:: .int .u8 x26:: .int .u8 x27:: .int .u8 x28:: .int .u8 x29:: .int .u8 x30:: .int .i64 x31:: .int .i64 x32:: .int .i64 x33:: .int .i64 x34::[]
@[reducible] def acj (w:World) (a:Addr) (K:Int->Int->Int->Int->Int->Int->Int->Int->Int->Int->Int->Int->Int->Int->Int->Int->Int->Int->Int->Int->Int->Int->Int->Int->Int->Int->Int->Int->Int->Int->Int->Int->Int->Int->Int->Prop):Prop:=Ld (.int .i64) w (a.add 0) fun x0=>Ld (.int .i64) w (a.add 1) fun x1=>Ld (.int .i64) w (a.add 2) fun x2=>Ld (.int .u8) w (a.add 3) fun x3=>Ld (.int .u8) w (a.add 4) fun x4=>Ld (.int .u8) w (a.add 5) fun x5=>Ld (.int .u8) w (a.add 6) fun x6=>Ld (.int .u8) w (a.add 7) fun x7=>Ld (.int .u8) w (a.add 8) fun x8=>Ld (.int .u8) w (a.add 9) fun x9=>Ld (.int .u8) w (a.add 10) fun x10=>Ld (.int .u8) w (a.add 11) fun x11=>Ld (.int .u8) w (a.add 12) fun x12=>Ld (.int .u8) w (a.add 13) fun x13=>Ld (.int .u8) w (a.add 14) fun x14=>Ld (.int .u8) w (a.add 15) fun x15=>Ld (.int .u8) w (a.add 16) fun x16=>Ld (.int .u8) w (a.add 17) fun x17=>Ld (.int .u8) w (a.add 18) fun x18=>Ld (.int .u8) w (a.add 19) fun x19=>Ld (.int .u8) w (a.add 20) fun x20=>Ld (.int .u8) w (a.add 21) fun x21=>Ld (.int .u8) w (a.add 22) fun x22=>Ld (.int .u8) w (a.add 23) fun x23=>Ld (.int .u8) w (a.add 24) fun x24=>Ld (.int .u8) w (a.add 25) fun x25=>Ld (.int .u8) w (a.add 26) fun x26=>Ld (.int .u8) w (a.add 27) fun x27=>Ld (.int .u8) w (a.add 28) fun x28=>Ld (.int .u8) w (a.add 29) fun x29=>Ld (.int .u8) w (a.add 30) fun x30=>Ld (.int .i64) w (a.add 31) fun x31=>Ld (.int .i64) w (a.add 32) fun x32=>Ld (.int .i64) w (a.add 33) fun x33=>Ld (.int .i64) w (a.add 34) fun x34=>K x0 x1 x2 x3 x4 x5 x6 x7 x8 x9 x10 x11 x12 x13 x14 x15 x16 x17 x18 x19 x20 x21 x22 x23 x24 x25 x26 x27 x28 x29 x30 x31 x32 x33 x34
abbrev adG:List Kind:=(.int .u8)::(.int .u8)::(.int .u8)::(.int .u8)::(.int .u8)::(.int .u8)::(.int .u8)::(.int .u8)::(.int .u8)::(.int .u8)::(.int .u8)::(.int .u8)::(.int .u8)::(.int .u8)::(.int .u8)::(.int .u8):: .slice:: .slice::(.int .i64)::(.int .i64)::(.int .i64)::(.int .i64)::(.int .i64)::(.int .i64)::(.int .i64)::(.int .i64)::(.int .i64)::(.int .i64)::(.int .i64)::(.int .i64)::(.int .i64)::(.int .i64)::(.int .i64)::(.int .i64)::(.int .i64):: .slice::[]
@[reducible] def jh (x0 x1 x2 x3 x4 x5 x6 x7 x8 x9 x10 x11 x12 x13 x14 x15:Int) (x16 x17:b_) (x18 x19 x20 x21 x22 x23 x24 x25 x26 x27 x28 x29 x30 x31 x32 x33 x34:Int) (x35:b_):List Value:= .int .u8 x0:: .int .u8 x1:: .int .u8 x2:: .int .u8 x3:: .int .u8 x4:: .int .u8 x5:: .int .u8 x6:: .int .u8 x7:: .int .u8 x8:: .int .u8 x9:: .int .u8 x10:: .int .u8 x11:: .int .u8 x12:: .int .u8 x13:: .int .u8 x14:: .int .u8 x15:: .slice x16.a x16.len x16.cap:: .slice x17.a x17.len x17.cap:: .int .i64 x18:: .int .i64 x19:: .int .i64 x20:: .int .i64 x21:: .int .i64 x22:: .int .i64 x23:: .int .i64 x24:: .int .i64 x25:: .int .i64 x26:: .int .i64 x27:: .int .i64 x28:: .int .i64 x29:: .int .i64 x30:: .int .i64 x31:: .int .i64 x32:: .int .i64 x33:: .int .i64 x34:: .slice x35.a x35.len x35.cap::[]
@[reducible] def vF (w:World) (a:Addr) (K:Int->Int->Int->Int->Int->Int->Int->Int->Int->Int->Int->Int->Int->Int->Int->Int->b_->b_->Int->Int->Int->Int->Int->Int->Int->Int->Int->Int->Int->Int->Int->Int->Int->Int->Int->b_->Prop):Prop:=Ld (.int .u8) w (a.add 0) fun x0=>Ld (.int .u8) w (a.add 1) fun x1=>Ld (.int .u8) w (a.add 2) fun x2=>Ld (.int .u8) w (a.add 3) fun x3=>Ld (.int .u8) w (a.add 4) fun x4=>Ld (.int .u8) w (a.add 5) fun x5=>Ld (.int .u8) w (a.add 6) fun x6=>Ld (.int .u8) w (a.add 7) fun x7=>Ld (.int .u8) w (a.add 8) fun x8=>Ld (.int .u8) w (a.add 9) fun x9=>Ld (.int .u8) w (a.add 10) fun x10=>Ld (.int .u8) w (a.add 11) fun x11=>Ld (.int .u8) w (a.add 12) fun x12=>Ld (.int .u8) w (a.add 13) fun x13=>Ld (.int .u8) w (a.add 14) fun x14=>Ld (.int .u8) w (a.add 15) fun x15=>Ld .slice w (a.add 16) fun x16=>Ld .slice w (a.add 17) fun x17=>Ld (.int .i64) w (a.add 18) fun x18=>Ld (.int .i64) w (a.add 19) fun x19=>Ld (.int .i64) w (a.add 20) fun x20=>Ld (.int .i64) w (a.add 21) fun x21=>Ld (.int .i64) w (a.add 22) fun x22=>Ld (.int .i64) w (a.add 23) fun x23=>Ld (.int .i64) w (a.add 24) fun x24=>Ld (.int .i64) w (a.add 25) fun x25=>Ld (.int .i64) w (a.add 26) fun x26=>Ld (.int .i64) w (a.add 27) fun x27=>Ld (.int .i64) w (a.add 28) fun x28=>Ld (.int .i64) w (a.add 29) fun x29=>Ld (.int .i64) w (a.add 30) fun x30=>Ld (.int .i64) w (a.add 31) fun x31=>Ld (.int .i64) w (a.add 32) fun x32=>Ld (.int .i64) w (a.add 33) fun x33=>Ld (.int .i64) w (a.add 34) fun x34=>Ld .slice w (a.add 35) fun x35=>K x0 x1 x2 x3 x4 x5 x6 x7 x8 x9 x10 x11 x12 x13 x14 x15 x16 x17 x18 x19 x20 x21 x22 x23 x24 x25 x26 x27 x28 x29 x30 x31 x32 x33 x34 x35
@[reducible] def adl (x0 x1 x2 x3 x4:Option Addr) (x5 x6 x7 x8 x9 x10 x11 x12 x13 x14 x15 x16 x17 x18 x19 x20:Int) (x21 x22:b_) (x23 x24 x25 x26 x27 x28 x29 x30 x31 x32 x33 x34 x35 x36 x37 x38 x39:Int) (x40:b_) (x41:Int):List Value:= .pointer x0:: .pointer x1:: .pointer x2:: .pointer x3:: .pointer x4:: .int .u8 x5:: .int .u8 x6:: .int .u8 x7:: .int .u8 x8:: .int .u8 x9:: .int .u8 x10:: .int .u8 x11:: .int .u8 x12:: .int .u8 x13:: .int .u8 x14:: .int .u8 x15:: .int .u8 x16:: .int .u8 x17:: .int .u8 x18:: .int .u8 x19:: .int .u8 x20:: .slice x21.a x21.len x21.cap:: .slice x22.a x22.len x22.cap:: .int .i64 x23:: .int .i64 x24:: .int .i64 x25:: .int .i64 x26:: .int .i64 x27:: .int .i64 x28:: .int .i64 x29:: .int .i64 x30:: .int .i64 x31:: .int .i64 x32:: .int .i64 x33:: .int .i64 x34:: .int .i64 x35:: .int .i64 x36:: .int .i64 x37:: .int .i64 x38:: .int .i64 x39:: .slice x40.a x40.len x40.cap:: .int .i64 x41::[]
@[reducible] def adW (x0 x1 x2 x3 x4 x5 x6 x7 x8 x9 x10 x11 x12 x13 x14 x15 x16 x17 x18 x19 x20 x21 x22 x23 x24 x25 x26 x27 x28 x29 x30 x31:Int):List Value:= .int .u8 x0:: .int .u8 x1:: .int .u8 x2:: .int .u8 x3:: .int .u8 x4:: .int .u8 x5:: .int .u8 x6:: .int .u8 x7:: .int .u8 x8:: .int .u8 x9:: .int .u8 x10:: .int .u8 x11:: .int .u8 x12:: .int .u8 x13:: .int .u8 x14:: .int .u8 x15:: .int .u8 x16:: .int .u8 x17:: .int .u8 x18:: .int .u8 x19:: .int .u8 x20:: .int .u8 x21:: .int .u8 x22:: .int .u8 x23:: .int .u8 x24:: .int .u8 x25:: .int .u8 x26:: .int .u8 x27:: .int .u8 x28:: .int .u8 x29:: .int .u8 x30:: .int .u8 x31::[]
abbrev Uz:List Kind:=(.int .i64)::(.int .u8)::(.int .u8)::(.int .u8)::(.int .u8)::(.int .u8)::(.int .u8)::(.int .u8)::(.int .u8)::(.int .u8)::(.int .u8)::(.int .u8)::(.int .u8)::(.int .u8)::(.int .u8)::(.int .u8)::(.int .u8)::(.int .u8)::(.int .u8)::(.int .u8)::(.int .u8)::(.int .u8)::(.int .u8)::(.int .u8)::(.int .u8)::(.int .u8)::(.int .u8)::(.int .u8)::(.int .u8)::(.int .i64)::(.int .i64)::(.int .i64)::(.int .i64)::[]
@[reducible] def iK (x0 x1 x2 x3 x4 x5 x6 x7 x8 x9 x10 x11 x12 x13 x14 x15 x16 x17 x18 x19 x20 x21 x22 x23 x24 x25 x26 x27 x28 x29 x30 x31 x32:Int):List Value:= .int .i64 x0:: .int .u8 x1:: .int .u8 x2:: .int .u8 x3:: .int .u8 x4:: .int .u8 x5:: .int .u8 x6:: .int .u8 x7:: .int .u8 x8:: .int .u8 x9:: .int .u8 x10:: .int .u8 x11:: .int .u8 x12:: .int .u8 x13:: .int .u8 x14:: .int .u8 x15:: .int .u8 x16:: .int .u8 x17:: .int .u8 x18:: .int .u8 x19:: .int .u8 x20:: .int .u8 x21:: .int .u8 x22:: .int .u8 x23:: .int .u8 x24:: .int .u8 x25:: .int .u8 x26:: .int .u8 x27:: .int .u8 x28:: .int .i64 x29:: .int .i64 x30:: .int .i64 x31:: .int .i64 x32::[]
@[reducible] def jF (w:World) (a:Addr) (K:Int->Int->Int->Int->Int->Int->Int->Int->Int->Int->Int->Int->Int->Int->Int->Int->Int->Int->Int->Int->Int->Int->Int->Int->Int->Int->Int->Int->Int->Int->Int->Int->Int->Prop):Prop:=Ld (.int .i64) w (a.add 0) fun x0=>Ld (.int .u8) w (a.add 1) fun x1=>Ld (.int .u8) w (a.add 2) fun x2=>Ld (.int .u8) w (a.add 3) fun x3=>Ld (.int .u8) w (a.add 4) fun x4=>Ld (.int .u8) w (a.add 5) fun x5=>Ld (.int .u8) w (a.add 6) fun x6=>Ld (.int .u8) w (a.add 7) fun x7=>Ld (.int .u8) w (a.add 8) fun x8=>Ld (.int .u8) w (a.add 9) fun x9=>Ld (.int .u8) w (a.add 10) fun x10=>Ld (.int .u8) w (a.add 11) fun x11=>Ld (.int .u8) w (a.add 12) fun x12=>Ld (.int .u8) w (a.add 13) fun x13=>Ld (.int .u8) w (a.add 14) fun x14=>Ld (.int .u8) w (a.add 15) fun x15=>Ld (.int .u8) w (a.add 16) fun x16=>Ld (.int .u8) w (a.add 17) fun x17=>Ld (.int .u8) w (a.add 18) fun x18=>Ld (.int .u8) w (a.add 19) fun x19=>Ld (.int .u8) w (a.add 20) fun x20=>Ld (.int .u8) w (a.add 21) fun x21=>Ld (.int .u8) w (a.add 22) fun x22=>Ld (.int .u8) w (a.add 23) fun x23=>Ld (.int .u8) w (a.add 24) fun x24=>Ld (.int .u8) w (a.add 25) fun x25=>Ld (.int .u8) w (a.add 26) fun x26=>Ld (.int .u8) w (a.add 27) fun x27=>Ld (.int .u8) w (a.add 28) fun x28=>Ld (.int .i64) w (a.add 29) fun x29=>Ld (.int .i64) w (a.add 30) fun x30=>Ld (.int .i64) w (a.add 31) fun x31=>Ld (.int .i64) w (a.add 32) fun x32=>K x0 x1 x2 x3 x4 x5 x6 x7 x8 x9 x10 x11 x12 x13 x14 x15 x16 x17 x18 x19 x20 x21 x22 x23 x24 x25 x26 x27 x28 x29 x30 x31 x32
abbrev Nw:List Kind:=(.int .u8)::(.int .u8)::(.int .u8)::(.int .u8)::(.int .u8)::(.int .u8)::(.int .u8)::(.int .u8)::(.int .u8)::(.int .u8)::(.int .u8)::(.int .u8)::(.int .u8)::(.int .u8)::(.int .u8)::(.int .u8)::[]
@[reducible] def iM (x0 x1 x2 x3 x4 x5 x6 x7 x8 x9 x10 x11 x12 x13 x14 x15:Int):List Value:= .int .u8 x0:: .int .u8 x1:: .int .u8 x2:: .int .u8 x3:: .int .u8 x4:: .int .u8 x5:: .int .u8 x6:: .int .u8 x7:: .int .u8 x8:: .int .u8 x9:: .int .u8 x10:: .int .u8 x11:: .int .u8 x12:: .int .u8 x13:: .int .u8 x14:: .int .u8 x15::[]
@[reducible] def nY (w:World) (a:Addr) (K:Int->Int->Int->Int->Int->Int->Int->Int->Int->Int->Int->Int->Int->Int->Int->Int->Prop):Prop:=Ld (.int .u8) w (a.add 0) fun x0=>Ld (.int .u8) w (a.add 1) fun x1=>Ld (.int .u8) w (a.add 2) fun x2=>Ld (.int .u8) w (a.add 3) fun x3=>Ld (.int .u8) w (a.add 4) fun x4=>Ld (.int .u8) w (a.add 5) fun x5=>Ld (.int .u8) w (a.add 6) fun x6=>Ld (.int .u8) w (a.add 7) fun x7=>Ld (.int .u8) w (a.add 8) fun x8=>Ld (.int .u8) w (a.add 9) fun x9=>Ld (.int .u8) w (a.add 10) fun x10=>Ld (.int .u8) w (a.add 11) fun x11=>Ld (.int .u8) w (a.add 12) fun x12=>Ld (.int .u8) w (a.add 13) fun x13=>Ld (.int .u8) w (a.add 14) fun x14=>Ld (.int .u8) w (a.add 15) fun x15=>K x0 x1 x2 x3 x4 x5 x6 x7 x8 x9 x10 x11 x12 x13 x14 x15
@[reducible] def OB (x0 x1 x2 x3 x4 x5 x6:Int) (x7 x8:Bool):List Value:= .int .i64 x0:: .int .i64 x1:: .int .i64 x2:: .int .i64 x3:: .int .i64 x4:: .int .i64 x5:: .int .i64 x6:: .bool x7:: .bool x8::[]
@[reducible] def ace (w:World) (a:Addr) (K:Int->Int->Int->Int->Int->Int->Int->Bool->Bool->Prop):Prop:=Ld (.int .i64) w (a.add 0) fun x0=>Ld (.int .i64) w (a.add 1) fun x1=>Ld (.int .i64) w (a.add 2) fun x2=>Ld (.int .i64) w (a.add 3) fun x3=>Ld (.int .i64) w (a.add 4) fun x4=>Ld (.int .i64) w (a.add 5) fun x5=>Ld (.int .i64) w (a.add 6) fun x6=>Ld .bool w (a.add 7) fun x7=>Ld .bool w (a.add 8) fun x8=>K x0 x1 x2 x3 x4 x5 x6 x7 x8
@[reducible] def acr (x0 x1 x2 x3 x4 x5 x6 x7 x8 x9:Int):List Value:= .int .i64 x0:: .int .i64 x1:: .int .i64 x2:: .int .i64 x3:: .int .i64 x4:: .int .i64 x5:: .int .i64 x6:: .int .i64 x7:: .int .i64 x8:: .int .i64 x9::[]
@[reducible] def adT (x0 x1 x2 x3 x4 x5 x6 x7 x8 x9 x10 x11 x12 x13 x14 x15 x16 x17 x18 x19 x20 x21 x22 x23 x24 x25 x26 x27 x28 x29 x30 x31 x32 x33 x34 x35 x36 x37 x38 x39 x40 x41 x42 x43 x44 x45 x46 x47 x48 x49 x50 x51 x52 x53 x54 x55 x56:Int):List Value:= .int .i64 x0:: .int .i64 x1:: .int .i64 x2:: .int .i64 x3:: .int .i64 x4:: .int .i64 x5:: .int .i64 x6:: .int .i64 x7:: .int .i64 x8:: .int .i64 x9:: .int .i64 x10:: .int .i64 x11:: .int .i64 x12:: .int .i64 x13:: .int .i64 x14:: .int .i64 x15:: .int .i64 x16:: .int .i64 x17:: .int .i64 x18:: .int .i64 x19:: .int .i64 x20:: .int .i64 x21:: .int .i64 x22:: .int .i64 x23:: .int .i64 x24:: .int .i64 x25:: .int .i64 x26:: .int .i64 x27:: .int .i64 x28:: .int .i64 x29:: .int .i64 x30:: .int .i64 x31:: .int .i64 x32:: .int .i64 x33:: .int .i64 x34:: .int .i64 x35:: .int .i64 x36:: .int .i64 x37:: .int .i64 x38:: .int .i64 x39:: .int .i64 x40:: .int .i64 x41:: .int .i64 x42:: .int .i64 x43:: .int .i64 x44:: .int .i64 x45:: .int .i64 x46:: .int .i64 x47:: .int .i64 x48:: .int .i64 x49:: .int .i64 x50:: .int .i64 x51:: .int .i64 x52:: .int .i64 x53:: .int .i64 x54:: .int .i64 x55:: .int .i64 x56::[]
@[reducible] def adF (x0 x1 x2 x3 x4 x5 x6 x7 x8:Int):List Value:= .int .i64 x0:: .int .i64 x1:: .int .i64 x2:: .int .i64 x3:: .int .i64 x4:: .int .i64 x5:: .int .i64 x6:: .int .i64 x7:: .int .i64 x8::[]
def Bj (A0 A1 A2 A3 A4 A5 A6 A7 A8 A9 A10 A11 A12 A13 A14 A15:Int) (A16 A17:b_) (A18 A19 A20 A21 A22 A23 A24 A25 A26 A27 A28 A29 A30 A31 A32 A33 A34:Int) (A35 a1:b_) (w:World) (K:Bool->World->Prop):Prop:=
 d_ Tryz.prog 4 [.agg ⟨jh A0 A1 A2 A3 A4 A5 A6 A7 A8 A9 A10 A11 A12 A13 A14 A15 A16 A17 A18 A19 A20 A21 A22 A23 A24 A25 A26 A27 A28 A29 A30 A31 A32 A33 A34 A35⟩,.slice a1.a a1.len a1.cap] [.one .bool] w K
def zO (A0 A1 A2 A3 A4 A5 A6 A7 A8 A9 A10 A11 A12 A13 A14 A15:Int) (A16 A17:b_) (A18 A19 A20 A21 A22 A23 A24 A25 A26 A27 A28 A29 A30 A31 A32 A33 A34:Int) (A35:b_) (w:World) (K:(Option Addr)->Int->World->Prop):Prop:=
 d_ Tryz.prog 6 [.agg ⟨jh A0 A1 A2 A3 A4 A5 A6 A7 A8 A9 A10 A11 A12 A13 A14 A15 A16 A17 A18 A19 A20 A21 A22 A23 A24 A25 A26 A27 A28 A29 A30 A31 A32 A33 A34 A35⟩] [.one .ptr,.one (.int .i64)] w K
def rC (w:World) (K:Int->Int->Int->Int->Int->Int->Int->Int->Int->Int->Int->Int->Int->Int->Int->Int->b_->b_->Int->Int->Int->Int->Int->Int->Int->Int->Int->Int->Int->Int->Int->Int->Int->Int->Int->b_->World->Prop):Prop:=
 d_ Tryz.prog 7 [] [.agg adG] w K
theorem P_ {w K K'}:rC w K->(∀x0 x1 x2 x3 x4 x5 x6 x7 x8 x9 x10 x11 x12 x13 x14 x15 x16 x17 x18 x19 x20 x21 x22 x23 x24 x25 x26 x27 x28 x29 x30 x31 x32 x33 x34 x35 w,K x0 x1 x2 x3 x4 x5 x6 x7 x8 x9 x10 x11 x12 x13 x14 x15 x16 x17 x18 x19 x20 x21 x22 x23 x24 x25 x26 x27 x28 x29 x30 x31 x32 x33 x34 x35 w->K' x0 x1 x2 x3 x4 x5 x6 x7 x8 x9 x10 x11 x12 x13 x14 x15 x16 x17 x18 x19 x20 x21 x22 x23 x24 x25 x26 x27 x28 x29 x30 x31 x32 x33 x34 x35 w)->rC w K':=d_.mono
def uJ (a0:Option Addr) (a1:Int) (w:World) (K:(Option Addr)->Int->World->Prop):Prop:=
 d_ Tryz.prog 8 [.pointer a0,.int .i64 a1] [.one .ptr,.one (.int .i64)] w K
theorem L9 {a0 a1 w K K'}:uJ a0 a1 w K->(∀x0 x1 w,K x0 x1 w->K' x0 x1 w)->uJ a0 a1 w K':=d_.mono
def lC (w:World) (K:Bool->World->Prop):Prop:=
 d_ Tryz.prog 9 [] [.one .bool] w K
theorem zK {w K K'}:lC w K->(∀x0 w,K x0 w->K' x0 w)->lC w K':=d_.mono
def kW (a0:Option Addr) (a1 a2:Int) (a3:b_) (w:World) (K:b_->Int->World->Prop):Prop:=
 d_ Tryz.prog 10 [.pointer a0,.int .i64 a1,.int .i64 a2,.slice a3.a a3.len a3.cap] [.one .slice,.one (.int .i64)] w K
def xO (a0 a1 a2 a3 a4:Int) (w:World) (K:b_->World->Prop):Prop:=
 d_ Tryz.prog 11 [.int .i64 a0,.int .i64 a1,.int .i64 a2,.int .i64 a3,.int .i64 a4] [.one .slice] w K
theorem Sv {a0 a1 a2 a3 a4 w K K'}:xO a0 a1 a2 a3 a4 w K->(∀x0 w,K x0 w->K' x0 w)->xO a0 a1 a2 a3 a4 w K':=d_.mono
def iW (a0:Option Addr) (a1:Int) (w:World) (K:Int->World->Prop):Prop:=
 d_ Tryz.prog 12 [.pointer a0,.int .i64 a1] [.one (.int .i64)] w K
theorem vw {a0 a1 w K K'}:iW a0 a1 w K->(∀x0 w,K x0 w->K' x0 w)->iW a0 a1 w K':=d_.mono
def ku (a0:Option Addr) (w:World) (K:Int->b_->b_->Int->Int->Int->b_->World->Prop):Prop:=
 d_ Tryz.prog 13 [.pointer a0] [.agg [(.int .i64),.slice,.slice,(.int .i64),(.int .i64),(.int .i64),.slice]] w K
def CB (a0:b_) (w:World) (K:Int->Int->Int->Int->Int->Int->Int->Int->Int->Int->Int->Int->Int->Int->Int->Int->Int->Int->Int->Int->Int->Int->Int->Int->Int->Int->Int->Int->Int->Int->Int->Int->Int->Int->Int->Int->World->Prop):Prop:=
 d_ Tryz.prog 14 [.slice a0.a a0.len a0.cap] [.agg adA,.one (.int .i64)] w K
def AP (A0 A1 A2 A3 A4 A5 A6 A7 A8 A9 A10 A11 A12 A13 A14 A15:Int) (A16 A17:b_) (A18 A19 A20 A21 A22 A23 A24 A25 A26 A27 A28 A29 A30 A31 A32 A33 A34:Int) (A35:b_) (w:World) (K:Bool->World->Prop):Prop:=
 d_ Tryz.prog 15 [.agg ⟨jh A0 A1 A2 A3 A4 A5 A6 A7 A8 A9 A10 A11 A12 A13 A14 A15 A16 A17 A18 A19 A20 A21 A22 A23 A24 A25 A26 A27 A28 A29 A30 A31 A32 A33 A34 A35⟩] [.one .bool] w K
def qN (a0:Option Addr) (w:World) (K:Value->World->Prop):Prop:=
 d_ Tryz.prog 16 [.pointer a0] [.one .any] w K
def qM (A0 A1 A2 A3 A4 A5 A6 A7 A8 A9 A10 A11 A12 A13 A14 A15:Int) (A16 A17:b_) (A18 A19 A20 A21 A22 A23 A24 A25 A26 A27 A28 A29 A30 A31 A32 A33 A34:Int) (A35:b_) (w:World) (K:Int->World->Prop):Prop:=
 d_ Tryz.prog 29 [.agg ⟨jh A0 A1 A2 A3 A4 A5 A6 A7 A8 A9 A10 A11 A12 A13 A14 A15 A16 A17 A18 A19 A20 A21 A22 A23 A24 A25 A26 A27 A28 A29 A30 A31 A32 A33 A34 A35⟩] [.one (.int .i64)] w K
theorem MV {A0 A1 A2 A3 A4 A5 A6 A7 A8 A9 A10 A11 A12 A13 A14 A15 A16 A17 A18 A19 A20 A21 A22 A23 A24 A25 A26 A27 A28 A29 A30 A31 A32 A33 A34 A35 w K K'}:qM A0 A1 A2 A3 A4 A5 A6 A7 A8 A9 A10 A11 A12 A13 A14 A15 A16 A17 A18 A19 A20 A21 A22 A23 A24 A25 A26 A27 A28 A29 A30 A31 A32 A33 A34 A35 w K->(∀x0 w,K x0 w->K' x0 w)->qM A0 A1 A2 A3 A4 A5 A6 A7 A8 A9 A10 A11 A12 A13 A14 A15 A16 A17 A18 A19 A20 A21 A22 A23 A24 A25 A26 A27 A28 A29 A30 A31 A32 A33 A34 A35 w K':=d_.mono
def zu (a0:b_) (a1 a2:Int) (w:World) (K:(Option Addr)->Int->World->Prop):Prop:=
 d_ Tryz.prog 30 [.slice a0.a a0.len a0.cap,.int .i64 a1,.int .i64 a2] [.one .ptr,.one (.int .i64)] w K
theorem UE {a0 a1 a2 w K K'}:zu a0 a1 a2 w K->(∀x0 x1 w,K x0 x1 w->K' x0 x1 w)->zu a0 a1 a2 w K':=d_.mono
def xE (a0 a1:Int) (w:World) (K:(Option Addr)->Int->World->Prop):Prop:=
 d_ Tryz.prog 31 [.int .i64 a0,.int .i64 a1] [.one .ptr,.one (.int .i64)] w K
theorem TI {a0 a1 w K K'}:xE a0 a1 w K->(∀x0 x1 w,K x0 x1 w->K' x0 x1 w)->xE a0 a1 w K':=d_.mono
def zS (a0:Int) (w:World) (K:(Option Addr)->Int->World->Prop):Prop:=
 d_ Tryz.prog 32 [.int .i64 a0] [.one .ptr,.one (.int .i64)] w K
theorem Vk {a0 w K K'}:zS a0 w K->(∀x0 x1 w,K x0 x1 w->K' x0 x1 w)->zS a0 w K':=d_.mono
def tY (a0:Int) (w:World) (K:(Option Addr)->Int->World->Prop):Prop:=
 d_ Tryz.prog 33 [.int .i64 a0] [.one .ptr,.one (.int .i64)] w K
theorem NG {a0 w K K'}:tY a0 w K->(∀x0 x1 w,K x0 x1 w->K' x0 x1 w)->tY a0 w K':=d_.mono
def uT (a0:Int) (w:World) (K:(Option Addr)->Int->World->Prop):Prop:=
 d_ Tryz.prog 34 [.int .i64 a0] [.one .ptr,.one (.int .i64)] w K
theorem I5 {a0 w K K'}:uT a0 w K->(∀x0 x1 w,K x0 x1 w->K' x0 x1 w)->uT a0 w K':=d_.mono
def kL (a0:Option Addr) (B0 B1 B2 B3 B4 B5 B6:Int) (w:World) (K:Int->World->Prop):Prop:=
 d_ Tryz.prog 35 [.pointer a0,(.agg ⟨[.int .i64 B0,.int .i64 B1,.int .i64 B2,.int .i64 B3,.int .i64 B4,.int .i64 B5,.int .i64 B6]⟩)] [.one (.int .i64)] w K
theorem zN {a0 B0 B1 B2 B3 B4 B5 B6 w K K'}:kL a0 B0 B1 B2 B3 B4 B5 B6 w K->(∀x0 w,K x0 w->K' x0 w)->kL a0 B0 B1 B2 B3 B4 B5 B6 w K':=d_.mono
def uK (a0:b_) (w:World) (K:Int->Int->Int->Int->Int->Int->Int->Int->Int->Int->Int->Int->Int->Int->Int->Int->World->Prop):Prop:=
 d_ Tryz.prog 36 [.slice a0.a a0.len a0.cap] [.agg Nw] w K
theorem DZ {a0 w K K'}:uK a0 w K->(∀x0 x1 x2 x3 x4 x5 x6 x7 x8 x9 x10 x11 x12 x13 x14 x15 w,K x0 x1 x2 x3 x4 x5 x6 x7 x8 x9 x10 x11 x12 x13 x14 x15 w->K' x0 x1 x2 x3 x4 x5 x6 x7 x8 x9 x10 x11 x12 x13 x14 x15 w)->uK a0 w K':=d_.mono
def mX (a0:Option Addr) (w:World) (K:Int->World->Prop):Prop:=
 d_ Tryz.prog 37 [.pointer a0] [.one (.int .i64)] w K
theorem Hw {a0 w K K'}:mX a0 w K->(∀x0 w,K x0 w->K' x0 w)->mX a0 w K':=d_.mono
def jm (a0:Option Addr) (a1:Int) (w:World) (K:b_->World->Prop):Prop:=
 d_ Tryz.prog 38 [.pointer a0,.int .i64 a1] [.one .slice] w K
theorem vM {a0 a1 w K K'}:jm a0 a1 w K->(∀x0 w,K x0 w->K' x0 w)->jm a0 a1 w K':=d_.mono
def ji (a0:Option Addr) (w:World) (K:Bool->World->Prop):Prop:=
 d_ Tryz.prog 39 [.pointer a0] [.one .bool] w K
theorem qO {a0 w K K'}:ji a0 w K->(∀x0 w,K x0 w->K' x0 w)->ji a0 w K':=d_.mono
def D_ (a0:b_) (w:World) (K:Int->Int->Int->Int->Int->Int->Int->Int->Int->Int->Int->Int->Int->Int->Int->Int->Int->Int->Int->Int->Int->Int->Int->Int->Int->Int->Int->Int->Int->Int->Int->Int->Int->Int->World->Prop):Prop:=
 d_ Tryz.prog 40 [.slice a0.a a0.len a0.cap] [.agg Uz,.one (.int .i64)] w K
def u_ (a0:Int) (w:World) (K:Int->Int->Int->Int->Int->Int->Int->Int->Int->Int->Int->Int->Int->Int->Int->Int->World->Prop):Prop:=
 d_ Tryz.prog 41 [.int .i64 a0] [.agg Nw] w K
def vk (a0:Option Addr) (B0 B1 B2 B3 C0 C1 C2 C3 C4 C5 C6 C7 C8 C9 C10 C11 C12 C13 C14 C15 C16 C17 C18 C19 C20 C21 C22 C23 C24 C25 C26 C27 C28 C29 C30 C31 C32:Int) (w:World) (K:Int->Int->Int->Int->Int->Int->Int->Int->Int->Int->Int->Int->Int->Int->Int->Int->Int->Int->Int->Int->Int->Int->Int->Int->Int->Int->Int->Int->Int->Int->Int->Int->Int->Int->World->Prop):Prop:=
 d_ Tryz.prog 42 [.pointer a0,(.agg ⟨[.int .i64 B0,.int .i64 B1,.int .i64 B2,.int .i64 B3]⟩),.agg ⟨iK C0 C1 C2 C3 C4 C5 C6 C7 C8 C9 C10 C11 C12 C13 C14 C15 C16 C17 C18 C19 C20 C21 C22 C23 C24 C25 C26 C27 C28 C29 C30 C31 C32⟩] [.one (.int .i64),.agg Uz] w K
def rU (A0 A1 A2 A3 A4 A5 A6 A7 A8 A9 A10 A11 A12 A13 A14 A15 A16 A17 A18 A19 A20 A21 A22 A23 A24 A25 A26 A27 A28 A29 A30 A31 A32 A33 A34:Int) (w:World) (K:b_->Int->World->Prop):Prop:=
 d_ Tryz.prog 43 [.agg ⟨O9 A0 A1 A2 A3 A4 A5 A6 A7 A8 A9 A10 A11 A12 A13 A14 A15 A16 A17 A18 A19 A20 A21 A22 A23 A24 A25 A26 A27 A28 A29 A30 A31 A32 A33 A34⟩] [.one .slice,.one (.int .i64)] w K
theorem Qr {A0 A1 A2 A3 A4 A5 A6 A7 A8 A9 A10 A11 A12 A13 A14 A15 A16 A17 A18 A19 A20 A21 A22 A23 A24 A25 A26 A27 A28 A29 A30 A31 A32 A33 A34 w K K'}:rU A0 A1 A2 A3 A4 A5 A6 A7 A8 A9 A10 A11 A12 A13 A14 A15 A16 A17 A18 A19 A20 A21 A22 A23 A24 A25 A26 A27 A28 A29 A30 A31 A32 A33 A34 w K->(∀x0 x1 w,K x0 x1 w->K' x0 x1 w)->rU A0 A1 A2 A3 A4 A5 A6 A7 A8 A9 A10 A11 A12 A13 A14 A15 A16 A17 A18 A19 A20 A21 A22 A23 A24 A25 A26 A27 A28 A29 A30 A31 A32 A33 A34 w K':=d_.mono
def xM (A0 A1 A2 A3 A4 A5 A6 A7 A8 A9 A10 A11 A12 A13 A14 A15 A16 A17 A18 A19 A20 A21 A22 A23 A24 A25 A26 A27 A28 A29 A30 A31 A32:Int) (w:World) (K:b_->Int->World->Prop):Prop:=
 d_ Tryz.prog 44 [.agg ⟨iK A0 A1 A2 A3 A4 A5 A6 A7 A8 A9 A10 A11 A12 A13 A14 A15 A16 A17 A18 A19 A20 A21 A22 A23 A24 A25 A26 A27 A28 A29 A30 A31 A32⟩] [.one .slice,.one (.int .i64)] w K
theorem TL {A0 A1 A2 A3 A4 A5 A6 A7 A8 A9 A10 A11 A12 A13 A14 A15 A16 A17 A18 A19 A20 A21 A22 A23 A24 A25 A26 A27 A28 A29 A30 A31 A32 w K K'}:xM A0 A1 A2 A3 A4 A5 A6 A7 A8 A9 A10 A11 A12 A13 A14 A15 A16 A17 A18 A19 A20 A21 A22 A23 A24 A25 A26 A27 A28 A29 A30 A31 A32 w K->(∀x0 x1 w,K x0 x1 w->K' x0 x1 w)->xM A0 A1 A2 A3 A4 A5 A6 A7 A8 A9 A10 A11 A12 A13 A14 A15 A16 A17 A18 A19 A20 A21 A22 A23 A24 A25 A26 A27 A28 A29 A30 A31 A32 w K':=d_.mono
def kK (a0:Option Addr) (a1 a2:Int) (w:World) (K:Int->World->Prop):Prop:=
 d_ Tryz.prog 45 [.pointer a0,.int .i64 a1,.int .i64 a2] [.one (.int .i64)] w K
theorem HY {a0 a1 a2 w K K'}:kK a0 a1 a2 w K->(∀x0 w,K x0 w->K' x0 w)->kK a0 a1 a2 w K':=d_.mono
def jZ (a0 a1:Option Addr) (w:World) (K:World->Prop):Prop:=
 d_ Tryz.prog 46 [.pointer a0,.pointer a1] [] w K
theorem yw {a0 a1 w K K'}:jZ a0 a1 w K->(∀w,K w->K' w)->jZ a0 a1 w K':=d_.mono
def iV (a0:Option Addr) (w:World) (K:Bool->World->Prop):Prop:=
 d_ Tryz.prog 47 [.pointer a0] [.one .bool] w K
theorem ni {a0 w K K'}:iV a0 w K->(∀x0 w,K x0 w->K' x0 w)->iV a0 w K':=d_.mono
def jK (a0:Option Addr) (w:World) (K:Int->World->Prop):Prop:=
 d_ Tryz.prog 48 [.pointer a0] [.one (.int .i64)] w K
theorem zF {a0 w K K'}:jK a0 w K->(∀x0 w,K x0 w->K' x0 w)->jK a0 w K':=d_.mono
def AB (a0:Option Addr) (w:World) (K:Value->World->Prop):Prop:=
 d_ Tryz.prog 49 [.pointer a0] [.one .any] w K
def sN (a0:Option Addr) (w:World) (K:Value->World->Prop):Prop:=
 d_ Tryz.prog 50 [.pointer a0] [.one .any] w K
def Di (a0:b_) (a1:Int) (w:World) (K:Int->Int->Int->Int->Int->Int->Int->Int->Int->Int->Int->Int->Int->Int->Int->Int->Int->Int->Int->Int->Int->Int->Int->Int->Int->Int->Int->Int->Int->Int->Int->Int->Int->Int->World->Prop):Prop:=
 d_ Tryz.prog 51 [.slice a0.a a0.len a0.cap,.int .u8 a1] [.agg Uz,.one (.int .i64)] w K
def zB (a0:b_) (a1 a2:Int) (w:World) (K:Int->Int->World->Prop):Prop:=
 d_ Tryz.prog 52 [.slice a0.a a0.len a0.cap,.int .i64 a1,.int .i64 a2] [.one (.int .i64),.one (.int .i64)] w K
theorem KL {a0 a1 a2 w K K'}:zB a0 a1 a2 w K->(∀x0 x1 w,K x0 x1 w->K' x0 x1 w)->zB a0 a1 a2 w K':=d_.mono
def uq (A0 A1 A2 A3 A4 A5 A6 A7 A8 A9 A10 A11 A12 A13 A14 A15:Int) (A16 A17:b_) (A18 A19 A20 A21 A22 A23 A24 A25 A26 A27 A28 A29 A30 A31 A32 A33 A34:Int) (A35:b_) (w:World) (K:Bool->World->Prop):Prop:=
 d_ Tryz.prog 53 [.agg ⟨jh A0 A1 A2 A3 A4 A5 A6 A7 A8 A9 A10 A11 A12 A13 A14 A15 A16 A17 A18 A19 A20 A21 A22 A23 A24 A25 A26 A27 A28 A29 A30 A31 A32 A33 A34 A35⟩] [.one .bool] w K
theorem Om {A0 A1 A2 A3 A4 A5 A6 A7 A8 A9 A10 A11 A12 A13 A14 A15 A16 A17 A18 A19 A20 A21 A22 A23 A24 A25 A26 A27 A28 A29 A30 A31 A32 A33 A34 A35 w K K'}:uq A0 A1 A2 A3 A4 A5 A6 A7 A8 A9 A10 A11 A12 A13 A14 A15 A16 A17 A18 A19 A20 A21 A22 A23 A24 A25 A26 A27 A28 A29 A30 A31 A32 A33 A34 A35 w K->(∀x0 w,K x0 w->K' x0 w)->uq A0 A1 A2 A3 A4 A5 A6 A7 A8 A9 A10 A11 A12 A13 A14 A15 A16 A17 A18 A19 A20 A21 A22 A23 A24 A25 A26 A27 A28 A29 A30 A31 A32 A33 A34 A35 w K':=d_.mono
def tZ (A0 A1 A2 A3 A4 A5 A6 A7 A8 A9 A10 A11 A12 A13 A14 A15:Int) (A16 A17:b_) (A18 A19 A20 A21 A22 A23 A24 A25 A26 A27 A28 A29 A30 A31 A32 A33 A34:Int) (A35:b_) (w:World) (K:Int->World->Prop):Prop:=
 d_ Tryz.prog 54 [.agg ⟨jh A0 A1 A2 A3 A4 A5 A6 A7 A8 A9 A10 A11 A12 A13 A14 A15 A16 A17 A18 A19 A20 A21 A22 A23 A24 A25 A26 A27 A28 A29 A30 A31 A32 A33 A34 A35⟩] [.one (.int .i64)] w K
theorem PD {A0 A1 A2 A3 A4 A5 A6 A7 A8 A9 A10 A11 A12 A13 A14 A15 A16 A17 A18 A19 A20 A21 A22 A23 A24 A25 A26 A27 A28 A29 A30 A31 A32 A33 A34 A35 w K K'}:tZ A0 A1 A2 A3 A4 A5 A6 A7 A8 A9 A10 A11 A12 A13 A14 A15 A16 A17 A18 A19 A20 A21 A22 A23 A24 A25 A26 A27 A28 A29 A30 A31 A32 A33 A34 A35 w K->(∀x0 w,K x0 w->K' x0 w)->tZ A0 A1 A2 A3 A4 A5 A6 A7 A8 A9 A10 A11 A12 A13 A14 A15 A16 A17 A18 A19 A20 A21 A22 A23 A24 A25 A26 A27 A28 A29 A30 A31 A32 A33 A34 A35 w K':=d_.mono
abbrev vK:FuncId:=55
def CX (a0:Value) (f0:Addr) (w:World) (K:World->Prop):Prop:=
 d_ Tryz.prog 55 [a0,(.pointer (some f0))] [] w K
def gQ (a0:b_) (a1:Value) (w:World) (K:World->Prop):Prop:=
 d_ Tryz.prog 56 [.slice a0.a a0.len a0.cap,a1] [] w K
theorem pX {a0 a1 w K K'}:gQ a0 a1 w K->(∀w,K w->K' w)->gQ a0 a1 w K':=d_.mono
def jV (a0:Option Addr) (a1:Int) (w:World) (K:World->Prop):Prop:=
 d_ Tryz.prog 71 [.pointer a0,.int .i64 a1] [] w K
theorem CP {a0 a1 w K K'}:jV a0 a1 w K->(∀w,K w->K' w)->jV a0 a1 w K':=d_.mono
def kU (a0:Option Addr) (a1:Int) (w:World) (K:World->Prop):Prop:=
 d_ Tryz.prog 76 [.pointer a0,.int .i64 a1] [] w K
theorem ER {a0 a1 w K K'}:kU a0 a1 w K->(∀w,K w->K' w)->kU a0 a1 w K':=d_.mono
def pK (A0 A1 A2 A3 A4 A5 A6 A7 A8 A9 A10 A11 A12 A13 A14 A15:Int) (A16 A17:b_) (A18 A19 A20 A21 A22 A23 A24 A25 A26 A27 A28 A29 A30 A31 A32 A33 A34:Int) (A35:b_) (w:World) (K:b_->World->Prop):Prop:=
 d_ Tryz.prog 79 [.agg ⟨jh A0 A1 A2 A3 A4 A5 A6 A7 A8 A9 A10 A11 A12 A13 A14 A15 A16 A17 A18 A19 A20 A21 A22 A23 A24 A25 A26 A27 A28 A29 A30 A31 A32 A33 A34 A35⟩] [.one .slice] w K
theorem JZ {A0 A1 A2 A3 A4 A5 A6 A7 A8 A9 A10 A11 A12 A13 A14 A15 A16 A17 A18 A19 A20 A21 A22 A23 A24 A25 A26 A27 A28 A29 A30 A31 A32 A33 A34 A35 w K K'}:pK A0 A1 A2 A3 A4 A5 A6 A7 A8 A9 A10 A11 A12 A13 A14 A15 A16 A17 A18 A19 A20 A21 A22 A23 A24 A25 A26 A27 A28 A29 A30 A31 A32 A33 A34 A35 w K->(∀x0 w,K x0 w->K' x0 w)->pK A0 A1 A2 A3 A4 A5 A6 A7 A8 A9 A10 A11 A12 A13 A14 A15 A16 A17 A18 A19 A20 A21 A22 A23 A24 A25 A26 A27 A28 A29 A30 A31 A32 A33 A34 A35 w K':=d_.mono
def iY (A0 A1 A2:Int) (w:World) (K:Bool->World->Prop):Prop:=
 d_ Tryz.prog 80 [(.agg ⟨[.int .i64 A0,.int .i64 A1,.int .i64 A2]⟩)] [.one .bool] w K
theorem lZ {A0 A1 A2 w K K'}:iY A0 A1 A2 w K->(∀x0 w,K x0 w->K' x0 w)->iY A0 A1 A2 w K':=d_.mono
def qH (a0:Int) (w:World) (K:Bool->World->Prop):Prop:=
 d_ Tryz.prog 81 [.int .i64 a0] [.one .bool] w K
theorem MF {a0 w K K'}:qH a0 w K->(∀x0 w,K x0 w->K' x0 w)->qH a0 w K':=d_.mono
def qG (A0 A1 A2 A3 A4 A5 A6 A7 A8 A9 A10 A11 A12 A13 A14 A15:Int) (A16 A17:b_) (A18 A19 A20 A21 A22 A23 A24 A25 A26 A27 A28 A29 A30 A31 A32 A33 A34:Int) (A35:b_) (w:World) (K:Bool->World->Prop):Prop:=
 d_ Tryz.prog 82 [.agg ⟨jh A0 A1 A2 A3 A4 A5 A6 A7 A8 A9 A10 A11 A12 A13 A14 A15 A16 A17 A18 A19 A20 A21 A22 A23 A24 A25 A26 A27 A28 A29 A30 A31 A32 A33 A34 A35⟩] [.one .bool] w K
theorem MR {A0 A1 A2 A3 A4 A5 A6 A7 A8 A9 A10 A11 A12 A13 A14 A15 A16 A17 A18 A19 A20 A21 A22 A23 A24 A25 A26 A27 A28 A29 A30 A31 A32 A33 A34 A35 w K K'}:qG A0 A1 A2 A3 A4 A5 A6 A7 A8 A9 A10 A11 A12 A13 A14 A15 A16 A17 A18 A19 A20 A21 A22 A23 A24 A25 A26 A27 A28 A29 A30 A31 A32 A33 A34 A35 w K->(∀x0 w,K x0 w->K' x0 w)->qG A0 A1 A2 A3 A4 A5 A6 A7 A8 A9 A10 A11 A12 A13 A14 A15 A16 A17 A18 A19 A20 A21 A22 A23 A24 A25 A26 A27 A28 A29 A30 A31 A32 A33 A34 A35 w K':=d_.mono
def oD (A0 A1 A2 A3 A4 A5 A6 A7 A8 A9 A10 A11 A12 A13 A14 A15:Int) (A16 A17:b_) (A18 A19 A20 A21 A22 A23 A24 A25 A26 A27 A28 A29 A30 A31 A32 A33 A34:Int) (A35:b_) (w:World) (K:Bool->World->Prop):Prop:=
 d_ Tryz.prog 83 [.agg ⟨jh A0 A1 A2 A3 A4 A5 A6 A7 A8 A9 A10 A11 A12 A13 A14 A15 A16 A17 A18 A19 A20 A21 A22 A23 A24 A25 A26 A27 A28 A29 A30 A31 A32 A33 A34 A35⟩] [.one .bool] w K
theorem IU {A0 A1 A2 A3 A4 A5 A6 A7 A8 A9 A10 A11 A12 A13 A14 A15 A16 A17 A18 A19 A20 A21 A22 A23 A24 A25 A26 A27 A28 A29 A30 A31 A32 A33 A34 A35 w K K'}:oD A0 A1 A2 A3 A4 A5 A6 A7 A8 A9 A10 A11 A12 A13 A14 A15 A16 A17 A18 A19 A20 A21 A22 A23 A24 A25 A26 A27 A28 A29 A30 A31 A32 A33 A34 A35 w K->(∀x0 w,K x0 w->K' x0 w)->oD A0 A1 A2 A3 A4 A5 A6 A7 A8 A9 A10 A11 A12 A13 A14 A15 A16 A17 A18 A19 A20 A21 A22 A23 A24 A25 A26 A27 A28 A29 A30 A31 A32 A33 A34 A35 w K':=d_.mono
def ny (a0:Int) (w:World) (K:Bool->World->Prop):Prop:=
 d_ Tryz.prog 84 [.int .i64 a0] [.one .bool] w K
theorem vV {a0 w K K'}:ny a0 w K->(∀x0 w,K x0 w->K' x0 w)->ny a0 w K':=d_.mono
def gZ (a0:b_) (a1:Int) (w:World) (K:Bool->World->Prop):Prop:=
 d_ Tryz.prog 85 [.slice a0.a a0.len a0.cap,.int .i64 a1] [.one .bool] w K
theorem jQ {a0 a1 w K K'}:gZ a0 a1 w K->(∀x0 w,K x0 w->K' x0 w)->gZ a0 a1 w K':=d_.mono
def jf (a0:b_) (w:World) (K:b_->World->Prop):Prop:=
 d_ Tryz.prog 86 [.slice a0.a a0.len a0.cap] [.one .slice] w K
theorem uV {a0 w K K'}:jf a0 w K->(∀x0 w,K x0 w->K' x0 w)->jf a0 w K':=d_.mono
def uI (a0:Int) (w:World) (K:(Option Addr)->Int->World->Prop):Prop:=
 d_ Tryz.prog 87 [.int .i64 a0] [.one .ptr,.one (.int .i64)] w K
theorem E_ {a0 w K K'}:uI a0 w K->(∀x0 x1 w,K x0 x1 w->K' x0 x1 w)->uI a0 w K':=d_.mono
def nG (a0:Option Addr) (B0 B1 B2 B3 B4 B5 B6:Int) (w:World) (K:Bool->World->Prop):Prop:=
 d_ Tryz.prog 88 [.pointer a0,(.agg ⟨[.int .i64 B0,.int .i64 B1,.int .i64 B2,.int .i64 B3,.int .i64 B4,.int .i64 B5,.int .i64 B6]⟩)] [.one .bool] w K
theorem Il {a0 B0 B1 B2 B3 B4 B5 B6 w K K'}:nG a0 B0 B1 B2 B3 B4 B5 B6 w K->(∀x0 w,K x0 w->K' x0 w)->nG a0 B0 B1 B2 B3 B4 B5 B6 w K':=d_.mono
def lU (a0:Option Addr) (B0 B1 B2 B3:Int) (w:World) (K:Int->Bool->World->Prop):Prop:=
 d_ Tryz.prog 89 [.pointer a0,(.agg ⟨[.int .i64 B0,.int .i64 B1,.int .i64 B2,.int .i64 B3]⟩)] [.one (.int .i64),.one .bool] w K
theorem yj {a0 B0 B1 B2 B3 w K K'}:lU a0 B0 B1 B2 B3 w K->(∀x0 x1 w,K x0 x1 w->K' x0 x1 w)->lU a0 B0 B1 B2 B3 w K':=d_.mono
def nM (a0:Option Addr) (B0 B1 B2:Int) (w:World) (K:Int->Bool->World->Prop):Prop:=
 d_ Tryz.prog 90 [.pointer a0,(.agg ⟨[.int .i64 B0,.int .i64 B1,.int .i64 B2]⟩)] [.one (.int .i64),.one .bool] w K
theorem Dt {a0 B0 B1 B2 w K K'}:nM a0 B0 B1 B2 w K->(∀x0 x1 w,K x0 x1 w->K' x0 x1 w)->nM a0 B0 B1 B2 w K':=d_.mono
def kV (a0:Option Addr) (a1:Int) (w:World) (K:Int->World->Prop):Prop:=
 d_ Tryz.prog 91 [.pointer a0,.int .i64 a1] [.one (.int .i64)] w K
theorem EK {a0 a1 w K K'}:kV a0 a1 w K->(∀x0 w,K x0 w->K' x0 w)->kV a0 a1 w K':=d_.mono
def lN (a0:Option Addr) (w:World) (K:Bool->World->Prop):Prop:=
 d_ Tryz.prog 92 [.pointer a0] [.one .bool] w K
theorem GR {a0 w K K'}:lN a0 w K->(∀x0 w,K x0 w->K' x0 w)->lN a0 w K':=d_.mono
def lJ (a0:Option Addr) (a1:Int) (w:World) (K:Int->World->Prop):Prop:=
 d_ Tryz.prog 93 [.pointer a0,.int .i64 a1] [.one (.int .i64)] w K
theorem Gs {a0 a1 w K K'}:lJ a0 a1 w K->(∀x0 w,K x0 w->K' x0 w)->lJ a0 a1 w K':=d_.mono
def oq (a0:Option Addr) (B0 B1 B2:Int) (w:World) (K:Int->World->Prop):Prop:=
 d_ Tryz.prog 94 [.pointer a0,(.agg ⟨[.int .i64 B0,.int .i64 B1,.int .i64 B2]⟩)] [.one (.int .i64)] w K
theorem I8 {a0 B0 B1 B2 w K K'}:oq a0 B0 B1 B2 w K->(∀x0 w,K x0 w->K' x0 w)->oq a0 B0 B1 B2 w K':=d_.mono
def uo (a0:Option Addr) (B0 B1 B2 B3 B4 B5 B6:Int) (B7:Bool) (w:World) (K:Int->Int->World->Prop):Prop:=
 d_ Tryz.prog 95 [.pointer a0,(.agg ⟨[.int .i64 B0,.int .i64 B1,.int .i64 B2,.int .i64 B3,.int .i64 B4,.int .i64 B5,.int .i64 B6,.bool B7]⟩)] [.one (.int .i64),.one (.int .i64)] w K
theorem Oa {a0 B0 B1 B2 B3 B4 B5 B6 B7 w K K'}:uo a0 B0 B1 B2 B3 B4 B5 B6 B7 w K->(∀x0 x1 w,K x0 x1 w->K' x0 x1 w)->uo a0 B0 B1 B2 B3 B4 B5 B6 B7 w K':=d_.mono
def iT (a0:Option Addr) (w:World) (K:Bool->World->Prop):Prop:=
 d_ Tryz.prog 96 [.pointer a0] [.one .bool] w K
theorem kF {a0 w K K'}:iT a0 w K->(∀x0 w,K x0 w->K' x0 w)->iT a0 w K':=d_.mono
def lI (a0:Option Addr) (w:World) (K:Int->Bool->World->Prop):Prop:=
 d_ Tryz.prog 97 [.pointer a0] [.one (.int .i64),.one .bool] w K
theorem GI {a0 w K K'}:lI a0 w K->(∀x0 x1 w,K x0 x1 w->K' x0 x1 w)->lI a0 w K':=d_.mono
def jH (a0:Option Addr) (a1:Int) (w:World) (K:World->Prop):Prop:=
 d_ Tryz.prog 98 [.pointer a0,.int .i64 a1] [] w K
theorem wz {a0 a1 w K K'}:jH a0 a1 w K->(∀w,K w->K' w)->jH a0 a1 w K':=d_.mono
def mW (a0:Option Addr) (w:World) (K:b_->World->Prop):Prop:=
 d_ Tryz.prog 99 [.pointer a0] [.one .slice] w K
theorem Iw {a0 w K K'}:mW a0 w K->(∀x0 w,K x0 w->K' x0 w)->mW a0 w K':=d_.mono
def yN (w:World) (K:Int->Int->Int->Int->Int->Int->Int->Int->Int->Int->Int->Int->Int->Int->Int->Int->World->Prop):Prop:=
 d_ Tryz.prog 100 [] [.agg Nw] w K
def yc (a0:b_) (a1 a2:Int) (w:World) (K:b_->World->Prop):Prop:=
 d_ Tryz.prog 101 [.slice a0.a a0.len a0.cap,.int .i64 a1,.int .i64 a2] [.one .slice] w K
theorem FM {a0 a1 a2 w K K'}:yc a0 a1 a2 w K->(∀x0 w,K x0 w->K' x0 w)->yc a0 a1 a2 w K':=d_.mono
def sG (a0 a1:Option Addr) (C0 C1 C2 D0 D1 D2 D3 D4 D5 D6 D7 D8 D9 D10 D11 D12 D13 D14 D15 D16 D17 D18 D19 D20 D21 D22 D23 D24 D25 D26 D27 D28 D29 D30 D31 D32:Int) (w:World) (K:Int->Int->Int->Int->Int->Int->Int->Int->Int->Int->Int->Int->Int->Int->Int->Int->Int->Int->Int->Int->Int->Int->Int->Int->Int->Int->Int->Int->Int->Int->Int->Int->Int->Int->World->Prop):Prop:=
 d_ Tryz.prog 102 [.pointer a0,.pointer a1,(.agg ⟨[.int .i64 C0,.int .i64 C1,.int .i64 C2]⟩),.agg ⟨iK D0 D1 D2 D3 D4 D5 D6 D7 D8 D9 D10 D11 D12 D13 D14 D15 D16 D17 D18 D19 D20 D21 D22 D23 D24 D25 D26 D27 D28 D29 D30 D31 D32⟩] [.one (.int .i64),.agg Uz] w K
def sD (a0:Option Addr) (B0 B1 B2 B3 C0 C1 C2 D0 D1 D2 D3 D4 D5 D6 D7 D8 D9 D10 D11 D12 D13 D14 D15 D16 D17 D18 D19 D20 D21 D22 D23 D24 D25 D26 D27 D28 D29 D30 D31 D32:Int) (w:World) (K:Int->Int->Int->Int->Int->Int->Int->Int->Int->Int->Int->Int->Int->Int->Int->Int->Int->Int->Int->Int->Int->Int->Int->Int->Int->Int->Int->Int->Int->Int->Int->Int->Int->Int->World->Prop):Prop:=
 d_ Tryz.prog 103 [.pointer a0,(.agg ⟨[.int .i64 B0,.int .i64 B1,.int .i64 B2,.int .i64 B3]⟩),(.agg ⟨[.int .i64 C0,.int .i64 C1,.int .i64 C2]⟩),.agg ⟨iK D0 D1 D2 D3 D4 D5 D6 D7 D8 D9 D10 D11 D12 D13 D14 D15 D16 D17 D18 D19 D20 D21 D22 D23 D24 D25 D26 D27 D28 D29 D30 D31 D32⟩] [.one (.int .i64),.agg Uz] w K
def pR (A0 A1 A2 A3 A4 A5 A6 A7 A8 A9 A10 A11 A12 A13 A14 A15 A16 A17 A18 A19 A20 A21 A22 A23 A24 A25 A26 A27 A28 A29 A30 A31 A32:Int) (w:World) (K:Bool->World->Prop):Prop:=
 d_ Tryz.prog 104 [.agg ⟨iK A0 A1 A2 A3 A4 A5 A6 A7 A8 A9 A10 A11 A12 A13 A14 A15 A16 A17 A18 A19 A20 A21 A22 A23 A24 A25 A26 A27 A28 A29 A30 A31 A32⟩] [.one .bool] w K
theorem EI {A0 A1 A2 A3 A4 A5 A6 A7 A8 A9 A10 A11 A12 A13 A14 A15 A16 A17 A18 A19 A20 A21 A22 A23 A24 A25 A26 A27 A28 A29 A30 A31 A32 w K K'}:pR A0 A1 A2 A3 A4 A5 A6 A7 A8 A9 A10 A11 A12 A13 A14 A15 A16 A17 A18 A19 A20 A21 A22 A23 A24 A25 A26 A27 A28 A29 A30 A31 A32 w K->(∀x0 w,K x0 w->K' x0 w)->pR A0 A1 A2 A3 A4 A5 A6 A7 A8 A9 A10 A11 A12 A13 A14 A15 A16 A17 A18 A19 A20 A21 A22 A23 A24 A25 A26 A27 A28 A29 A30 A31 A32 w K':=d_.mono
def yV (a0:b_) (w:World) (K:Bool->World->Prop):Prop:=
 d_ Tryz.prog 105 [.slice a0.a a0.len a0.cap] [.one .bool] w K
theorem NP {a0 w K K'}:yV a0 w K->(∀x0 w,K x0 w->K' x0 w)->yV a0 w K':=d_.mono
def rE (a0 a1:b_) (w:World) (K:b_->World->Prop):Prop:=
 d_ Tryz.prog 106 [.slice a0.a a0.len a0.cap,.slice a1.a a1.len a1.cap] [.one .slice] w K
theorem zQ {a0 a1 w K K'}:rE a0 a1 w K->(∀x0 w,K x0 w->K' x0 w)->rE a0 a1 w K':=d_.mono
def nV (A0 A1 A2 A3 A4 A5 A6 A7 A8 A9 A10 A11 A12 A13 A14 A15 A16 A17 A18 A19 A20 A21 A22 A23 A24 A25 A26 A27 A28 A29 A30 A31 A32:Int) (a1:b_) (w:World) (K:b_->World->Prop):Prop:=
 d_ Tryz.prog 107 [.agg ⟨iK A0 A1 A2 A3 A4 A5 A6 A7 A8 A9 A10 A11 A12 A13 A14 A15 A16 A17 A18 A19 A20 A21 A22 A23 A24 A25 A26 A27 A28 A29 A30 A31 A32⟩,.slice a1.a a1.len a1.cap] [.one .slice] w K
theorem Dw {A0 A1 A2 A3 A4 A5 A6 A7 A8 A9 A10 A11 A12 A13 A14 A15 A16 A17 A18 A19 A20 A21 A22 A23 A24 A25 A26 A27 A28 A29 A30 A31 A32 a1 w K K'}:nV A0 A1 A2 A3 A4 A5 A6 A7 A8 A9 A10 A11 A12 A13 A14 A15 A16 A17 A18 A19 A20 A21 A22 A23 A24 A25 A26 A27 A28 A29 A30 A31 A32 a1 w K->(∀x0 w,K x0 w->K' x0 w)->nV A0 A1 A2 A3 A4 A5 A6 A7 A8 A9 A10 A11 A12 A13 A14 A15 A16 A17 A18 A19 A20 A21 A22 A23 A24 A25 A26 A27 A28 A29 A30 A31 A32 a1 w K':=d_.mono
def j_ (a0:Option Addr) (B0 B1 B2:Int) (w:World) (K:World->Prop):Prop:=
 d_ Tryz.prog 108 [.pointer a0,(.agg ⟨[.int .i64 B0,.int .i64 B1,.int .i64 B2]⟩)] [] w K
theorem yE {a0 B0 B1 B2 w K K'}:j_ a0 B0 B1 B2 w K->(∀w,K w->K' w)->j_ a0 B0 B1 B2 w K':=d_.mono
def kJ (a0:Option Addr) (B0 B1 B2:Int) (w:World) (K:World->Prop):Prop:=
 d_ Tryz.prog 109 [.pointer a0,(.agg ⟨[.int .i64 B0,.int .i64 B1,.int .i64 B2]⟩)] [] w K
theorem zi {a0 B0 B1 B2 w K K'}:kJ a0 B0 B1 B2 w K->(∀w,K w->K' w)->kJ a0 B0 B1 B2 w K':=d_.mono
def kY (a0:Option Addr) (B0 B1 B2 B3:Int) (w:World) (K:Int->World->Prop):Prop:=
 d_ Tryz.prog 110 [.pointer a0,(.agg ⟨[.int .i64 B0,.int .i64 B1,.int .i64 B2,.int .i64 B3]⟩)] [.one (.int .i64)] w K
theorem EF {a0 B0 B1 B2 B3 w K K'}:kY a0 B0 B1 B2 B3 w K->(∀x0 w,K x0 w->K' x0 w)->kY a0 B0 B1 B2 B3 w K':=d_.mono
def jG (a0:Option Addr) (a1:Int) (w:World) (K:Bool->World->Prop):Prop:=
 d_ Tryz.prog 111 [.pointer a0,.int .i64 a1] [.one .bool] w K
theorem wC {a0 a1 w K K'}:jG a0 a1 w K->(∀x0 w,K x0 w->K' x0 w)->jG a0 a1 w K':=d_.mono
abbrev Dq:FuncId:=112
def MB (a0:Value) (f0:Addr) (w:World) (K:World->Prop):Prop:=
 d_ Tryz.prog 112 [a0,(.pointer (some f0))] [] w K
def jd (a0:Option Addr) (w:World) (K:Bool->World->Prop):Prop:=
 d_ Tryz.prog 113 [.pointer a0] [.one .bool] w K
theorem lF {a0 w K K'}:jd a0 w K->(∀x0 w,K x0 w->K' x0 w)->jd a0 w K':=d_.mono
abbrev wo:FuncId:=114
def Dz (a0:Value) (f0:Addr) (w:World) (K:World->Prop):Prop:=
 d_ Tryz.prog 114 [a0,(.pointer (some f0))] [] w K
def jk (a0:Option Addr) (w:World) (K:Bool->World->Prop):Prop:=
 d_ Tryz.prog 115 [.pointer a0] [.one .bool] w K
theorem vJ {a0 w K K'}:jk a0 w K->(∀x0 w,K x0 w->K' x0 w)->jk a0 w K':=d_.mono
def DR (A0 A1 A2 A3 A4 A5 A6 A7 A8 A9 A10 A11 A12 A13 A14 A15:Int) (w:World) (K:Int->Bool->World->Prop):Prop:=
 d_ Tryz.prog 116 [.agg ⟨iM A0 A1 A2 A3 A4 A5 A6 A7 A8 A9 A10 A11 A12 A13 A14 A15⟩] [.one (.int .i64),.one .bool] w K
abbrev SC:FuncId:=117
def TK (a0 a1:Int) (f0:Addr) (w:World) (K:Int->World->Prop):Prop:=
 d_ Tryz.prog 117 [.int .i64 a0,.int .i64 a1,(.pointer (some f0))] [.one (.int .i64)] w K
def xI (a0:b_) (a1 a2:Int) (w:World) (K:b_->Int->World->Prop):Prop:=
 d_ Tryz.prog 118 [.slice a0.a a0.len a0.cap,.int .i64 a1,.int .i64 a2] [.one .slice,.one (.int .i64)] w K
theorem Tq {a0 a1 a2 w K K'}:xI a0 a1 a2 w K->(∀x0 x1 w,K x0 x1 w->K' x0 x1 w)->xI a0 a1 a2 w K':=d_.mono
def o_ (A0 A1 A2 A3 A4 A5 A6 A7 A8 A9 A10 A11 A12 A13 A14 A15:Int) (A16 A17:b_) (A18 A19 A20 A21 A22 A23 A24 A25 A26 A27 A28 A29 A30 A31 A32 A33 A34:Int) (A35:b_) (w:World) (K:Bool->World->Prop):Prop:=
 d_ Tryz.prog 119 [.agg ⟨jh A0 A1 A2 A3 A4 A5 A6 A7 A8 A9 A10 A11 A12 A13 A14 A15 A16 A17 A18 A19 A20 A21 A22 A23 A24 A25 A26 A27 A28 A29 A30 A31 A32 A33 A34 A35⟩] [.one .bool] w K
theorem KP {A0 A1 A2 A3 A4 A5 A6 A7 A8 A9 A10 A11 A12 A13 A14 A15 A16 A17 A18 A19 A20 A21 A22 A23 A24 A25 A26 A27 A28 A29 A30 A31 A32 A33 A34 A35 w K K'}:o_ A0 A1 A2 A3 A4 A5 A6 A7 A8 A9 A10 A11 A12 A13 A14 A15 A16 A17 A18 A19 A20 A21 A22 A23 A24 A25 A26 A27 A28 A29 A30 A31 A32 A33 A34 A35 w K->(∀x0 w,K x0 w->K' x0 w)->o_ A0 A1 A2 A3 A4 A5 A6 A7 A8 A9 A10 A11 A12 A13 A14 A15 A16 A17 A18 A19 A20 A21 A22 A23 A24 A25 A26 A27 A28 A29 A30 A31 A32 A33 A34 A35 w K':=d_.mono
def um (A0 A1 A2 A3 A4 A5 A6 A7 A8 A9 A10 A11 A12 A13 A14 A15:Int) (A16 A17:b_) (A18 A19 A20 A21 A22 A23 A24 A25 A26 A27 A28 A29 A30 A31 A32 A33 A34:Int) (A35:b_) (w:World) (K:Bool->World->Prop):Prop:=
 d_ Tryz.prog 120 [.agg ⟨jh A0 A1 A2 A3 A4 A5 A6 A7 A8 A9 A10 A11 A12 A13 A14 A15 A16 A17 A18 A19 A20 A21 A22 A23 A24 A25 A26 A27 A28 A29 A30 A31 A32 A33 A34 A35⟩] [.one .bool] w K
theorem NU {A0 A1 A2 A3 A4 A5 A6 A7 A8 A9 A10 A11 A12 A13 A14 A15 A16 A17 A18 A19 A20 A21 A22 A23 A24 A25 A26 A27 A28 A29 A30 A31 A32 A33 A34 A35 w K K'}:um A0 A1 A2 A3 A4 A5 A6 A7 A8 A9 A10 A11 A12 A13 A14 A15 A16 A17 A18 A19 A20 A21 A22 A23 A24 A25 A26 A27 A28 A29 A30 A31 A32 A33 A34 A35 w K->(∀x0 w,K x0 w->K' x0 w)->um A0 A1 A2 A3 A4 A5 A6 A7 A8 A9 A10 A11 A12 A13 A14 A15 A16 A17 A18 A19 A20 A21 A22 A23 A24 A25 A26 A27 A28 A29 A30 A31 A32 A33 A34 A35 w K':=d_.mono
def uy (A0 A1 A2 A3 A4 A5 A6 A7 A8 A9 A10 A11 A12 A13 A14 A15:Int) (A16 A17:b_) (A18 A19 A20 A21 A22 A23 A24 A25 A26 A27 A28 A29 A30 A31 A32 A33 A34:Int) (A35:b_) (w:World) (K:Bool->World->Prop):Prop:=
 d_ Tryz.prog 121 [.agg ⟨jh A0 A1 A2 A3 A4 A5 A6 A7 A8 A9 A10 A11 A12 A13 A14 A15 A16 A17 A18 A19 A20 A21 A22 A23 A24 A25 A26 A27 A28 A29 A30 A31 A32 A33 A34 A35⟩] [.one .bool] w K
theorem NY {A0 A1 A2 A3 A4 A5 A6 A7 A8 A9 A10 A11 A12 A13 A14 A15 A16 A17 A18 A19 A20 A21 A22 A23 A24 A25 A26 A27 A28 A29 A30 A31 A32 A33 A34 A35 w K K'}:uy A0 A1 A2 A3 A4 A5 A6 A7 A8 A9 A10 A11 A12 A13 A14 A15 A16 A17 A18 A19 A20 A21 A22 A23 A24 A25 A26 A27 A28 A29 A30 A31 A32 A33 A34 A35 w K->(∀x0 w,K x0 w->K' x0 w)->uy A0 A1 A2 A3 A4 A5 A6 A7 A8 A9 A10 A11 A12 A13 A14 A15 A16 A17 A18 A19 A20 A21 A22 A23 A24 A25 A26 A27 A28 A29 A30 A31 A32 A33 A34 A35 w K':=d_.mono
def fZ (a0:b_) (a1 a2 a3:Int) (a4:Value) (w:World) (K:World->Prop):Prop:=
 d_ Tryz.prog 122 [.slice a0.a a0.len a0.cap,.int .i64 a1,.int .i64 a2,.int .i64 a3,a4] [] w K
theorem tN {a0 a1 a2 a3 a4 w K K'}:fZ a0 a1 a2 a3 a4 w K->(∀w,K w->K' w)->fZ a0 a1 a2 a3 a4 w K':=d_.mono
def kP (a0:Int) (w:World) (K:Int->World->Prop):Prop:=
 d_ Tryz.prog 123 [.int .u64 a0] [.one (.int .i64)] w K
theorem BX {a0 w K K'}:kP a0 w K->(∀x0 w,K x0 w->K' x0 w)->kP a0 w K':=d_.mono
def kN (a0 a1:Int) (w:World) (K:Int->World->Prop):Prop:=
 d_ Tryz.prog 125 [.int .i64 a0,.int .i64 a1] [.one (.int .i64)] w K
theorem zq {a0 a1 w K K'}:kN a0 a1 w K->(∀x0 w,K x0 w->K' x0 w)->kN a0 a1 w K':=d_.mono
def rG (a0:Int) (w:World) (K:Bool->World->Prop):Prop:=
 d_ Tryz.prog 126 [.int .i64 a0] [.one .bool] w K
theorem G5 {a0 w K K'}:rG a0 w K->(∀x0 w,K x0 w->K' x0 w)->rG a0 w K':=d_.mono
def jS (a0:Option Addr) (a1:ByteArray) (w:World) (K:Bool->World->Prop):Prop:=
 d_ Tryz.prog 144 [.pointer a0,.string a1] [.one .bool] w K
theorem yh {a0 a1 w K K'}:jS a0 a1 w K->(∀x0 w,K x0 w->K' x0 w)->jS a0 a1 w K':=d_.mono
def pV (a0:Option Addr) (a1:Int) (w:World) (K:Int->Int->Int->Int->Int->Int->Int->Bool->Bool->World->Prop):Prop:=
 d_ Tryz.prog 148 [.pointer a0,.int .i64 a1] [.agg [(.int .i64),(.int .i64),(.int .i64),(.int .i64),(.int .i64),(.int .i64),(.int .i64),.bool],.one .bool] w K
theorem EU {a0 a1 w K K'}:pV a0 a1 w K->(∀x0 x1 x2 x3 x4 x5 x6 x7 x8 w,K x0 x1 x2 x3 x4 x5 x6 x7 x8 w->K' x0 x1 x2 x3 x4 x5 x6 x7 x8 w)->pV a0 a1 w K':=d_.mono
def lM (a0:Option Addr) (a1:Int) (w:World) (K:Value->World->Prop):Prop:=
 d_ Tryz.prog 149 [.pointer a0,.int .i64 a1] [.one .any] w K
theorem F9 {a0 a1 w K K'}:lM a0 a1 w K->(∀x0 w,K x0 w->K' x0 w)->lM a0 a1 w K':=d_.mono
def nN (a0:Option Addr) (a1:Int) (w:World) (K:Bool->World->Prop):Prop:=
 d_ Tryz.prog 150 [.pointer a0,.int .i64 a1] [.one .bool] w K
theorem JH {a0 a1 w K K'}:nN a0 a1 w K->(∀x0 w,K x0 w->K' x0 w)->nN a0 a1 w K':=d_.mono
def nS (a0:Option Addr) (B0 B1 B2:Int) (w:World) (K:Bool->World->Prop):Prop:=
 d_ Tryz.prog 151 [.pointer a0,(.agg ⟨[.int .i64 B0,.int .i64 B1,.int .i64 B2]⟩)] [.one .bool] w K
theorem JO {a0 B0 B1 B2 w K K'}:nS a0 B0 B1 B2 w K->(∀x0 w,K x0 w->K' x0 w)->nS a0 B0 B1 B2 w K':=d_.mono
def lY (a0:Option Addr) (a1:Int) (w:World) (K:Int->World->Prop):Prop:=
 d_ Tryz.prog 152 [.pointer a0,.int .i64 a1] [.one (.int .i64)] w K
theorem Gm {a0 a1 w K K'}:lY a0 a1 w K->(∀x0 w,K x0 w->K' x0 w)->lY a0 a1 w K':=d_.mono
def EL (a0:Option Addr) (a1:Int) (w:World) (K:World->Prop):Prop:=
 d_ Tryz.prog 158 [.pointer a0,.int .i64 a1] [] w K
abbrev KR:FuncId:=159
def Ky (A0 A1 A2 A3 A4 A5 A6 A7 A8 A9 A10 A11 A12 A13 A14 A15:Int) (w:World) (K:Bool->World->Prop):Prop:=
 d_ Tryz.prog 159 [.agg ⟨iM A0 A1 A2 A3 A4 A5 A6 A7 A8 A9 A10 A11 A12 A13 A14 A15⟩] [.one .bool] w K
def wI (A0 A1 A2 A3 A4 A5 A6 A7 A8 A9 A10 A11 A12 A13 A14 A15:Int) (w:World) (K:Bool->World->Prop):Prop:=
 d_ Tryz.prog 160 [.agg ⟨iM A0 A1 A2 A3 A4 A5 A6 A7 A8 A9 A10 A11 A12 A13 A14 A15⟩] [.one .bool] w K
theorem LQ {A0 A1 A2 A3 A4 A5 A6 A7 A8 A9 A10 A11 A12 A13 A14 A15 w K K'}:wI A0 A1 A2 A3 A4 A5 A6 A7 A8 A9 A10 A11 A12 A13 A14 A15 w K->(∀x0 w,K x0 w->K' x0 w)->wI A0 A1 A2 A3 A4 A5 A6 A7 A8 A9 A10 A11 A12 A13 A14 A15 w K':=d_.mono
abbrev Kt:FuncId:=161
def Kz (a0:Int) (w:World) (K:Bool->World->Prop):Prop:=
 d_ Tryz.prog 161 [.int .i64 a0] [.one .bool] w K
abbrev KD:FuncId:=162
def Kv (A0 A1 A2 A3 A4 A5 A6:Int) (f0:Addr) (w:World) (K:Bool->World->Prop):Prop:=
 d_ Tryz.prog 162 [(.agg ⟨[.int .i64 A0,.int .i64 A1,.int .i64 A2,.int .i64 A3,.int .i64 A4,.int .i64 A5,.int .i64 A6]⟩),(.pointer (some f0))] [.one .bool] w K
def uG (A0 A1 A2 A3 A4 A5 A6 A7 A8 A9 A10 A11 A12 A13 A14 A15:Int) (A16 A17:b_) (A18 A19 A20 A21 A22 A23 A24 A25 A26 A27 A28 A29 A30 A31 A32 A33 A34:Int) (A35:b_) (B0 B1 B2 B3 B4 B5 B6:Int) (w:World) (K:Bool->World->Prop):Prop:=
 d_ Tryz.prog 163 [.agg ⟨jh A0 A1 A2 A3 A4 A5 A6 A7 A8 A9 A10 A11 A12 A13 A14 A15 A16 A17 A18 A19 A20 A21 A22 A23 A24 A25 A26 A27 A28 A29 A30 A31 A32 A33 A34 A35⟩,(.agg ⟨[.int .i64 B0,.int .i64 B1,.int .i64 B2,.int .i64 B3,.int .i64 B4,.int .i64 B5,.int .i64 B6]⟩)] [.one .bool] w K
theorem Py {A0 A1 A2 A3 A4 A5 A6 A7 A8 A9 A10 A11 A12 A13 A14 A15 A16 A17 A18 A19 A20 A21 A22 A23 A24 A25 A26 A27 A28 A29 A30 A31 A32 A33 A34 A35 B0 B1 B2 B3 B4 B5 B6 w K K'}:uG A0 A1 A2 A3 A4 A5 A6 A7 A8 A9 A10 A11 A12 A13 A14 A15 A16 A17 A18 A19 A20 A21 A22 A23 A24 A25 A26 A27 A28 A29 A30 A31 A32 A33 A34 A35 B0 B1 B2 B3 B4 B5 B6 w K->(∀x0 w,K x0 w->K' x0 w)->uG A0 A1 A2 A3 A4 A5 A6 A7 A8 A9 A10 A11 A12 A13 A14 A15 A16 A17 A18 A19 A20 A21 A22 A23 A24 A25 A26 A27 A28 A29 A30 A31 A32 A33 A34 A35 B0 B1 B2 B3 B4 B5 B6 w K':=d_.mono
def gX (a0:b_) (a1:Value) (w:World) (K:Bool->World->Prop):Prop:=
 d_ Tryz.prog 164 [.slice a0.a a0.len a0.cap,a1] [.one .bool] w K
theorem qY {a0 a1 w K K'}:gX a0 a1 w K->(∀x0 w,K x0 w->K' x0 w)->gX a0 a1 w K':=d_.mono
def iE (a0:b_) (a1:Value) (w:World) (K:Bool->World->Prop):Prop:=
 d_ Tryz.prog 165 [.slice a0.a a0.len a0.cap,a1] [.one .bool] w K
theorem nZ {a0 a1 w K K'}:iE a0 a1 w K->(∀x0 w,K x0 w->K' x0 w)->iE a0 a1 w K':=d_.mono
def f_ (a0:b_) (a1:Value) (w:World) (K:Bool->World->Prop):Prop:=
 d_ Tryz.prog 166 [.slice a0.a a0.len a0.cap,a1] [.one .bool] w K
theorem oG {a0 a1 w K K'}:f_ a0 a1 w K->(∀x0 w,K x0 w->K' x0 w)->f_ a0 a1 w K':=d_.mono
def h_ (a0:b_) (w:World) (K:b_->World->Prop):Prop:=
 d_ Tryz.prog 167 [.slice a0.a a0.len a0.cap] [.one .slice] w K
theorem nJ {a0 w K K'}:h_ a0 w K->(∀x0 w,K x0 w->K' x0 w)->h_ a0 w K':=d_.mono
abbrev Ib:FuncId:=168
def zC (A0 A1 A2 A3 A4 A5 A6:Int) (w:World) (K:Int->Int->Int->Int->World->Prop):Prop:=
 d_ Tryz.prog 168 [(.agg ⟨[.int .i64 A0,.int .i64 A1,.int .i64 A2,.int .i64 A3,.int .i64 A4,.int .i64 A5,.int .i64 A6]⟩)] [.agg [(.int .i64),(.int .i64),(.int .i64),(.int .i64)]] w K
abbrev H9:FuncId:=169
def zl (A0 A1 A2 A3 A4 A5 A6:Int) (w:World) (K:Int->Int->Int->World->Prop):Prop:=
 d_ Tryz.prog 169 [(.agg ⟨[.int .i64 A0,.int .i64 A1,.int .i64 A2,.int .i64 A3,.int .i64 A4,.int .i64 A5,.int .i64 A6]⟩)] [.agg [(.int .i64),(.int .i64),(.int .i64)]] w K
def jM (a0:Value) (w:World) (K:Bool->World->Prop):Prop:=
 d_ Tryz.prog 170 [a0] [.one .bool] w K
theorem BQ {a0 w K K'}:jM a0 w K->(∀x0 w,K x0 w->K' x0 w)->jM a0 w K':=d_.mono
def iO (a0:b_) (a1:Value) (w:World) (K:Value->World->Prop):Prop:=
 d_ Tryz.prog 171 [.slice a0.a a0.len a0.cap,a1] [.one .any] w K
theorem wW {a0 a1 w K K'}:iO a0 a1 w K->(∀x0 w,K x0 w->K' x0 w)->iO a0 a1 w K':=d_.mono
abbrev BD:FuncId:=172
def uQ (A0 A1 A2 A3 A4 A5 A6 A7 A8 A9 A10 A11 A12 A13 A14 A15:Int) (w:World) (K:Int->Int->Int->Int->Int->Int->Int->Int->Int->Int->Int->Int->Int->Int->Int->Int->World->Prop):Prop:=
 d_ Tryz.prog 172 [.agg ⟨iM A0 A1 A2 A3 A4 A5 A6 A7 A8 A9 A10 A11 A12 A13 A14 A15⟩] [.agg Nw] w K
def mD (a0:Value) (w:World) (K:Bool->World->Prop):Prop:=
 d_ Tryz.prog 173 [a0] [.one .bool] w K
theorem Gh {a0 w K K'}:mD a0 w K->(∀x0 w,K x0 w->K' x0 w)->mD a0 w K':=d_.mono
def jW (a0:b_) (a1:Value) (w:World) (K:Value->World->Prop):Prop:=
 d_ Tryz.prog 174 [.slice a0.a a0.len a0.cap,a1] [.one .any] w K
theorem Ce {a0 a1 w K K'}:jW a0 a1 w K->(∀x0 w,K x0 w->K' x0 w)->jW a0 a1 w K':=d_.mono
abbrev F6:FuncId:=175
def GK (a0:Int) (w:World) (K:Int->World->Prop):Prop:=
 d_ Tryz.prog 175 [.int .i64 a0] [.one (.int .i64)] w K
def jo (a0:Value) (w:World) (K:Bool->World->Prop):Prop:=
 d_ Tryz.prog 176 [a0] [.one .bool] w K
theorem zX {a0 w K K'}:jo a0 w K->(∀x0 w,K x0 w->K' x0 w)->jo a0 w K':=d_.mono
def iC (a0:b_) (a1:Value) (w:World) (K:Value->World->Prop):Prop:=
 d_ Tryz.prog 177 [.slice a0.a a0.len a0.cap,a1] [.one .any] w K
theorem uh {a0 a1 w K K'}:iC a0 a1 w K->(∀x0 w,K x0 w->K' x0 w)->iC a0 a1 w K':=d_.mono
def jq (a0:Value) (w:World) (K:Bool->World->Prop):Prop:=
 d_ Tryz.prog 178 [a0] [.one .bool] w K
theorem Ae {a0 w K K'}:jq a0 w K->(∀x0 w,K x0 w->K' x0 w)->jq a0 w K':=d_.mono
def iy (a0:b_) (a1:Value) (w:World) (K:Value->World->Prop):Prop:=
 d_ Tryz.prog 179 [.slice a0.a a0.len a0.cap,a1] [.one .any] w K
theorem ug {a0 a1 w K K'}:iy a0 a1 w K->(∀x0 w,K x0 w->K' x0 w)->iy a0 a1 w K':=d_.mono
abbrev Ij:FuncId:=180
def Ig (a0:Int) (f0:Addr) (w:World) (K:Bool->World->Prop):Prop:=
 d_ Tryz.prog 180 [.int .i64 a0,(.pointer (some f0))] [.one .bool] w K
def rD (a0:Int) (w:World) (K:Bool->World->Prop):Prop:=
 d_ Tryz.prog 181 [.int .i64 a0] [.one .bool] w K
theorem Bg {a0 w K K'}:rD a0 w K->(∀x0 w,K x0 w->K' x0 w)->rD a0 w K':=d_.mono
def CJ (a0:Int) (a1:b_) (w:World) (K:Bool->World->Prop):Prop:=
 d_ Tryz.prog 182 [.int .i64 a0,.slice a1.a a1.len a1.cap] [.one .bool] w K
theorem LU {a0 a1 w K K'}:CJ a0 a1 w K->(∀x0 w,K x0 w->K' x0 w)->CJ a0 a1 w K':=d_.mono
def jP (a0:b_) (a1:Int) (w:World) (K:Int->World->Prop):Prop:=
 d_ Tryz.prog 183 [.slice a0.a a0.len a0.cap,.int .i64 a1] [.one (.int .i64)] w K
theorem BF {a0 a1 w K K'}:jP a0 a1 w K->(∀x0 w,K x0 w->K' x0 w)->jP a0 a1 w K':=d_.mono
def mQ (a0:Option Addr) (a1:Int) (w:World) (K:Bool->World->Prop):Prop:=
 d_ Tryz.prog 184 [.pointer a0,.int .i64 a1] [.one .bool] w K
theorem BK {a0 a1 w K K'}:mQ a0 a1 w K->(∀x0 w,K x0 w->K' x0 w)->mQ a0 a1 w K':=d_.mono
def uS (a0:Int) (w:World) (K:Bool->World->Prop):Prop:=
 d_ Tryz.prog 185 [.int .i64 a0] [.one .bool] w K
theorem IW {a0 w K K'}:uS a0 w K->(∀x0 w,K x0 w->K' x0 w)->uS a0 w K':=d_.mono
def jJ (a0:Option Addr) (a1:Int) (w:World) (K:Bool->World->Prop):Prop:=
 d_ Tryz.prog 186 [.pointer a0,.int .i64 a1] [.one .bool] w K
theorem Bh {a0 a1 w K K'}:jJ a0 a1 w K->(∀x0 w,K x0 w->K' x0 w)->jJ a0 a1 w K':=d_.mono
def lG (a0:Option Addr) (a1:ByteArray) (w:World) (K:Int->Bool->World->Prop):Prop:=
 d_ Tryz.prog 187 [.pointer a0,.string a1] [.one (.int .i64),.one .bool] w K
theorem AA {a0 a1 w K K'}:lG a0 a1 w K->(∀x0 x1 w,K x0 x1 w->K' x0 x1 w)->lG a0 a1 w K':=d_.mono
def kQ (A0 A1 A2 A3:Int) (w:World) (K:ByteArray->World->Prop):Prop:=
 d_ Tryz.prog 188 [(.agg ⟨[.int .i64 A0,.int .i64 A1,.int .i64 A2,.int .i64 A3]⟩)] [.one .str] w K
theorem wU {A0 A1 A2 A3 w K K'}:kQ A0 A1 A2 A3 w K->(∀x0 w,K x0 w->K' x0 w)->kQ A0 A1 A2 A3 w K':=d_.mono
def kR (A0 A1 A2:Int) (w:World) (K:ByteArray->World->Prop):Prop:=
 d_ Tryz.prog 189 [(.agg ⟨[.int .i64 A0,.int .i64 A1,.int .i64 A2]⟩)] [.one .str] w K
theorem wX {A0 A1 A2 w K K'}:kR A0 A1 A2 w K->(∀x0 w,K x0 w->K' x0 w)->kR A0 A1 A2 w K':=d_.mono
def jY (a0:Option Addr) (a1:Int) (w:World) (K:(Option Addr)->Int->World->Prop):Prop:=
 d_ Tryz.prog 190 [.pointer a0,.int .i64 a1] [.one .ptr,.one (.int .i64)] w K
theorem vN {a0 a1 w K K'}:jY a0 a1 w K->(∀x0 x1 w,K x0 x1 w->K' x0 x1 w)->jY a0 a1 w K':=d_.mono
def t_ (a0:Option Addr) (w:World) (K:Int->World->Prop):Prop:=
 d_ Tryz.prog 191 [.pointer a0] [.one (.int .i64)] w K
theorem Pq {a0 w K K'}:t_ a0 w K->(∀x0 w,K x0 w->K' x0 w)->t_ a0 w K':=d_.mono
def lX (A0 A1:Int) (w:World) (K:Bool->World->Prop):Prop:=
 d_ Tryz.prog 192 [(.agg ⟨[.int .i64 A0,.int .i64 A1]⟩)] [.one .bool] w K
theorem Gq {A0 A1 w K K'}:lX A0 A1 w K->(∀x0 w,K x0 w->K' x0 w)->lX A0 A1 w K':=d_.mono
def jO (a0:Option Addr) (w:World) (K:Bool->World->Prop):Prop:=
 d_ Tryz.prog 193 [.pointer a0] [.one .bool] w K
theorem uH {a0 w K K'}:jO a0 w K->(∀x0 w,K x0 w->K' x0 w)->jO a0 w K':=d_.mono
def vH (a0:Int) (w:World) (K:Bool->World->Prop):Prop:=
 d_ Tryz.prog 194 [.int .i64 a0] [.one .bool] w K
theorem Qc {a0 w K K'}:vH a0 w K->(∀x0 w,K x0 w->K' x0 w)->vH a0 w K':=d_.mono
def qR (a0:Option Addr) (w:World) (K:Int->Bool->World->Prop):Prop:=
 d_ Tryz.prog 195 [.pointer a0] [.one (.int .i64),.one .bool] w K
theorem MG {a0 w K K'}:qR a0 w K->(∀x0 x1 w,K x0 x1 w->K' x0 x1 w)->qR a0 w K':=d_.mono
def lD (a0:Option Addr) (a1:ByteArray) (a2:Int) (w:World) (K:Int->World->Prop):Prop:=
 d_ Tryz.prog 196 [.pointer a0,.string a1,.int .i64 a2] [.one (.int .i64)] w K
theorem Ag {a0 a1 a2 w K K'}:lD a0 a1 a2 w K->(∀x0 w,K x0 w->K' x0 w)->lD a0 a1 a2 w K':=d_.mono
def gK (a0:b_) (a1:Value) (w:World) (K:Int->Int->Int->World->Prop):Prop:=
 d_ Tryz.prog 197 [.slice a0.a a0.len a0.cap,a1] [.agg [(.int .i64),(.int .i64),(.int .i64)]] w K
theorem o9 {a0 a1 w K K'}:gK a0 a1 w K->(∀x0 x1 x2 w,K x0 x1 x2 w->K' x0 x1 x2 w)->gK a0 a1 w K':=d_.mono
abbrev Ew:FuncId:=198
def yg (A0 A1 A2 B0 B1 B2:Int) (w:World) (K:Int->World->Prop):Prop:=
 d_ Tryz.prog 198 [(.agg ⟨[.int .i64 A0,.int .i64 A1,.int .i64 A2]⟩),(.agg ⟨[.int .i64 B0,.int .i64 B1,.int .i64 B2]⟩)] [.one (.int .i64)] w K
def pW (a0 a1:Int) (w:World) (K:Int->World->Prop):Prop:=
 d_ Tryz.prog 199 [.int .i64 a0,.int .i64 a1] [.one (.int .i64)] w K
theorem Fh {a0 a1 w K K'}:pW a0 a1 w K->(∀x0 w,K x0 w->K' x0 w)->pW a0 a1 w K':=d_.mono
def jE (a0:Option Addr) (a1:Int) (w:World) (K:(Option Addr)->World->Prop):Prop:=
 d_ Tryz.prog 200 [.pointer a0,.int .i64 a1] [.one .ptr] w K
theorem sJ {a0 a1 w K K'}:jE a0 a1 w K->(∀x0 w,K x0 w->K' x0 w)->jE a0 a1 w K':=d_.mono
def fJ (a0:b_) (a1:Value) (w:World) (K:b_->World->Prop):Prop:=
 d_ Tryz.prog 201 [.slice a0.a a0.len a0.cap,a1] [.one .slice] w K
theorem iL {a0 a1 w K K'}:fJ a0 a1 w K->(∀x0 w,K x0 w->K' x0 w)->fJ a0 a1 w K':=d_.mono
def gV (a0:b_) (w:World) (K:b_->World->Prop):Prop:=
 d_ Tryz.prog 202 [.slice a0.a a0.len a0.cap] [.one .slice] w K
theorem qE {a0 w K K'}:gV a0 w K->(∀x0 w,K x0 w->K' x0 w)->gV a0 w K':=d_.mono
abbrev F7:FuncId:=203
def yA (A0 A1 A2:Int) (f0:Addr) (w:World) (K:Bool->World->Prop):Prop:=
 d_ Tryz.prog 203 [(.agg ⟨[.int .i64 A0,.int .i64 A1,.int .i64 A2]⟩),(.pointer (some f0))] [.one .bool] w K
abbrev GU:FuncId:=204
def yC (A0 A1 A2:Int) (f0:Addr) (w:World) (K:Bool->World->Prop):Prop:=
 d_ Tryz.prog 204 [(.agg ⟨[.int .i64 A0,.int .i64 A1,.int .i64 A2]⟩),(.pointer (some f0))] [.one .bool] w K
def fQ (a0:b_) (a1:Value) (w:World) (K:World->Prop):Prop:=
 d_ Tryz.prog 205 [.slice a0.a a0.len a0.cap,a1] [] w K
theorem oV {a0 a1 w K K'}:fQ a0 a1 w K->(∀w,K w->K' w)->fQ a0 a1 w K':=d_.mono
abbrev nK:FuncId:=206
def r_ (A0 A1 A2 B0 B1 B2:Int) (w:World) (K:Int->World->Prop):Prop:=
 d_ Tryz.prog 206 [(.agg ⟨[.int .i64 A0,.int .i64 A1,.int .i64 A2]⟩),(.agg ⟨[.int .i64 B0,.int .i64 B1,.int .i64 B2]⟩)] [.one (.int .i64)] w K
def jv (a0:b_) (w:World) (K:b_->World->Prop):Prop:=
 d_ Tryz.prog 207 [.slice a0.a a0.len a0.cap] [.one .slice] w K
theorem Ac {a0 w K K'}:jv a0 w K->(∀x0 w,K x0 w->K' x0 w)->jv a0 w K':=d_.mono
def yT (a0 a1:Int) (w:World) (K:Bool->World->Prop):Prop:=
 d_ Tryz.prog 208 [.int .i64 a0,.int .i64 a1] [.one .bool] w K
theorem PE {a0 a1 w K K'}:yT a0 a1 w K->(∀x0 w,K x0 w->K' x0 w)->yT a0 a1 w K':=d_.mono
def iQ (a0:b_) (a1:Value) (w:World) (K:b_->World->Prop):Prop:=
 d_ Tryz.prog 209 [.slice a0.a a0.len a0.cap,a1] [.one .slice] w K
theorem xK {a0 a1 w K K'}:iQ a0 a1 w K->(∀x0 w,K x0 w->K' x0 w)->iQ a0 a1 w K':=d_.mono
def xX (a0 a1:Int) (w:World) (K:Value->World->Prop):Prop:=
 d_ Tryz.prog 210 [.int .i64 a0,.int .i64 a1] [.one .any] w K
theorem Rx {a0 a1 w K K'}:xX a0 a1 w K->(∀x0 w,K x0 w->K' x0 w)->xX a0 a1 w K':=d_.mono
def jX (a0 a1:Option Addr) (a2:Int) (w:World) (K:World->Prop):Prop:=
 d_ Tryz.prog 211 [.pointer a0,.pointer a1,.int .i64 a2] [] w K
theorem yx {a0 a1 a2 w K K'}:jX a0 a1 a2 w K->(∀w,K w->K' w)->jX a0 a1 a2 w K':=d_.mono
def uD (a0:Int) (w:World) (K:Int->World->Prop):Prop:=
 d_ Tryz.prog 212 [.int .i64 a0] [.one (.int .i64)] w K
theorem Ob {a0 w K K'}:uD a0 w K->(∀x0 w,K x0 w->K' x0 w)->uD a0 w K':=d_.mono
def gB (a0:b_) (a1:Value) (w:World) (K:Bool->World->Prop):Prop:=
 d_ Tryz.prog 213 [.slice a0.a a0.len a0.cap,a1] [.one .bool] w K
theorem oN {a0 a1 w K K'}:gB a0 a1 w K->(∀x0 w,K x0 w->K' x0 w)->gB a0 a1 w K':=d_.mono
abbrev U6:FuncId:=214
def Ux (A0 A1:Int) (w:World) (K:Bool->World->Prop):Prop:=
 d_ Tryz.prog 214 [(.agg ⟨[.int .i64 A0,.int .i64 A1]⟩)] [.one .bool] w K
abbrev Fv:FuncId:=215
def xH (A0 A1 A2:Int) (f0:Addr) (w:World) (K:Bool->World->Prop):Prop:=
 d_ Tryz.prog 215 [(.agg ⟨[.int .i64 A0,.int .i64 A1,.int .i64 A2]⟩),(.pointer (some f0))] [.one .bool] w K
def jr (a0 a1:b_) (w:World) (K:Bool->World->Prop):Prop:=
 d_ Tryz.prog 216 [.slice a0.a a0.len a0.cap,.slice a1.a a1.len a1.cap] [.one .bool] w K
theorem Aa {a0 a1 w K K'}:jr a0 a1 w K->(∀x0 w,K x0 w->K' x0 w)->jr a0 a1 w K':=d_.mono
def wP (a0:Int) (w:World) (K:Bool->World->Prop):Prop:=
 d_ Tryz.prog 217 [.int .i64 a0] [.one .bool] w K
theorem Lp {a0 w K K'}:wP a0 w K->(∀x0 w,K x0 w->K' x0 w)->wP a0 w K':=d_.mono
def gG (a0 a1 a2:Int) (w:World) (K:Bool->World->Prop):Prop:=
 d_ Tryz.prog 218 [.int .i64 a0,.int .i64 a1,.int .i64 a2] [.one .bool] w K
theorem Us {a0 a1 a2 w K K'}:gG a0 a1 a2 w K->(∀x0 w,K x0 w->K' x0 w)->gG a0 a1 a2 w K':=d_.mono
def rH (A0 A1 A2 A3 A4 A5 A6 A7 A8 A9 A10 A11 A12 A13 A14 A15:Int) (w:World) (K:Bool->World->Prop):Prop:=
 d_ Tryz.prog 219 [.agg ⟨iM A0 A1 A2 A3 A4 A5 A6 A7 A8 A9 A10 A11 A12 A13 A14 A15⟩] [.one .bool] w K
theorem G8 {A0 A1 A2 A3 A4 A5 A6 A7 A8 A9 A10 A11 A12 A13 A14 A15 w K K'}:rH A0 A1 A2 A3 A4 A5 A6 A7 A8 A9 A10 A11 A12 A13 A14 A15 w K->(∀x0 w,K x0 w->K' x0 w)->rH A0 A1 A2 A3 A4 A5 A6 A7 A8 A9 A10 A11 A12 A13 A14 A15 w K':=d_.mono
def qU (A0 A1 A2 A3 A4 A5 A6 A7 A8 A9 A10 A11 A12 A13 A14 A15:Int) (A16 A17:b_) (A18 A19 A20 A21 A22 A23 A24 A25 A26 A27 A28 A29 A30 A31 A32 A33 A34:Int) (A35:b_) (B0 B1 B2 B3 B4 B5 B6:Int) (w:World) (K:Bool->World->Prop):Prop:=
 d_ Tryz.prog 220 [.agg ⟨jh A0 A1 A2 A3 A4 A5 A6 A7 A8 A9 A10 A11 A12 A13 A14 A15 A16 A17 A18 A19 A20 A21 A22 A23 A24 A25 A26 A27 A28 A29 A30 A31 A32 A33 A34 A35⟩,(.agg ⟨[.int .i64 B0,.int .i64 B1,.int .i64 B2,.int .i64 B3,.int .i64 B4,.int .i64 B5,.int .i64 B6]⟩)] [.one .bool] w K
theorem Md {A0 A1 A2 A3 A4 A5 A6 A7 A8 A9 A10 A11 A12 A13 A14 A15 A16 A17 A18 A19 A20 A21 A22 A23 A24 A25 A26 A27 A28 A29 A30 A31 A32 A33 A34 A35 B0 B1 B2 B3 B4 B5 B6 w K K'}:qU A0 A1 A2 A3 A4 A5 A6 A7 A8 A9 A10 A11 A12 A13 A14 A15 A16 A17 A18 A19 A20 A21 A22 A23 A24 A25 A26 A27 A28 A29 A30 A31 A32 A33 A34 A35 B0 B1 B2 B3 B4 B5 B6 w K->(∀x0 w,K x0 w->K' x0 w)->qU A0 A1 A2 A3 A4 A5 A6 A7 A8 A9 A10 A11 A12 A13 A14 A15 A16 A17 A18 A19 A20 A21 A22 A23 A24 A25 A26 A27 A28 A29 A30 A31 A32 A33 A34 A35 B0 B1 B2 B3 B4 B5 B6 w K':=d_.mono
def gJ (a0:b_) (a1 a2:Int) (a3:Value) (w:World) (K:World->Prop):Prop:=
 d_ Tryz.prog 221 [.slice a0.a a0.len a0.cap,.int .i64 a1,.int .i64 a2,a3] [] w K
theorem pq {a0 a1 a2 a3 w K K'}:gJ a0 a1 a2 a3 w K->(∀w,K w->K' w)->gJ a0 a1 a2 a3 w K':=d_.mono
def uw (a0:b_) (a1 a2:Int) (a3:Value) (w:World) (K:World->Prop):Prop:=
 d_ Tryz.prog 222 [.slice a0.a a0.len a0.cap,.int .i64 a1,.int .i64 a2,a3] [] w K
def qj (a0:b_) (a1 a2:Int) (a3:Value) (w:World) (K:World->Prop):Prop:=
 d_ Tryz.prog 223 [.slice a0.a a0.len a0.cap,.int .i64 a1,.int .i64 a2,a3] [] w K
def qV (a0:b_) (a1 a2:Int) (a3:Value) (w:World) (K:Int->Int->World->Prop):Prop:=
 d_ Tryz.prog 224 [.slice a0.a a0.len a0.cap,.int .i64 a1,.int .i64 a2,a3] [.one (.int .i64),.one (.int .i64)] w K
def qA (a0:b_) (a1 a2:Int) (a3:Value) (w:World) (K:World->Prop):Prop:=
 d_ Tryz.prog 225 [.slice a0.a a0.len a0.cap,.int .i64 a1,.int .i64 a2,a3] [] w K
def mY (a0:b_) (a1 a2:Int) (a3:Value) (w:World) (K:Bool->World->Prop):Prop:=
 d_ Tryz.prog 226 [.slice a0.a a0.len a0.cap,.int .i64 a1,.int .i64 a2,a3] [.one .bool] w K
def pG (a0:b_) (a1 a2 a3:Int) (a4:Value) (w:World) (K:Int->World->Prop):Prop:=
 d_ Tryz.prog 227 [.slice a0.a a0.len a0.cap,.int .i64 a1,.int .i64 a2,.int .i64 a3,a4] [.one (.int .i64)] w K
def sZ (a0:b_) (a1 a2 a3:Int) (a4:Value) (w:World) (K:Int->Bool->World->Prop):Prop:=
 d_ Tryz.prog 228 [.slice a0.a a0.len a0.cap,.int .i64 a1,.int .i64 a2,.int .i64 a3,a4] [.one (.int .i64),.one .bool] w K
def ng (a0:Int) (w:World) (K:Int->World->Prop):Prop:=
 d_ Tryz.prog 230 [.int .u64 a0] [.one (.int .i64)] w K
theorem Ik {a0 w K K'}:ng a0 w K->(∀x0 w,K x0 w->K' x0 w)->ng a0 w K':=d_.mono
def mM (a0:Int) (w:World) (K:Bool->World->Prop):Prop:=
 d_ Tryz.prog 231 [.int .i64 a0] [.one .bool] w K
theorem BU {a0 w K K'}:mM a0 w K->(∀x0 w,K x0 w->K' x0 w)->mM a0 w K':=d_.mono
def jD (a0:Option Addr) (w:World) (K:Bool->World->Prop):Prop:=
 d_ Tryz.prog 239 [.pointer a0] [.one .bool] w K
theorem sK {a0 w K K'}:jD a0 w K->(∀x0 w,K x0 w->K' x0 w)->jD a0 w K':=d_.mono
def ig (a0:Option Addr) (a1:ByteArray) (w:World) (K:Int->Bool->World->Prop):Prop:=
 d_ Tryz.prog 240 [.pointer a0,.string a1] [.one (.int .i64),.one .bool] w K
theorem jc {a0 a1 w K K'}:ig a0 a1 w K->(∀x0 x1 w,K x0 x1 w->K' x0 x1 w)->ig a0 a1 w K':=d_.mono
def kM (a0:Option Addr) (a1:Int) (w:World) (K:Value->World->Prop):Prop:=
 d_ Tryz.prog 241 [.pointer a0,.int .i64 a1] [.one .any] w K
theorem zo {a0 a1 w K K'}:kM a0 a1 w K->(∀x0 w,K x0 w->K' x0 w)->kM a0 a1 w K':=d_.mono
def iZ (a0:b_) (a1:Value) (w:World) (K:Int->World->Prop):Prop:=
 d_ Tryz.prog 242 [.slice a0.a a0.len a0.cap,a1] [.one (.int .i64)] w K
theorem yR {a0 a1 w K K'}:iZ a0 a1 w K->(∀x0 w,K x0 w->K' x0 w)->iZ a0 a1 w K':=d_.mono
def pU (a0:Option Addr) (a1:Int) (w:World) (K:Bool->World->Prop):Prop:=
 d_ Tryz.prog 243 [.pointer a0,.int .i64 a1] [.one .bool] w K
theorem DW {a0 a1 w K K'}:pU a0 a1 w K->(∀x0 w,K x0 w->K' x0 w)->pU a0 a1 w K':=d_.mono
abbrev xJ:FuncId:=244
def EJ (a0:Value) (f0 f1:Addr) (w:World) (K:World->Prop):Prop:=
 d_ Tryz.prog 244 [a0,(.pointer (some f0)),(.pointer (some f1))] [] w K
def qF (a0:Int) (w:World) (K:Bool->World->Prop):Prop:=
 d_ Tryz.prog 245 [.int .i64 a0] [.one .bool] w K
theorem MP {a0 w K K'}:qF a0 w K->(∀x0 w,K x0 w->K' x0 w)->qF a0 w K':=d_.mono
def iq (a0:b_) (a1:Value) (w:World) (K:Int->World->Prop):Prop:=
 d_ Tryz.prog 246 [.slice a0.a a0.len a0.cap,a1] [.one (.int .i64)] w K
theorem uF {a0 a1 w K K'}:iq a0 a1 w K->(∀x0 w,K x0 w->K' x0 w)->iq a0 a1 w K':=d_.mono
def gI (a0:b_) (a1:Value) (w:World) (K:Int->World->Prop):Prop:=
 d_ Tryz.prog 247 [.slice a0.a a0.len a0.cap,a1] [.one (.int .i64)] w K
theorem pI {a0 a1 w K K'}:gI a0 a1 w K->(∀x0 w,K x0 w->K' x0 w)->gI a0 a1 w K':=d_.mono
abbrev vY:FuncId:=248
def vZ (a0:Value) (f0 f1:Addr) (w:World) (K:World->Prop):Prop:=
 d_ Tryz.prog 248 [a0,(.pointer (some f0)),(.pointer (some f1))] [] w K
abbrev BO:FuncId:=249
def Bo (a0:Value) (f0 f1:Addr) (w:World) (K:World->Prop):Prop:=
 d_ Tryz.prog 249 [a0,(.pointer (some f0)),(.pointer (some f1))] [] w K
abbrev tC:FuncId:=250
def sW (a0:Value) (f0 f1:Addr) (w:World) (K:World->Prop):Prop:=
 d_ Tryz.prog 250 [a0,(.pointer (some f0)),(.pointer (some f1))] [] w K
abbrev sS:FuncId:=251
def sF (a0:Value) (f0 f1:Addr) (w:World) (K:World->Prop):Prop:=
 d_ Tryz.prog 251 [a0,(.pointer (some f0)),(.pointer (some f1))] [] w K
def oC (A0 A1 a1:Int) (w:World) (K:Bool->World->Prop):Prop:=
 d_ Tryz.prog 252 [(.agg ⟨[.int .i64 A0,.int .i64 A1]⟩),.int .i64 a1] [.one .bool] w K
theorem Au {A0 A1 a1 w K K'}:oC A0 A1 a1 w K->(∀x0 w,K x0 w->K' x0 w)->oC A0 A1 a1 w K':=d_.mono
def wY (a0:b_) (w:World) (K:ByteArray->World->Prop):Prop:=
 d_ Tryz.prog 253 [.slice a0.a a0.len a0.cap] [.one .str] w K
theorem Lm {a0 w K K'}:wY a0 w K->(∀x0 w,K x0 w->K' x0 w)->wY a0 w K':=d_.mono
def nC (a0:Option Addr) (w:World) (K:World->Prop):Prop:=
 d_ Tryz.prog 254 [.pointer a0] [] w K
theorem Ht {a0 w K K'}:nC a0 w K->(∀w,K w->K' w)->nC a0 w K':=d_.mono
def gq (a0:b_) (a1:Value) (w:World) (K:Int->World->Prop):Prop:=
 d_ Tryz.prog 255 [.slice a0.a a0.len a0.cap,a1] [.one (.int .i64)] w K
theorem oJ {a0 a1 w K K'}:gq a0 a1 w K->(∀x0 w,K x0 w->K' x0 w)->gq a0 a1 w K':=d_.mono
def fV (a0:b_) (a1 a2 a3:Int) (a4:Value) (w:World) (K:World->Prop):Prop:=
 d_ Tryz.prog 256 [.slice a0.a a0.len a0.cap,.int .i64 a1,.int .i64 a2,.int .i64 a3,a4] [] w K
theorem sU {a0 a1 a2 a3 a4 w K K'}:fV a0 a1 a2 a3 a4 w K->(∀w,K w->K' w)->fV a0 a1 a2 a3 a4 w K':=d_.mono
abbrev P8:FuncId:=257
def Qh (a0:Value) (f0 f1:Addr) (w:World) (K:World->Prop):Prop:=
 d_ Tryz.prog 257 [a0,(.pointer (some f0)),(.pointer (some f1))] [] w K
def gU (a0:b_) (a1:Value) (w:World) (K:Int->World->Prop):Prop:=
 d_ Tryz.prog 258 [.slice a0.a a0.len a0.cap,a1] [.one (.int .i64)] w K
theorem qw {a0 a1 w K K'}:gU a0 a1 w K->(∀x0 w,K x0 w->K' x0 w)->gU a0 a1 w K':=d_.mono
def vT (A0 A1 A2 A3 A4 A5 A6 A7 A8 A9 A10 A11 A12 A13 A14 A15:Int) (A16 A17:b_) (A18 A19 A20 A21 A22 A23 A24 A25 A26 A27 A28 A29 A30 A31 A32 A33 A34:Int) (A35:b_) (a1:Int) (w:World) (K:Bool->World->Prop):Prop:=
 d_ Tryz.prog 259 [.agg ⟨jh A0 A1 A2 A3 A4 A5 A6 A7 A8 A9 A10 A11 A12 A13 A14 A15 A16 A17 A18 A19 A20 A21 A22 A23 A24 A25 A26 A27 A28 A29 A30 A31 A32 A33 A34 A35⟩,.int .i64 a1] [.one .bool] w K
theorem Qj {A0 A1 A2 A3 A4 A5 A6 A7 A8 A9 A10 A11 A12 A13 A14 A15 A16 A17 A18 A19 A20 A21 A22 A23 A24 A25 A26 A27 A28 A29 A30 A31 A32 A33 A34 A35 a1 w K K'}:vT A0 A1 A2 A3 A4 A5 A6 A7 A8 A9 A10 A11 A12 A13 A14 A15 A16 A17 A18 A19 A20 A21 A22 A23 A24 A25 A26 A27 A28 A29 A30 A31 A32 A33 A34 A35 a1 w K->(∀x0 w,K x0 w->K' x0 w)->vT A0 A1 A2 A3 A4 A5 A6 A7 A8 A9 A10 A11 A12 A13 A14 A15 A16 A17 A18 A19 A20 A21 A22 A23 A24 A25 A26 A27 A28 A29 A30 A31 A32 A33 A34 A35 a1 w K':=d_.mono
def xQ (a0:ByteArray) (a1:Int) (w:World) (K:Int->World->Prop):Prop:=
 d_ Tryz.prog 266 [.string a0,.int .i64 a1] [.one (.int .i64)] w K
theorem Rk {a0 a1 w K K'}:xQ a0 a1 w K->(∀x0 w,K x0 w->K' x0 w)->xQ a0 a1 w K':=d_.mono
abbrev yF:FuncId:=267
def GX (a0:Value) (f0 f1:Addr) (w:World) (K:World->Prop):Prop:=
 d_ Tryz.prog 267 [a0,(.pointer (some f0)),(.pointer (some f1))] [] w K
def gy (a0:b_) (a1 a2:Int) (a3:Value) (w:World) (K:World->Prop):Prop:=
 d_ Tryz.prog 268 [.slice a0.a a0.len a0.cap,.int .i64 a1,.int .i64 a2,a3] [] w K
theorem oU {a0 a1 a2 a3 w K K'}:gy a0 a1 a2 a3 w K->(∀w,K w->K' w)->gy a0 a1 a2 a3 w K':=d_.mono
def sO (a0:b_) (a1 a2:Int) (a3:Value) (w:World) (K:World->Prop):Prop:=
 d_ Tryz.prog 269 [.slice a0.a a0.len a0.cap,.int .i64 a1,.int .i64 a2,a3] [] w K
def pO (a0:b_) (a1 a2:Int) (a3:Value) (w:World) (K:World->Prop):Prop:=
 d_ Tryz.prog 270 [.slice a0.a a0.len a0.cap,.int .i64 a1,.int .i64 a2,a3] [] w K
def qy (a0:b_) (a1 a2:Int) (a3:Value) (w:World) (K:Int->Int->World->Prop):Prop:=
 d_ Tryz.prog 271 [.slice a0.a a0.len a0.cap,.int .i64 a1,.int .i64 a2,a3] [.one (.int .i64),.one (.int .i64)] w K
def pY (a0:b_) (a1 a2:Int) (a3:Value) (w:World) (K:World->Prop):Prop:=
 d_ Tryz.prog 272 [.slice a0.a a0.len a0.cap,.int .i64 a1,.int .i64 a2,a3] [] w K
def mJ (a0:b_) (a1 a2:Int) (a3:Value) (w:World) (K:Bool->World->Prop):Prop:=
 d_ Tryz.prog 273 [.slice a0.a a0.len a0.cap,.int .i64 a1,.int .i64 a2,a3] [.one .bool] w K
def oP (a0:b_) (a1 a2 a3:Int) (a4:Value) (w:World) (K:Int->World->Prop):Prop:=
 d_ Tryz.prog 274 [.slice a0.a a0.len a0.cap,.int .i64 a1,.int .i64 a2,.int .i64 a3,a4] [.one (.int .i64)] w K
def rV (a0:b_) (a1 a2 a3:Int) (a4:Value) (w:World) (K:Int->Bool->World->Prop):Prop:=
 d_ Tryz.prog 275 [.slice a0.a a0.len a0.cap,.int .i64 a1,.int .i64 a2,.int .i64 a3,a4] [.one (.int .i64),.one .bool] w K
theorem Jw {A0 A1 A2 A3 A4 A5 A6 A7 A8 A9 A10 A11 A12 A13 A14 A15 A16 A17 A18 A19 A20 A21 A22 A23 A24 A25 A26 A27 A28 A29 A30 A31 A32 A33 A34 A35 a1 w K}:fF (Bj A0 A1 A2 A3 A4 A5 A6 A7 A8 A9 A10 A11 A12 A13 A14 A15 A16 A17 A18 A19 A20 A21 A22 A23 A24 A25 A26 A27 A28 A29 A30 A31 A32 A33 A34 A35 a1 w K)
 (Al w (.cells ⟨(jh A0 A1 A2 A3 A4 A5 A6 A7 A8 A9 A10 A11 A12 A13 A14 A15 A16 A17 A18 A19 A20 A21 A22 A23 A24 A25 A26 A27 A28 A29 A30 A31 A32 A33 A34 A35)⟩ 33) fun j E=>Al E (.cells ⟨[(Value.bool false)]⟩ 4) fun b F=>lC F fun G k=>(bif (!G) then
 St k b (Value.bool false) fun u=>Ld .bool u b fun H=>K H u
 else
 let l:Bool->World->Prop:=fun I m=>((bif I then
 lC m fun J L=>St L b (Value.bool J) fun v=>Ld .bool v b fun M=>K M v
 else
 vF m j fun N O P Q R T U V W X Y Z aa ab ac ad ae af ag ah ai aj ak al am an ao ap aq ar au av aw ax ay az=>zO N O P Q R T U V W X Y Z aa ab ac ad ae af ag ah ai aj ak al am an ao ap aq ar au av aw ax ay az m fun x aA aB=>uJ x 64 aB fun h aC y=>let n:Bool->Prop:=fun aD=>((bif aD then
 St y b (Value.bool false) fun z=>Ld .bool z b fun aE=>K aE z
 else
 iw (S:=Int×Unit) (fun o c aF=>(bif (decide (o.1<(a1.len:Int))) then
 let A:World->Prop:=fun aG=>(aF ((IntKind.i64.wrap (o.1+1)),()) aG)
 g_ a1 5 o.1 fun g=>Ld (.int .i64) c (g.add 0) fun aH=>Ld (.int .i64) c (g.add 1) fun aI=>Ld (.int .i64) c (g.add 2) fun aJ=>Ld (.int .i64) c (g.add 3) fun aK=>Ld .slice c (g.add 4) fun p=>Al c (.cells ⟨[(Value.int .i64 0),(Value.int .i64 0),(Value.int .i64 0),(Value.int .i64 0),(Value.slice none 0 0)]⟩ 60) fun f aL=>lS [(Value.int .i64 aH),(Value.int .i64 aI),(Value.int .i64 aJ),(Value.int .i64 aK),(Value.slice p.a p.len p.cap)] aL f 0 fun d=>let B:Bool->Prop:=fun aM=>((bif aM then
 Ld (.int .i64) d (f.add 1) fun aN=>Ld (.int .i64) d (f.add 2) fun aO=>Ld .slice d (f.add 4) fun aP=>kW h aN aO aP d fun bL bM aQ=>A aQ
 else
 A d))
 Ld .slice d (f.add 4) fun aR=>(bif (decide ((aR.len:Int)<=100)) then
 Ld (.int .i64) d f fun aS=>B (decide (aS<5))
 else
 B false)
 else
 iW h 86400 c fun bN aT=>qN h aT fun aU e=>EC Tryz.prog none [.agg [(.int .i64),(.int .i64),(.int .i64),(.int .i64)],.one (.int .i64)] aU e (fun q bO r aV=>r.heap[q]? =r.heap[q]? /\
 St (fB r q) b (Value.bool false) fun aW=>aV .ret aW)
 (fun aX=>let C:World->Prop:=fun s=>(s.heap[e.heap.size]? =some (.deferred (some []))/\
 Ld .bool (s.putObj e.heap.size (.deferred none)) b fun aY=>K aY (s.putObj e.heap.size (.deferred none)))
 ku x aX fun bP aZ bQ bR bS bT bU D=>(bif ((aZ.len:Int)==0) then
 lC D fun a0 a2=>St a2 b (Value.bool a0) fun a3=>C a3
 else
 St D b (Value.bool false) fun a5=>C a5))
 (fun t=>t.heap[e.heap.size]? =some (.deferred (some []))/\
 Ld .bool (t.putObj e.heap.size (.deferred none)) b fun a7=>K a7 (t.putObj e.heap.size (.deferred none)))
 [])) (0,()) y))
 (bif (aA !=0) then
 n true
 else
 (bif (aC !=0) then
 n true
 else
 n (Option.isNone h)))))
 vF k j fun a8 a9 ba bb bc bd be bf bg bh bi bj bk bl bm bn bo bp bq br bs bt bu bv bw bx bz bA bB bC bD bE bF bG bH bI=>AP a8 a9 ba bb bc bd be bf bg bh bi bj bk bl bm bn bo bp bq br bs bt bu bv bw bx bz bA bB bC bD bE bF bG bH bI k fun bJ i=>(bif (!bJ) then
 l true i
 else
 (bif (decide ((a1.len:Int)>40)) then
 l true i
 else
 Ld .slice i (j.add 35) fun bK=>l (decide ((bK.len:Int)>0)) i)))):=okF iF Tryz.func4 (.seq .leaf (.seq .leaf (.seq .leaf (.seq .leaf (.seq .leaf (.seq .leaf (.seq (.seq .leaf (.blk (.loop [(50,(.int .i64))] .leaf))) (.seq .leaf (.seq (.seq .leaf (.blk (.rng [.agg [(.int .i64),(.int .i64),(.int .i64),(.int .i64)],.one (.int .i64)] .leaf .leaf))) .leaf))))))))) (by kernel_rfl)
theorem Vl {A0 A1 A2 A3 A4 A5 A6 A7 A8 A9 A10 A11 A12 A13 A14 A15 A16 A17 A18 A19 A20 A21 A22 A23 A24 A25 A26 A27 A28 A29 A30 A31 A32 A33 A34 A35 w K}:fF (zO A0 A1 A2 A3 A4 A5 A6 A7 A8 A9 A10 A11 A12 A13 A14 A15 A16 A17 A18 A19 A20 A21 A22 A23 A24 A25 A26 A27 A28 A29 A30 A31 A32 A33 A34 A35 w K)
 (Al w (.cells ⟨(jh A0 A1 A2 A3 A4 A5 A6 A7 A8 A9 A10 A11 A12 A13 A14 A15 A16 A17 A18 A19 A20 A21 A22 A23 A24 A25 A26 A27 A28 A29 A30 A31 A32 A33 A34 A35)⟩ 33) fun a k=>vF k a fun r s t u v x y z A B C D E F G H I J L M N O P Q R T U V W X Y Z aa ab ac ad=>qM r s t u v x y z A B C D E F G H I J L M N O P Q R T U V W X Y Z aa ab ac ad k fun l h=>(bif (l !=0) then
 K none l h
 else
 vF h a fun ae af ag ah ai aj ak al am an ao ap aq ar au av aw ax ay az aA aB aC aD aE aF aG aH aI aJ aK aL aM aN aO aP=>Al h (.cells ⟨(adl none none none none none ae af ag ah ai aj ak al am an ao ap aq ar au av aw ax ay az aA aB aC aD aE aF aG aH aI aJ aK aL aM aN aO aP 0)⟩ 93) fun e g=>Ld .slice g (a.add 17) fun aQ=>Ld (.int .i64) g (a.add 18) fun aR=>Ld (.int .i64) g (a.add 19) fun aS=>zu aQ aR aS g fun aT bv aU=>Pt (some e) fun aV=>St aU aV (Value.pointer aT) fun i=>Ld .slice i (a.add 16) fun aW=>Ld (.int .i64) i (a.add 20) fun aX=>xE (aW.len:Int) aX i fun aY bw aZ=>Pt (some e) fun a0=>St aZ (a0.add 1) (Value.pointer aY) fun m=>Ld (.int .i64) m (a.add 21) fun a1=>zS a1 m fun a2 bx a4=>Pt (some e) fun a5=>St a4 (a5.add 2) (Value.pointer a2) fun n=>Ld (.int .i64) n (a.add 22) fun a6=>tY a6 n fun a7 bz a8=>Pt (some e) fun a9=>St a8 (a9.add 3) (Value.pointer a7) fun o=>Ld (.int .i64) o (a.add 22) fun ba=>uT ba o fun bb bA bc=>Pt (some e) fun bd=>St bc (bd.add 4) (Value.pointer bb) fun p=>Ld .slice p (a.add 35) fun q=>iw (S:=Int×Unit) (fun j b be=>(bif (decide (j.1<(q.len:Int))) then
 g_ q 7 j.1 fun f=>Ld (.int .i64) b (f.add 0) fun bf=>Ld (.int .i64) b (f.add 1) fun bg=>Ld (.int .i64) b (f.add 2) fun bh=>Ld (.int .i64) b (f.add 3) fun bi=>Ld (.int .i64) b (f.add 4) fun bj=>Ld (.int .i64) b (f.add 5) fun bk=>Ld (.int .i64) b (f.add 6) fun bl=>Al b (.cells ⟨[(Value.int .i64 0),(Value.int .i64 0),(Value.int .i64 0),(Value.int .i64 0),(Value.int .i64 0),(Value.int .i64 0),(Value.int .i64 0)]⟩ 105) fun c bm=>lS [(Value.int .i64 bf),(Value.int .i64 bg),(Value.int .i64 bh),(Value.int .i64 bi),(Value.int .i64 bj),(Value.int .i64 bk),(Value.int .i64 bl)] bm c 0 fun d=>Ld (.int .i64) d (c.add 0) fun bn=>Ld (.int .i64) d (c.add 1) fun bo=>Ld (.int .i64) d (c.add 2) fun bp=>Ld (.int .i64) d (c.add 3) fun bq=>Ld (.int .i64) d (c.add 4) fun br=>Ld (.int .i64) d (c.add 5) fun bs=>Ld (.int .i64) d (c.add 6) fun bt=>kL (some e) bn bo bp bq br bs bt d fun bB bu=>be ((IntKind.i64.wrap (j.1+1)),()) bu
 else
 K (some e) 0 b)) (0,()) p)):=okF iF Tryz.func6 (.seq .leaf (.seq .leaf (.seq .leaf (.seq .leaf (.seq .leaf (.seq .leaf (.seq .leaf (.seq .leaf (.seq (.seq .leaf (.blk (.loop [(76,(.int .i64))] .leaf))) .leaf))))))))) (by kernel_rfl)
theorem PX {w K}:fF (rC w K)
 (Al w (.cells ⟨(jh 0 0 0 0 0 0 0 0 0 0 0 0 0 0 0 0 ⟨none,0,0⟩ ⟨none,0,0⟩ 0 0 0 0 0 0 0 0 0 0 0 0 0 0 0 0 0 ⟨none,0,0⟩)⟩ 33) fun a c=>Al c (.cells ⟨[(Value.int .i64 8193),(Value.int .i64 3512),(Value.int .i64 0),(Value.int .i64 0),(Value.int .i64 0),(Value.int .i64 0),(Value.int .i64 0),(Value.int .i64 1)]⟩ 3) fun d e=>uK ⟨(some d),8,8⟩ e fun f g h i j k l m n o p q r s t u v=>Al v (.cells ⟨[(Value.int .i64 8193),(Value.int .i64 3512),(Value.int .i64 1),(Value.int .i64 0),(Value.int .i64 0),(Value.int .i64 0),(Value.int .i64 0),(Value.int .i64 1)]⟩ 3) fun x y=>uK ⟨(some x),8,8⟩ y fun z A B C D E F G H I J L M N O P Q=>Al Q (.cells ⟨[(Value.int .i64 8193),(Value.int .i64 3512),(Value.int .i64 2),(Value.int .i64 0),(Value.int .i64 0),(Value.int .i64 0),(Value.int .i64 0),(Value.int .i64 1)]⟩ 3) fun R S=>uK ⟨(some R),8,8⟩ S fun T U V W X Y Z aa ab ac ad ae af ag ah ai aj=>Al aj (.cells ⟨(adW z A B C D E F G H I J L M N O P T U V W X Y Z aa ab ac ad ae af ag ah ai)⟩ 28) fun ak al=>Al al (.cells ⟨[(Value.int .i64 3325256705)]⟩ 3) fun am an=>lS (jh f g h i j k l m n o p q r s t u ⟨(some ak),2,2⟩ ⟨(some am),1,1⟩ 1024 65535 16 64 128 8 1048576 1500 1500 64 0 2 300 7440 240 60 60 ⟨none,0,0⟩) an a 0 fun b=>vF b a fun ao ap aq ar au av aw ax ay az aA aB aC aD aE aF aG aH aI aJ aK aL aM aN aO aP aQ aR aS aT aU aV aW aX aY aZ=>K ao ap aq ar au av aw ax ay az aA aB aC aD aE aF aG aH aI aJ aK aL aM aN aO aP aQ aR aS aT aU aV aW aX aY aZ b):=okF iF Tryz.func7 .leaf (by kernel_rfl)
theorem Vq {a0 a1 w K}:fF (uJ a0 a1 w K)
 (let b:Bool->Prop:=fun i=>((bif i then
 K none 1 w
 else
 uT a1 w fun c d e=>(bif (d !=0) then
 K none d e
 else
 mX a0 e fun j k=>Al k (.cells ⟨[(Value.pointer a0),(Value.pointer c),(Value.map none),(Value.map none),(Value.int .i64 j),(Value.int .i64 0),(Value.int .i64 a1)]⟩ 111) fun a f=>Al f (.map #[] 0) fun s g=>Al g (.map #[] 0) fun t l=>Pt (some a) fun m=>St l (m.add 2) (Value.map (some f.heap.size)) fun n=>Pt (some a) fun o=>St n (o.add 3) (Value.map (some g.heap.size)) fun h=>Pt (some a) fun p=>Ld (.int .i64) h (p.add 4) fun q=>jm c q h fun u r=>K (some a) 0 r)))
 (bif (Option.isNone a0) then
 b true
 else
 (bif (decide (a1<1)) then
 b true
 else
 b (decide (a1>4096))))):=okF iF Tryz.func8 .leaf (by kernel_rfl)
theorem OG {w K}:fF (lC w K)
 (rC w fun j k l m n o p q r s t u v x y z A B C D E F G H I J L M N O P Q R S T U V=>zO j k l m n o p q r s t u v x y z A B C D E F G H I J L M N O P Q R S T U V fun c W X=>uJ c 4 X fun d Y g=>let e:Bool->Prop:=fun Z=>((bif Z then
 K false g
 else
 xO 1 167772161 60 80 8080 g fun aa ab=>kW d 1 167772161 aa ab fun ac ad ae=>CB ac ae fun af ag ah ai aj ak al am an ao ap aq ar au av aw ax ay az aA aB aC aD aE aF aG aH aI aJ aK aL aM aN aO aP aQ aR=>Al aR (.cells ⟨(O9 0 0 0 0 0 0 0 0 0 0 0 0 0 0 0 0 0 0 0 0 0 0 0 0 0 0 0 0 0 0 0 0 0 0 0)⟩ 53) fun f aS=>lS (O9 af ag ah ai aj ak al am an ao ap aq ar au av aw ax ay az aA aB aC aD aE aF aG aH aI aJ aK aL aM aN aO aP) aS f 0 fun a=>let b:Bool->World->Prop:=fun aT aU=>(K aT aU)
 (bif (ad==0) then
 (bif (aQ==0) then
 Ld (.int .i64) a f fun aV=>(bif (aV==0) then
 Ld (.int .i64) a (f.add 2) fun aW=>(bif (aW==60) then
 ku c a fun a1 aX a2 a3 a4 a5 a6 h=>(bif ((aX.len:Int)==1) then
 iW d 60 h fun aY i=>(bif (aY==1) then
 ku c i fun a7 aZ a8 a9 ba bb bc a0=>b ((aZ.len:Int)==0) a0
 else
 b false i)
 else
 b false h)
 else
 b false a)
 else
 b false a)
 else
 b false a)
 else
 b false a)))
 (bif (W !=0) then
 e true
 else
 (bif (Y !=0) then
 e true
 else
 e (Option.isNone d)))):=okF iF Tryz.func9 .leaf (by kernel_rfl)
theorem Fa {a0 a1 a2 a3 w K}:fF (kW a0 a1 a2 a3 w K)
 (ji a0 w fun B e=>(bif (!B) then
 K ⟨none,0,0⟩ 2 e
 else
 D_ a3 e fun C D E F G H I J L M N O P Q R S T U V W X Y Z aa ab ac ad ae af ag ah ai aj f ak=>Al ak (.cells ⟨(iK 0 0 0 0 0 0 0 0 0 0 0 0 0 0 0 0 0 0 0 0 0 0 0 0 0 0 0 0 0 0 0 0 0)⟩ 51) fun a al=>lS (iK C D E F G H I J L M N O P Q R S T U V W X Y Z aa ab ac ad ae af ag ah ai aj) al a 0 fun c=>(bif (f !=0) then
 K ⟨none,0,0⟩ f c
 else
 let g:Int->World->Prop:=fun h i=>(let j:World->Prop:=fun d=>(Pt a0 fun am=>Ld (.int .i64) d.drew (am.add 4) fun an=>jF d.drew a fun ao ap aq ar au av aw ax ay az aA aB aC aD aE aF aG aH aI aJ aK aL aM aN aO aP aQ aR aS aT aU aV aW=>rU h (wG .i64 an 4294967295) ao ap aq ar au av aw ax ay az aA aB aC aD aE aF aG aH aI aJ aK aL aM aN aO aP aQ aR aS aT aU aV aW d.drew fun aX aY aZ=>K aX aY aZ)
 (bif (h !=0) then
 St i a (Value.int .i64 30) fun a4=>j a4
 else
 j i))
 nY c.drew (a.add 1) fun k l m n o p q r s t u v x y z A=>u_ a2 c.drew fun a5 a6 a7 a8 a9 ba bb bc bd be bf bg bh bi bj bk b=>CkN (iM k l m n o p q r s t u v x y z A) b (a.add 1) 0 (
 (bif ((k==a5) && ((l==a6) && ((m==a7) && ((n==a8) && ((o==a9) && ((p==ba) && ((q==bb) && ((r==bc) && ((s==bd) && ((t==be) && ((u==bf) && ((v==bg) && ((x==bh) && ((y==bi) && ((z==bj) && ((A==bk) && true)))))))))))))))) then
 Ld (.int .i64) b (a.add 29) fun bl=>Ld (.int .i64) b (a.add 30) fun bm=>jF b a fun bn bo bp bq br bs bt bu bv bw bx bz bA bB bC bD bE bF bG bH bI bJ bK bL bM bN bO bP bQ bR bS bT bU=>vk a0 a1 bl a2 bm bn bo bp bq br bs bt bu bv bw bx bz bA bB bC bD bE bF bG bH bI bJ bK bL bM bN bO bP bQ bR bS bT bU b fun bV bW bX bY bZ b0 b1 b2 b3 b4 b5 b6 b7 b8 b9 ca cb cc cd ce cf cg ch ci cj ck cl cm cn co cp cq cr cs ct=>lS (iK bW bX bY bZ b0 b1 b2 b3 b4 b5 b6 b7 b8 b9 ca cb cc cd ce cf cg ch ci cj ck cl cm cn co cp cq cr cs) ct a 0 fun cu=>g bV cu
 else
 g 12 b))))):=okF iF Tryz.func10 .leaf (by kernel_rfl)
theorem SQ {a0 a1 a2 a3 a4 w K}:fF (xO a0 a1 a2 a3 a4 w K)
 (u_ a1 w fun a b c d e f g h i j k l m n o p q=>xM a2 a b c d e f g h i j k l m n o p 0 0 0 0 0 0 0 0 0 0 0 0 17 a3 a4 3325256705 q fun r t s=>K r s):=okF iF Tryz.func11 .leaf (by kernel_rfl)
theorem Dk {a0 a1 w K}:fF (iW a0 a1 w K)
 (ji a0 w fun j c=>(bif (!j) then
 K 0 c
 else
 Pt a0 fun k=>Ld (.int .i64) c (k.add 4) fun e=>Pt a0 fun l=>St c (l.add 4) (Value.int .i64 (if (if (1099511627776:Int)<a1 then 1099511627776 else a1)>e then (if (1099511627776:Int)<a1 then 1099511627776 else a1) else e)) fun d=>Pt a0 fun m=>Ld .ptr d.drew (m.add 1) fun n=>Pt a0 fun o=>Ld (.int .i64) d.drew (o.add 4) fun p=>jm n p d.drew fun f q=>iw (S:=Int×Int×Unit) (fun b a r=>(bif (decide (b.2.1<(f.len:Int))) then
 let g:Int->World->Prop:=fun s t=>(r (s,(IntKind.i64.wrap (b.2.1+1)),()) t)
 g_ f 1 b.2.1 fun u=>Ld (.int .i64) a u fun h=>Pt a0 fun v=>Ld .map a (v.add 3) fun x=>sH Tryz.prog 3 .ptr x (Value.int .i64 h) (Value.pointer none) a fun i=>Pt i fun y=>Ld (.int .i64) a.drew (y.add 7) fun z=>Pt a0 fun A=>Ld (.int .i64) a.drew (A.add 4) fun B=>(bif (decide (z>B)) then
 Pt a0 fun C=>Ld .ptr a.drew (C.add 1) fun D=>kK D h 1099511627776 a.drew fun G E=>g b.1 E
 else
 jZ a0 i a.drew fun F=>g (IntKind.i64.wrap (b.1+1)) F)
 else
 K b.1 a)) (0,0,()) q)):=okF iF Tryz.func12 (.seq .leaf (.seq .leaf (.seq .leaf (.seq .leaf (.seq (.seq .leaf (.blk (.loop [(5,(.int .i64)),(32,(.int .i64))] .leaf))) .leaf))))) (by kernel_rfl)
theorem Gy {a0 w K}:fF (ku a0 w K)
 (Al w (.cells ⟨[(Value.int .i64 0),(Value.slice none 0 0),(Value.slice none 0 0),(Value.int .i64 0),(Value.int .i64 0),(Value.int .i64 0),(Value.slice none 0 0)]⟩ 47) fun b T=>iV a0 T fun U r=>(bif (!U) then
 lS [(Value.int .i64 0),(Value.slice none 0 0),(Value.slice none 0 0),(Value.int .i64 0),(Value.int .i64 0),(Value.int .i64 0),(Value.slice none 0 0)] r b 0 fun l=>Ld (.int .i64) l (b.add 0) fun V=>Ld .slice l (b.add 1) fun W=>Ld .slice l (b.add 2) fun X=>Ld (.int .i64) l (b.add 3) fun Y=>Ld (.int .i64) l (b.add 4) fun Z=>Ld (.int .i64) l (b.add 5) fun aa=>Ld .slice l (b.add 6) fun ab=>K V W X Y Z aa ab l
 else
 let I:Addr->World->Prop:=fun e J=>(Al J (.map #[] 0) fun bn ac=>Al ac (.cells ⟨[(Value.map none)]⟩ 125) fun z ad=>St ad z (Value.map (some J.heap.size)) fun L=>Pt a0 fun ae=>Ld .ptr L (ae.add 2) fun af=>AB af L fun ag c=>EC Tryz.prog none [.one (.int .i64),.agg [(.int .i64),(.int .i64),(.int .i64),(.int .i64),(.int .i64),(.int .i64),(.int .i64),.bool]] ag c (fun s i M ah=>Al M (.cells ⟨[(Value.int .i64 0),(Value.int .i64 0),(Value.int .i64 0),(Value.int .i64 0),(Value.int .i64 0),(Value.int .i64 0),(Value.int .i64 0),(Value.bool false)]⟩ 130) fun j ai=>lS [(Value.int .i64 i.2.1.1),(Value.int .i64 i.2.1.2.1),(Value.int .i64 i.2.1.2.2.1),(Value.int .i64 i.2.1.2.2.2.1),(Value.int .i64 i.2.1.2.2.2.2.1),(Value.int .i64 i.2.1.2.2.2.2.2.1),(Value.int .i64 i.2.1.2.2.2.2.2.2.1),(Value.bool i.2.1.2.2.2.2.2.2.2.1)] ai j 0 fun x=>x.heap[s]? =M.heap[s]? /\
 Ld .map (fB x s) z fun aj=>Ld .slice (fB x s) (e.add 1) fun ak=>wJ Tryz.prog 3 aj (Value.int .i64 i.1) (Value.int .i64 (ak.len:Int)) (fB x s) fun f=>Ld .slice f (e.add 1) fun al=>Ld (.int .i64) f (j.add 0) fun am=>Ld (.int .i64) f (j.add 1) fun an=>Ld (.int .i64) f (j.add 2) fun ao=>Ld (.int .i64) f (j.add 3) fun ap=>Ld (.int .i64) f (j.add 4) fun aq=>Ld (.int .i64) f (j.add 5) fun ar=>Ld (.int .i64) f (j.add 6) fun au=>Ld .bool f (j.add 7) fun av=>Al f (.cells ⟨[(Value.int .i64 am),(Value.int .i64 an),(Value.int .i64 ao),(Value.int .i64 ap),(Value.int .i64 aq),(Value.int .i64 ar),(Value.int .i64 au),(Value.bool av)]⟩ 130) fun aw ax=>rY 130 8 64 [(Value.int .i64 0),(Value.int .i64 0),(Value.int .i64 0),(Value.int .i64 0),(Value.int .i64 0),(Value.int .i64 0),(Value.int .i64 0),(Value.bool false)] al ⟨(some aw),1,1⟩ ax fun A ay=>St ay (e.add 1) (Value.slice A.a A.len A.cap) fun az=>ah .normal az)
 (fun N=>Pt a0 fun aA=>Ld .ptr N (aA.add 3) fun aB=>sN aB N fun aC d=>EC Tryz.prog none [.one (.int .i64),.agg [(.int .i64),(.int .i64),(.int .i64),(.int .i64),(.int .i64)]] aC d (fun p t O aD=>Al O (.cells ⟨[(Value.int .i64 0),(Value.int .i64 0),(Value.int .i64 0),(Value.int .i64 0),(Value.int .i64 0)]⟩ 137) fun m aE=>lS [(Value.int .i64 t.2.1.1),(Value.int .i64 t.2.1.2.1),(Value.int .i64 t.2.1.2.2.1),(Value.int .i64 t.2.1.2.2.2.1),(Value.int .i64 t.2.1.2.2.2.2.1)] aE m 0 fun u=>u.heap[p]? =O.heap[p]? /\
 Ld .map (fB u p) z fun aF=>Ld (.int .i64) (fB u p) m fun aG=>sH Tryz.prog 3 (.int .i64) aF (Value.int .i64 aG) (Value.int .i64 0) (fB u p) fun aH=>St (fB u p) m (Value.int .i64 aH) fun o=>Ld .slice o (e.add 2) fun aI=>Ld (.int .i64) o (m.add 0) fun aJ=>Ld (.int .i64) o (m.add 1) fun aK=>Ld (.int .i64) o (m.add 2) fun aL=>Ld (.int .i64) o (m.add 3) fun aM=>Ld (.int .i64) o (m.add 4) fun aN=>Al o (.cells ⟨[(Value.int .i64 aJ),(Value.int .i64 aK),(Value.int .i64 aL),(Value.int .i64 aM),(Value.int .i64 aN)]⟩ 137) fun aO aP=>rY 137 5 40 [(Value.int .i64 0),(Value.int .i64 0),(Value.int .i64 0),(Value.int .i64 0),(Value.int .i64 0)] aI ⟨(some aO),1,1⟩ aP fun B aQ=>St aQ (e.add 2) (Value.slice B.a B.len B.cap) fun aR=>aD .normal aR)
 (fun n=>Ld (.int .i64) n (e.add 0) fun aS=>Ld .slice n (e.add 1) fun C=>Ld .slice n (e.add 2) fun D=>Ld (.int .i64) n (e.add 3) fun aT=>Ld (.int .i64) n (e.add 4) fun aU=>Ld (.int .i64) n (e.add 5) fun aV=>Ld .slice n (e.add 6) fun E=>lS [(Value.int .i64 aS),(Value.slice C.a C.len C.cap),(Value.slice D.a D.len D.cap),(Value.int .i64 aT),(Value.int .i64 aU),(Value.int .i64 aV),(Value.slice E.a E.len E.cap)] n b 0 fun g=>g.heap[d.heap.size]? =some (.deferred (some []))/\
 (g.putObj d.heap.size (.deferred none)).heap[c.heap.size]? =some (.deferred (some []))/\
 Ld (.int .i64) ((g.putObj d.heap.size (.deferred none)).putObj c.heap.size (.deferred none)) (b.add 0) fun aW=>Ld .slice ((g.putObj d.heap.size (.deferred none)).putObj c.heap.size (.deferred none)) (b.add 1) fun aX=>Ld .slice ((g.putObj d.heap.size (.deferred none)).putObj c.heap.size (.deferred none)) (b.add 2) fun aY=>Ld (.int .i64) ((g.putObj d.heap.size (.deferred none)).putObj c.heap.size (.deferred none)) (b.add 3) fun aZ=>Ld (.int .i64) ((g.putObj d.heap.size (.deferred none)).putObj c.heap.size (.deferred none)) (b.add 4) fun a1=>Ld (.int .i64) ((g.putObj d.heap.size (.deferred none)).putObj c.heap.size (.deferred none)) (b.add 5) fun a2=>Ld .slice ((g.putObj d.heap.size (.deferred none)).putObj c.heap.size (.deferred none)) (b.add 6) fun a4=>K aW aX aY aZ a1 a2 a4 ((g.putObj d.heap.size (.deferred none)).putObj c.heap.size (.deferred none)))
 (fun h=>h.heap[d.heap.size]? =some (.deferred (some []))/\
 (h.putObj d.heap.size (.deferred none)).heap[c.heap.size]? =some (.deferred (some []))/\
 Ld (.int .i64) ((h.putObj d.heap.size (.deferred none)).putObj c.heap.size (.deferred none)) (b.add 0) fun a5=>Ld .slice ((h.putObj d.heap.size (.deferred none)).putObj c.heap.size (.deferred none)) (b.add 1) fun a6=>Ld .slice ((h.putObj d.heap.size (.deferred none)).putObj c.heap.size (.deferred none)) (b.add 2) fun a7=>Ld (.int .i64) ((h.putObj d.heap.size (.deferred none)).putObj c.heap.size (.deferred none)) (b.add 3) fun a8=>Ld (.int .i64) ((h.putObj d.heap.size (.deferred none)).putObj c.heap.size (.deferred none)) (b.add 4) fun a9=>Ld (.int .i64) ((h.putObj d.heap.size (.deferred none)).putObj c.heap.size (.deferred none)) (b.add 5) fun ba=>Ld .slice ((h.putObj d.heap.size (.deferred none)).putObj c.heap.size (.deferred none)) (b.add 6) fun bb=>K a5 a6 a7 a8 a9 ba bb ((h.putObj d.heap.size (.deferred none)).putObj c.heap.size (.deferred none)))
 [])
 (fun k=>k.heap[c.heap.size]? =some (.deferred (some []))/\
 Ld (.int .i64) (k.putObj c.heap.size (.deferred none)) (b.add 0) fun bc=>Ld .slice (k.putObj c.heap.size (.deferred none)) (b.add 1) fun bd=>Ld .slice (k.putObj c.heap.size (.deferred none)) (b.add 2) fun be=>Ld (.int .i64) (k.putObj c.heap.size (.deferred none)) (b.add 3) fun bf=>Ld (.int .i64) (k.putObj c.heap.size (.deferred none)) (b.add 4) fun bg=>Ld (.int .i64) (k.putObj c.heap.size (.deferred none)) (b.add 5) fun bh=>Ld .slice (k.putObj c.heap.size (.deferred none)) (b.add 6) fun bi=>K bc bd be bf bg bh bi (k.putObj c.heap.size (.deferred none)))
 [])
 Pt a0 fun v=>Ld (.int .i64) r.drew (v.add 41) fun q=>Pt a0 fun F=>Ld .ptr r.drew (F.add 4) fun y=>(jK y r.drew fun bj P=>P.cell? (v.add 41)=some (Value.int .i64 q)/\
 Al P (.cells ⟨[(Value.int .i64 0),(Value.slice none 0 0),(Value.slice none 0 0),(Value.int .i64 0),(Value.int .i64 0),(Value.int .i64 0),(Value.slice none 0 0)]⟩ 47) fun Q G=>G.cell? (F.add 4)=some (Value.pointer y)/\
 G.cell? (v.add 41)=some (Value.int .i64 q)/\
 lS [(Value.int .i64 q),(Value.slice none 0 0),(Value.slice none 0 0),(Value.int .i64 0),(Value.int .i64 0),(Value.int .i64 bj),(Value.slice none 0 0)] G Q 0 fun bk=>I Q bk)/\
 (Al r.drew (.cells ⟨[(Value.int .i64 0),(Value.slice none 0 0),(Value.slice none 0 0),(Value.int .i64 0),(Value.int .i64 0),(Value.int .i64 0),(Value.slice none 0 0)]⟩ 47) fun R H=>H.cell? (F.add 4)=some (Value.pointer y)/\
 H.cell? (v.add 41)=some (Value.int .i64 q)/\
 jK y H fun bl S=>S.cell? (v.add 41)=some (Value.int .i64 q)/\
 lS [(Value.int .i64 q),(Value.slice none 0 0),(Value.slice none 0 0),(Value.int .i64 0),(Value.int .i64 0),(Value.int .i64 bl),(Value.slice none 0 0)] S R 0 fun bm=>I R bm))):=okF iF Tryz.func13 (.seq .leaf (.seq .leaf (.seq .leaf (.seq .leaf (.seq (.seq .leaf (.blk (.rng [.one (.int .i64),.agg [(.int .i64),(.int .i64),(.int .i64),(.int .i64),(.int .i64),(.int .i64),(.int .i64),.bool]] .leaf .leaf))) (.seq (.seq .leaf (.blk (.rng [.one (.int .i64),.agg [(.int .i64),(.int .i64),(.int .i64),(.int .i64),(.int .i64)]] .leaf .leaf))) .leaf)))))) (by kernel_rfl)
theorem U9 {a0 w K}:fF (CB a0 w K)
 (Al w (.cells ⟨(O9 0 0 0 0 0 0 0 0 0 0 0 0 0 0 0 0 0 0 0 0 0 0 0 0 0 0 0 0 0 0 0 0 0 0 0)⟩ 53) fun a h=>Di a0 129 h fun i j k l m n o p q r s t u v x y z A B C D E F G H I J L M N O P Q d R=>Al R (.cells ⟨(iK 0 0 0 0 0 0 0 0 0 0 0 0 0 0 0 0 0 0 0 0 0 0 0 0 0 0 0 0 0 0 0 0 0)⟩ 51) fun b S=>lS (iK i j k l m n o p q r s t u v x y z A B C D E F G H I J L M N O P Q) S b 0 fun e=>(bif (d !=0) then
 lS (O9 0 0 0 0 0 0 0 0 0 0 0 0 0 0 0 0 0 0 0 0 0 0 0 0 0 0 0 0 0 0 0 0 0 0 0) e a 0 fun f=>acj f a fun T U V W X Y Z aa ab ac ad ae af ag ah ai aj ak al am an ao ap aq ar au av aw ax ay az aA aB aC aD=>K T U V W X Y Z aa ab ac ad ae af ag ah ai aj ak al am an ao ap aq ar au av aw ax ay az aA aB aC aD d f
 else
 lS (iM 0 0 0 0 0 0 0 0 0 0 0 0 0 0 0 0) e (b.add 1) 0 fun aE=>zB a0 8 4 aE fun aF bR c=>g_ a0 1 3 fun aG=>Ld (.int .u8) c.drew aG fun aH=>jF c.drew b fun aI aJ aK aL aM aN aO aP aQ aR aS aT aU aV aW aX aY aZ a1 a2 a4 a5 a6 a7 a8 a9 ba bb bc bd be bf bg=>lS (O9 (IntKind.i64.wrap aH) aF aI aJ aK aL aM aN aO aP aQ aR aS aT aU aV aW aX aY aZ a1 a2 a4 a5 a6 a7 a8 a9 ba bb bc bd be bf bg) c.drew a 0 fun g=>acj g a fun bh bi bj bk bl bm bn bo bp bq br bs bt bu bv bw bx bz bA bB bC bD bE bF bG bH bI bJ bK bL bM bN bO bP bQ=>K bh bi bj bk bl bm bn bo bp bq br bs bt bu bv bw bx bz bA bB bC bD bE bF bG bH bI bJ bK bL bM bN bO bP bQ 0 g)):=okF iF Tryz.func14 .leaf (by kernel_rfl)
theorem Ov {A0 A1 A2 A3 A4 A5 A6 A7 A8 A9 A10 A11 A12 A13 A14 A15 A16 A17 A18 A19 A20 A21 A22 A23 A24 A25 A26 A27 A28 A29 A30 A31 A32 A33 A34 A35 w K}:fF (AP A0 A1 A2 A3 A4 A5 A6 A7 A8 A9 A10 A11 A12 A13 A14 A15 A16 A17 A18 A19 A20 A21 A22 A23 A24 A25 A26 A27 A28 A29 A30 A31 A32 A33 A34 A35 w K)
 (Al w (.cells ⟨(jh A0 A1 A2 A3 A4 A5 A6 A7 A8 A9 A10 A11 A12 A13 A14 A15 A16 A17 A18 A19 A20 A21 A22 A23 A24 A25 A26 A27 A28 A29 A30 A31 A32 A33 A34 A35)⟩ 33) fun b c=>let d:Bool->World->Prop:=fun e f=>(K e f)
 vF c b fun g h i j k l m n o p q r s t u v x y z A B C D E F G H I J L M N O P Q R=>uq g h i j k l m n o p q r s t u v x y z A B C D E F G H I J L M N O P Q R c fun S a=>(bif S then
 vF a b fun T U V W X Y Z aa ab ac ad ae af ag ah ai aj ak al am an ao ap aq ar au av aw ax ay az aA aB aC aD aE=>tZ T U V W X Y Z aa ab ac ad ae af ag ah ai aj ak al am an ao ap aq ar au av aw ax ay az aA aB aC aD aE a fun aF aG=>d (aF==0) aG
 else
 d false a)):=okF iF Tryz.func15 .leaf (by kernel_rfl)
theorem DF {a0 w K}:fF (qN a0 w K)
 (gY (Value.pointer a0)=true/\
 Al w (.cells ⟨[(Value.pointer a0)]⟩ 35) fun a b=>K (Value.func (.func 55) #[] #[(Value.pointer (some a))]) b):=okF iF Tryz.func16 .leaf (by kernel_rfl)
theorem MH {A0 A1 A2 A3 A4 A5 A6 A7 A8 A9 A10 A11 A12 A13 A14 A15 A16 A17 A18 A19 A20 A21 A22 A23 A24 A25 A26 A27 A28 A29 A30 A31 A32 A33 A34 A35 w K}:fF (qM A0 A1 A2 A3 A4 A5 A6 A7 A8 A9 A10 A11 A12 A13 A14 A15 A16 A17 A18 A19 A20 A21 A22 A23 A24 A25 A26 A27 A28 A29 A30 A31 A32 A33 A34 A35 w K)
 (Al w (.cells ⟨(jh A0 A1 A2 A3 A4 A5 A6 A7 A8 A9 A10 A11 A12 A13 A14 A15 A16 A17 A18 A19 A20 A21 A22 A23 A24 A25 A26 A27 A28 A29 A30 A31 A32 A33 A34 A35)⟩ 33) fun b i=>vF i b fun n o p q r s t u v x y z A B C D E F G H I J L M N O P Q R T U V W X Y Z=>pK n o p q r s t u v x y z A B C D E F G H I J L M N O P Q R T U V W X Y Z i fun j aa=>iw (S:=Int×Unit) (fun e a ab=>(bif (decide (e.1<(j.len:Int))) then
 g_ j 3 e.1 fun f=>Ld (.int .i64) a (f.add 0) fun ac=>Ld (.int .i64) a (f.add 1) fun ad=>Ld (.int .i64) a (f.add 2) fun ae=>Al a (.cells ⟨[(Value.int .i64 0),(Value.int .i64 0),(Value.int .i64 0)]⟩ 187) fun c af=>lS [(Value.int .i64 ac),(Value.int .i64 ad),(Value.int .i64 ae)] af c 0 fun d=>Ld (.int .i64) d (c.add 0) fun ag=>Ld (.int .i64) d (c.add 1) fun ah=>Ld (.int .i64) d (c.add 2) fun ai=>iY ag ah ai d fun aj k=>(bif (!aj) then
 K 1 k
 else
 ab ((IntKind.i64.wrap (e.1+1)),()) k)
 else
 let l:Bool->World->Prop:=fun ak g=>((bif ak then
 K 1 g
 else
 vF g b fun al am an ao ap aq ar au av aw ax ay az aA aB aC aD aE aF aG aH aI aJ aK aL aM aN aO aP aQ aR aS aT aU aV aW=>oD al am an ao ap aq ar au av aw ax ay az aA aB aC aD aE aF aG aH aI aJ aK aL aM aN aO aP aQ aR aS aT aU aV aW g fun aX m=>(bif aX then
 K 9 m
 else
 K 0 m)))
 Ld (.int .i64) a (b.add 28) fun aY=>qH aY a fun aZ h=>(bif (!aZ) then
 l true h
 else
 vF h b fun a0 a1 a2 a4 a5 a6 a7 a8 a9 ba bb bc bd be bf bg bh bi bj bk bl bm bn bo bp bq br bs bt bu bv bw bx bz bA bB=>qG a0 a1 a2 a4 a5 a6 a7 a8 a9 ba bb bc bd be bf bg bh bi bj bk bl bm bn bo bp bq br bs bt bu bv bw bx bz bA bB h fun bC bD=>l (!bC) bD))) (0,()) aa):=okF iF Tryz.func29 (.seq .leaf (.seq (.seq .leaf (.blk (.loop [(8,(.int .i64))] .leaf))) .leaf)) (by kernel_rfl)
theorem Ve {a0 a1 a2 w K}:fF (zu a0 a1 a2 w K)
 (let b:Bool->Prop:=fun k=>((bif k then
 K none 1 w
 else
 iw (S:=Int×Unit) (fun c d l=>(bif (decide (c.1<(a0.len:Int))) then
 g_ a0 1 c.1 fun m=>Ld (.int .i64) d m fun f=>let g:Bool->World->Prop:=fun n h=>((bif n then
 K none 1 h
 else
 l ((IntKind.i64.wrap (c.1+1)),()) h))
 ny f d fun o i=>(bif (!o) then
 g true i
 else
 EG a0 1 0 c.1 fun p=>gZ p f i fun q r=>g q r)
 else
 jf a0 d fun e j=>Al j (.map #[] 0) fun v s=>Al s (.cells ⟨[(Value.int .i64 a1),(Value.int .i64 a2),(Value.slice e.a e.len e.cap),(Value.map (some j.heap.size))]⟩ 194) fun t u=>K (some t) 0 u)) (0,()) w))
 (bif (decide ((a0.len:Int)<1)) then
 b true
 else
 (bif (decide ((a0.len:Int)>16)) then
 b true
 else
 (bif (decide (a1<1)) then
 b true
 else
 (bif (decide (a2<a1)) then
 b true
 else
 b (decide (a2>=65536))))))):=okF iF Tryz.func30 (.seq .leaf (.seq .leaf (.seq (.seq .leaf (.blk (.loop [(33,(.int .i64))] .leaf))) .leaf))) (by kernel_rfl)
theorem Rf {a0 a1 w K}:fF (xE a0 a1 w K)
 (let b:Bool->Prop:=fun h=>((bif h then
 K none 1 w
 else
 TW 199 2 16 [(Value.int .i64 0),(Value.int .i64 0)] a0 a0 w fun c i=>Al i (.cells ⟨[(Value.slice c.a c.len c.cap)]⟩ 197) fun d g=>Pt (some d) fun j=>Ld .slice g j fun k=>iw (S:=Int×Unit) (fun e f l=>(bif (decide (e.1<(k.len:Int))) then
 Pt (some d) fun m=>Ld .slice f m fun n=>g_ n 2 e.1 fun o=>St f (o.add 1) (Value.int .i64 a1) fun p=>l ((IntKind.i64.wrap (e.1+1)),()) p
 else
 K (some d) 0 f)) (0,()) g))
 (bif (decide (a0<1)) then
 b true
 else
 (bif (decide (a0>64)) then
 b true
 else
 (bif (decide (a1<0)) then
 b true
 else
 b (decide (a1>4096)))))):=okF iF Tryz.func31 (.seq .leaf (.seq .leaf (.seq .leaf (.seq (.seq .leaf (.blk (.loop [(31,(.int .i64))] .leaf))) .leaf)))) (by kernel_rfl)
theorem Uy {a0 w K}:fF (zS a0 w K)
 (let c:Bool->Prop:=fun f=>((bif f then
 K none 1 w
 else
 uI a0 w fun g h i=>uI a0 i fun j k d=>let e:Bool->Prop:=fun l=>((bif l then
 K none 1 d
 else
 TW 243 9 72 (OB 0 0 0 0 0 0 0 false false) a0 a0 d fun b m=>Al m (.cells ⟨[(Value.slice b.a b.len b.cap),(Value.pointer g),(Value.pointer j),(Value.int .i64 0)]⟩ 205) fun n o=>K (some n) 0 o))
 (bif (h !=0) then
 e true
 else
 e (k !=0))))
 (bif (decide (a0<0)) then
 c true
 else
 c (decide (a0>4096)))):=okF iF Tryz.func32 .leaf (by kernel_rfl)
theorem PK {a0 w K}:fF (tY a0 w K)
 (let c:Bool->Prop:=fun g=>((bif g then
 K none 1 w
 else
 uI a0 w fun h d e=>(bif (d !=0) then
 K none d e
 else
 TW 246 6 48 [(Value.int .i64 0),(Value.int .i64 0),(Value.int .i64 0),(Value.int .i64 0),(Value.int .i64 0),(Value.bool false)] a0 a0 e fun b f=>Al f (.map #[] 0) fun l i=>Al i (.cells ⟨[(Value.slice b.a b.len b.cap),(Value.pointer h),(Value.map (some f.heap.size)),(Value.int .i64 0)]⟩ 209) fun j k=>K (some j) 0 k)))
 (bif (decide (a0<0)) then
 c true
 else
 c (decide (a0>4096)))):=okF iF Tryz.func33 .leaf (by kernel_rfl)
theorem Tv {a0 w K}:fF (uT a0 w K)
 (let a:Bool->Prop:=fun b=>((bif b then
 K none 1 w
 else
 Al w (.map #[] 0) fun f c=>Al c (.cells ⟨(List.replicate 448 (Value.slice none 0 0)++([(Value.map (some w.heap.size)),(Value.int .i64 0),(Value.int .i64 0),(Value.int .i64 a0)]))⟩ 216) fun d e=>K (some d) 0 e))
 (bif (decide (a0<0)) then
 a true
 else
 a (decide (a0>1048576)))):=okF iF Tryz.func34 .leaf (by kernel_rfl)
theorem Iu {a0 B0 B1 B2 B3 B4 B5 B6 w K}:fF (kL a0 B0 B1 B2 B3 B4 B5 B6 w K)
 (Al w (.cells ⟨[(Value.int .i64 B0),(Value.int .i64 B1),(Value.int .i64 B2),(Value.int .i64 B3),(Value.int .i64 B4),(Value.int .i64 B5),(Value.int .i64 B6)]⟩ 105) fun a n=>iV a0 n fun o b=>(bif (!o) then
 K 2 b
 else
 Ld (.int .i64) b (a.add 0) fun p=>Ld (.int .i64) b (a.add 1) fun q=>Ld (.int .i64) b (a.add 2) fun r=>Ld (.int .i64) b (a.add 3) fun s=>Ld (.int .i64) b (a.add 4) fun t=>Ld (.int .i64) b (a.add 5) fun u=>Ld (.int .i64) b (a.add 6) fun v=>nG a0 p q r s t u v b fun x d=>(bif (!x) then
 K 1 d
 else
 Pt a0 fun y=>Ld .ptr d.drew (y.add 2) fun z=>Ld (.int .i64) d.drew (a.add 0) fun A=>Ld (.int .i64) d.drew (a.add 1) fun B=>Ld (.int .i64) d.drew (a.add 2) fun C=>Ld (.int .i64) d.drew (a.add 3) fun D=>lU z A B C D d.drew fun ak j e=>Pt a0 fun E=>Ld .ptr e.drew (E.add 2) fun F=>Ld (.int .i64) e.drew ((a.add 4).add 0) fun G=>Ld (.int .i64) e.drew ((a.add 4).add 1) fun H=>Ld (.int .i64) e.drew ((a.add 4).add 2) fun I=>nM F G H I e.drew fun al J f=>let k:Bool->Prop:=fun L=>((bif L then
 K 9 f
 else
 Pt a0 fun M=>Ld .ptr f.drew (M.add 1) fun N=>Ld (.int .i64) f.drew a fun O=>Pt a0 fun l=>Ld (.int .i64) f.drew ((l.add 5).add 20) fun m=>kV N O f.drew fun P i=>i.cell? ((l.add 5).add 20)=some (Value.int .i64 m)/\
 (bif (decide (P>=m)) then
 K 10 i
 else
 lN a0 i fun Q h=>(bif Q then
 K 7 h
 else
 Pt a0 fun R=>Ld .ptr h.drew (R.add 1) fun S=>Ld (.int .i64) h.drew a fun T=>lJ S T h.drew fun am g=>Pt a0 fun U=>Ld .ptr g.drew U fun V=>Ld (.int .i64) g.drew ((a.add 4).add 0) fun W=>Ld (.int .i64) g.drew ((a.add 4).add 1) fun X=>Ld (.int .i64) g.drew ((a.add 4).add 2) fun Y=>oq V W X Y g.drew fun an c=>Pt a0 fun Z=>Ld .ptr c.drew (Z.add 2) fun aa=>Ld (.int .i64) c.drew (a.add 0) fun ab=>Ld (.int .i64) c.drew (a.add 1) fun ac=>Ld (.int .i64) c.drew (a.add 2) fun ad=>Ld (.int .i64) c.drew (a.add 3) fun ae=>Ld (.int .i64) c.drew ((a.add 4).add 0) fun af=>Ld (.int .i64) c.drew ((a.add 4).add 1) fun ag=>Ld (.int .i64) c.drew ((a.add 4).add 2) fun ah=>uo aa ab ac ad ae af ag ah true c.drew fun ao ai aj=>K ai aj))))
 (bif j then
 k j
 else
 k J)))):=okF iF Tryz.func35 .leaf (by kernel_rfl)
theorem UO {a0 w K}:fF (uK a0 w K)
 (Al w (.cells ⟨(iM 0 0 0 0 0 0 0 0 0 0 0 0 0 0 0 0)⟩ 28) fun d h=>Al h (.cells ⟨(iM 0 0 0 0 0 0 0 0 0 0 0 0 0 0 0 0)⟩ 28) fun c i=>iw (S:=Int×Unit) (fun a b j=>let e:Bool->Prop:=fun k=>((bif k then
 g_ a0 1 a.1 fun l=>Ld (.int .i64) b l fun f=>(65536:Int)≠0/\
 (65536:Int)≠0/\
 (256:Int)≠0/\
 (256:Int)≠0/\
 (0:Int)<=(IntKind.i64.wrap (2 * a.1))/\(IntKind.i64.wrap (2 * a.1))<(16:Int)/\
 St b (c.add (Int.toNat (IntKind.i64.wrap (2 * a.1)) * 1)) (Value.int .u8 (IntKind.u8.wrap (IntKind.i64.wrap (Int.tdiv (Int.tmod (IntKind.i64.wrap ((Int.tmod f 65536)+65536)) 65536) 256)))) fun m=>(0:Int)<=(IntKind.i64.wrap ((IntKind.i64.wrap (2 * a.1))+1))/\(IntKind.i64.wrap ((IntKind.i64.wrap (2 * a.1))+1))<(16:Int)/\
 St m (c.add (Int.toNat (IntKind.i64.wrap ((IntKind.i64.wrap (2 * a.1))+1)) * 1)) (Value.int .u8 (IntKind.u8.wrap (Int.tmod (Int.tmod (IntKind.i64.wrap ((Int.tmod f 65536)+65536)) 65536) 256))) fun n=>j ((IntKind.i64.wrap (a.1+1)),()) n
 else
 nY b c fun o p q r s t u v x y z A B C D E=>lS (iM o p q r s t u v x y z A B C D E) b d 0 fun g=>nY g d fun F G H I J L M N O P Q R T U V W=>K F G H I J L M N O P Q R T U V W g))
 (bif (decide (a.1<(a0.len:Int))) then
 e (decide (a.1<8))
 else
 e false)) (0,()) i):=okF iF Tryz.func36 (.seq .leaf (.seq .leaf (.seq (.seq .leaf (.blk (.loop [(4,(.int .i64))] .leaf))) .leaf))) (by kernel_rfl)
theorem Iz {a0 w K}:fF (mX a0 w K)
 (iV a0 w fun b a=>(bif (!b) then
 K 0 a
 else
 Pt a0 fun c=>Ld (.int .i64) a (c.add 41) fun d=>K d a)):=okF iF Tryz.func37 .leaf (by kernel_rfl)
theorem CS {a0 a1 w K}:fF (jm a0 a1 w K)
 (iT a0 w fun g b=>(bif (!g) then
 K ⟨none,0,0⟩ b
 else
 Pt a0 fun h=>Ld (.int .i64) b (h.add 449) fun a=>iw (S:=b_×Unit) (fun c i j=>lI a0 i fun d k e=>let f:Bool->Prop:=fun l=>((bif l then
 jH a0 (if (if (1099511627776:Int)<a1 then 1099511627776 else a1)>a then (if (1099511627776:Int)<a1 then 1099511627776 else a1) else a) e fun m=>K c.1 m
 else
 jH a0 d e fun n=>mW a0 n fun o p=>rY 3 1 8 [(Value.int .i64 0)] c.1 o p fun q r=>j (q,()) r))
 (bif (!k) then
 f true
 else
 f (decide (d>(if (if (1099511627776:Int)<a1 then 1099511627776 else a1)>a then (if (1099511627776:Int)<a1 then 1099511627776 else a1) else a))))) (⟨none,0,0⟩,()) b)):=okF iF Tryz.func38 (.seq .leaf (.seq .leaf (.seq .leaf (.seq .leaf (.seq .leaf (.seq (.blk (.loop [(5,.slice)] .leaf)) .leaf)))))) (by kernel_rfl)
theorem Fb {a0 w K}:fF (ji a0 w K)
 (let a:Bool->Prop:=fun b=>(K b w)
 (bif (!(Option.isNone a0)) then
 Pt a0 fun c=>Ld .ptr w c fun d=>a (!(Option.isNone d))
 else
 a false)):=okF iF Tryz.func39 .leaf (by kernel_rfl)
theorem Sz {a0 w K}:fF (D_ a0 w K)
 (Al w (.cells ⟨(iK 0 0 0 0 0 0 0 0 0 0 0 0 0 0 0 0 0 0 0 0 0 0 0 0 0 0 0 0 0 0 0 0 0)⟩ 51) fun a c=>Di a0 1 c fun d e f g h i j k l m n o p q r s t u v x y z A B C D E F G H I J L M N=>lS (iK d e f g h i j k l m n o p q r s t u v x y z A B C D E F G H I J L) N a 0 fun b=>jF b a fun O P Q R S T U V W X Y Z aa ab ac ad ae af ag ah ai aj ak al am an ao ap aq ar au av aw=>K O P Q R S T U V W X Y Z aa ab ac ad ae af ag ah ai aj ak al am an ao ap aq ar au av aw M b):=okF iF Tryz.func40 .leaf (by kernel_rfl)
theorem Qm {a0 w K}:fF (u_ a0 w K)
 (Al w (.cells ⟨(iM 0 0 0 0 0 0 0 0 0 0 0 0 0 0 0 0)⟩ 28) fun b e=>yN e fun f g h i j k l m n o p q r s t u v=>Al v (.cells ⟨(iM 0 0 0 0 0 0 0 0 0 0 0 0 0 0 0 0)⟩ 28) fun a x=>lS (iM f g h i j k l m n o p q r s t u) x a 0 fun y=>sQ a 16 1 12 (16:Int) fun z=>yc ⟨none,0,0⟩ (wG .i64 a0 4294967295) 4 y.drew fun A B=>Ic 1 z A B fun aj c=>nY c a fun C D E F G H I J L M N O P Q R S=>lS (iM C D E F G H I J L M N O P Q R S) c b 0 fun d=>nY d b fun T U V W X Y Z aa ab ac ad ae af ag ah ai=>K T U V W X Y Z aa ab ac ad ae af ag ah ai d):=okF iF Tryz.func41 .leaf (by kernel_rfl)
theorem Ie {a0 B0 B1 B2 B3 C0 C1 C2 C3 C4 C5 C6 C7 C8 C9 C10 C11 C12 C13 C14 C15 C16 C17 C18 C19 C20 C21 C22 C23 C24 C25 C26 C27 C28 C29 C30 C31 C32 w K}:fF (vk a0 B0 B1 B2 B3 C0 C1 C2 C3 C4 C5 C6 C7 C8 C9 C10 C11 C12 C13 C14 C15 C16 C17 C18 C19 C20 C21 C22 C23 C24 C25 C26 C27 C28 C29 C30 C31 C32 w K)
 (Al w (.cells ⟨[(Value.int .i64 B0),(Value.int .i64 B1),(Value.int .i64 B2),(Value.int .i64 B3)]⟩ 78) fun d o=>Al o (.cells ⟨(iK C0 C1 C2 C3 C4 C5 C6 C7 C8 C9 C10 C11 C12 C13 C14 C15 C16 C17 C18 C19 C20 C21 C22 C23 C24 C25 C26 C27 C28 C29 C30 C31 C32)⟩ 51) fun c p=>Al p (.cells ⟨(iK 0 0 0 0 0 0 0 0 0 0 0 0 0 0 0 0 0 0 0 0 0 0 0 0 0 0 0 0 0 0 0 0 0)⟩ 51) fun e b=>Pt a0 fun q=>Ld .map b.drew (q.add 2) fun r=>Ld (.int .i64) b.drew (d.add 0) fun s=>Ld (.int .i64) b.drew (d.add 1) fun t=>Ld (.int .i64) b.drew (d.add 2) fun u=>Ld (.int .i64) b.drew (d.add 3) fun v=>Ar Tryz.prog 78 r (Value.agg ⟨[(Value.int .i64 s),(Value.int .i64 t),(Value.int .i64 u),(Value.int .i64 v)]⟩) (Value.pointer none) b.drew fun x h=>∃g:Option Addr,x=(Value.pointer g)/\
 Ld (.int .i64) b.drew (c.add 29) fun y=>Ld (.int .i64) b.drew (c.add 32) fun z=>Ld (.int .i64) b.drew (c.add 31) fun A=>Al b.drew (.cells ⟨[(Value.int .i64 0),(Value.int .i64 0),(Value.int .i64 0)]⟩ 80) fun f B=>lS [(Value.int .i64 y),(Value.int .i64 z),(Value.int .i64 A)] B f 0 fun a=>let i:Bool->Prop:=fun C=>((bif C then
 jZ a0 g a fun j=>jF j.drew c fun D E F G H I J L M N O P Q R S T U V W X Y Z aa ab ac ad ae af ag ah ai aj ak=>lS (iK D E F G H I J L M N O P Q R S T U V W X Y Z aa ab ac ad ae af ag ah ai aj ak) j.drew e 0 fun k=>jF k e fun al am an ao ap aq ar au av aw ax ay az aA aB aC aD aE aF aG aH aI aJ aK aL aM aN aO aP aQ aR aS aT=>K 0 al am an ao ap aq ar au av aw ax ay az aA aB aC aD aE aF aG aH aI aJ aK aL aM aN aO aP aQ aR aS aT k
 else
 Ld (.int .i64) a c fun aU=>(bif (aU==0) then
 jF a.drew c fun aV aW aX aY aZ a1 a2 a3 a4 a6 a8 ba bb bc bd be bf bg bh bi bj bk bl bm bn bo bp bq br bs bt bu bv=>lS (iK aV aW aX aY aZ a1 a2 a3 a4 a6 a8 ba bb bc bd be bf bg bh bi bj bk bl bm bn bo bp bq br bs bt bu bv) a.drew e 0 fun l=>jF l e fun bw bx bz bA bB bC bD bE bF bG bH bI bJ bK bL bM bN bO bP bQ bR bS bT bU bV bW bX bY bZ b0 b1 b2 b3=>K 0 bw bx bz bA bB bC bD bE bF bG bH bI bJ bK bL bM bN bO bP bQ bR bS bT bU bV bW bX bY bZ b0 b1 b2 b3 l
 else
 (bif h then
 Ld (.int .i64) a (f.add 0) fun b4=>Ld (.int .i64) a (f.add 1) fun b5=>Ld (.int .i64) a (f.add 2) fun b6=>jF a c fun b7 b8 b9 ca cb cc cd ce cf cg ch ci cj ck cl cm cn co cp cq cr cs ct cu cv cw cx cy cz cA cB cC cD=>sG a0 g b4 b5 b6 b7 b8 b9 ca cb cc cd ce cf cg ch ci cj ck cl cm cn co cp cq cr cs ct cu cv cw cx cy cz cA cB cC cD a fun cE cF cG cH cI cJ cK cL cM cN cO cP cQ cR cS cT cU cV cW cX cY cZ c0 c1 c2 c3 c4 c5 c6 c7 c8 c9 da db dc=>lS (iK cF cG cH cI cJ cK cL cM cN cO cP cQ cR cS cT cU cV cW cX cY cZ c0 c1 c2 c3 c4 c5 c6 c7 c8 c9 da db) dc e 0 fun m=>jF m e fun dd de df dg dh di dj dk dl dm dn dp dq dr ds dt du dv dw dx dy dz dA dB dC dD dE dF dG dH dI dJ dK=>K cE dd de df dg dh di dj dk dl dm dn dp dq dr ds dt du dv dw dx dy dz dA dB dC dD dE dF dG dH dI dJ dK m
 else
 Ld (.int .i64) a (d.add 0) fun dL=>Ld (.int .i64) a (d.add 1) fun dM=>Ld (.int .i64) a (d.add 2) fun dN=>Ld (.int .i64) a (d.add 3) fun dO=>Ld (.int .i64) a (f.add 0) fun dP=>Ld (.int .i64) a (f.add 1) fun dQ=>Ld (.int .i64) a (f.add 2) fun dR=>jF a c fun dS dT dU dV dW dX dY dZ d0 d1 d2 d3 d4 d5 d6 d7 d8 d9 ea eb ec ed ee ef eg eh ei ej ek el em en eo=>sD a0 dL dM dN dO dP dQ dR dS dT dU dV dW dX dY dZ d0 d1 d2 d3 d4 d5 d6 d7 d8 d9 ea eb ec ed ee ef eg eh ei ej ek el em en eo a fun ep eq er es et eu ev ew ex ey ez eA eB eC eD eE eF eG eH eI eJ eK eL eM eN eO eP eQ eR eS eT eU eV eW eX=>lS (iK eq er es et eu ev ew ex ey ez eA eB eC eD eE eF eG eH eI eJ eK eL eM eN eO eP eQ eR eS eT eU eV eW) eX e 0 fun n=>jF n e fun eY eZ e0 e1 e2 e3 e4 e5 e6 e7 e8 e9 fa fb fc fd fe ff fg fh fi fj fk fl fm fn fo fp fq fr fs ft fu=>K ep eY eZ e0 e1 e2 e3 e4 e5 e6 e7 e8 e9 fa fb fc fd fe ff fg fh fi fj fk fl fm fn fo fp fq fr fs ft fu n))))
 Ld (.int .i64) a c fun fv=>(bif (fv==0) then
 i h
 else
 i false)):=okF iF Tryz.func42 .leaf (by kernel_rfl)
theorem PW {A0 A1 A2 A3 A4 A5 A6 A7 A8 A9 A10 A11 A12 A13 A14 A15 A16 A17 A18 A19 A20 A21 A22 A23 A24 A25 A26 A27 A28 A29 A30 A31 A32 A33 A34 w K}:fF (rU A0 A1 A2 A3 A4 A5 A6 A7 A8 A9 A10 A11 A12 A13 A14 A15 A16 A17 A18 A19 A20 A21 A22 A23 A24 A25 A26 A27 A28 A29 A30 A31 A32 A33 A34 w K)
 (Al w (.cells ⟨(O9 A0 A1 A2 A3 A4 A5 A6 A7 A8 A9 A10 A11 A12 A13 A14 A15 A16 A17 A18 A19 A20 A21 A22 A23 A24 A25 A26 A27 A28 A29 A30 A31 A32 A33 A34)⟩ 53) fun a e=>let f:Bool->World->Prop:=fun h c=>((bif h then
 K ⟨none,0,0⟩ 1 c
 else
 Ld (.int .i64) c a fun i=>Al c (.cells ⟨[(Value.int .i64 2),(Value.int .i64 1),(Value.int .i64 129),(Value.int .i64 1),(Value.int .i64 0),(Value.int .i64 1),(Value.int .i64 i),(Value.int .i64 1)]⟩ 233) fun j k=>rE ⟨none,0,0⟩ ⟨(some j),4,4⟩ k fun l d=>Ld (.int .i64) d (a.add 2) fun m=>Ld (.int .i64) d (a.add 1) fun n=>Al d (.cells ⟨(acr m 4 n 4 0 4 0 4 0 4)⟩ 233) fun o p=>rE l ⟨(some o),5,5⟩ p fun q g=>jF g (a.add 2) fun r s t u v x y z A B C D E F G H I J L M N O P Q R S T U V W X Y Z=>nV r s t u v x y z A B C D E F G H I J L M N O P Q R S T U V W X Y Z q g fun aa ab=>K aa 0 ab))
 jF e (a.add 2) fun ac ad ae af ag ah ai aj ak al am an ao ap aq ar au av aw ax ay az aA aB aC aD aE aF aG aH aI aJ aK=>pR ac ad ae af ag ah ai aj ak al am an ao ap aq ar au av aw ax ay az aA aB aC aD aE aF aG aH aI aJ aK e fun aL b=>(bif (!aL) then
 f true b
 else
 Ld (.int .i64) b a fun aM=>Ld (.int .i64) b (a.add 1) fun aN=>Al b (.cells ⟨[(Value.int .i64 aM),(Value.int .i64 1),(Value.int .i64 aN),(Value.int .i64 4)]⟩ 233) fun aO aP=>yV ⟨(some aO),2,2⟩ aP fun aQ aR=>f (!aQ) aR)):=okF iF Tryz.func43 .leaf (by kernel_rfl)
theorem RX {A0 A1 A2 A3 A4 A5 A6 A7 A8 A9 A10 A11 A12 A13 A14 A15 A16 A17 A18 A19 A20 A21 A22 A23 A24 A25 A26 A27 A28 A29 A30 A31 A32 w K}:fF (xM A0 A1 A2 A3 A4 A5 A6 A7 A8 A9 A10 A11 A12 A13 A14 A15 A16 A17 A18 A19 A20 A21 A22 A23 A24 A25 A26 A27 A28 A29 A30 A31 A32 w K)
 (Al w (.cells ⟨(iK A0 A1 A2 A3 A4 A5 A6 A7 A8 A9 A10 A11 A12 A13 A14 A15 A16 A17 A18 A19 A20 A21 A22 A23 A24 A25 A26 A27 A28 A29 A30 A31 A32)⟩ 51) fun a c=>jF c a fun O P Q R S T U V W X Y Z aa ab ac ad ae af ag ah ai aj ak al am an ao ap aq ar au av aw=>pR O P Q R S T U V W X Y Z aa ab ac ad ae af ag ah ai aj ak al am an ao ap aq ar au av aw c fun ax b=>(bif (!ax) then
 K ⟨none,0,0⟩ 1 b
 else
 Ld (.int .i64) b a fun ay=>Al b (.cells ⟨[(Value.int .i64 2),(Value.int .i64 1),(Value.int .i64 1),(Value.int .i64 1),(Value.int .i64 0),(Value.int .i64 2),(Value.int .i64 ay),(Value.int .i64 4)]⟩ 233) fun az aA=>rE ⟨none,0,0⟩ ⟨(some az),4,4⟩ aA fun aB d=>jF d.drew a fun e f g h i j k l m n o p q r s t u v x y z A B C D E F G H I J L M=>sQ (a.add 1) 16 1 0 (16:Int) fun aC=>rY 5 1 1 [(Value.int .u8 0)] aB aC d.drew fun aD N=>CkN (iK e f g h i j k l m n o p q r s t u v x y z A B C D E F G H I J L M) N a 0 (
 nV e f g h i j k l m n o p q r s t u v x y z A B C D E F G H I J L M aD N fun aE aF=>K aE 0 aF))):=okF iF Tryz.func44 .leaf (by kernel_rfl)
theorem Hy {a0 a1 a2 w K}:fF (kK a0 a1 a2 w K)
 (iT a0 w fun y d=>(bif (!y) then
 K 2 d
 else
 let f:Bool->Prop:=fun z=>((bif z then
 K 1 d
 else
 Pt a0 fun A=>Ld .map d (A.add 448) fun B=>Ar Tryz.prog 3 B (Value.int .i64 a1) (Value.agg ⟨[(Value.int .i64 0),(Value.int .i64 0),(Value.int .i64 0)]⟩) d fun C l=>∃m:Int,∃n:Int,∃o:Int,C=(Value.agg ⟨[(Value.int .i64 m),(Value.int .i64 n),(Value.int .i64 o)]⟩)/\
 Al d (.cells ⟨[(Value.int .i64 0),(Value.int .i64 0),(Value.int .i64 0)]⟩ 237) fun g D=>lS [(Value.int .i64 m),(Value.int .i64 n),(Value.int .i64 o)] D g 0 fun b=>let p:Bool->World->Prop:=fun E c=>((bif E then
 K 7 c
 else
 let q:World->Prop:=fun r=>(Pt a0 fun F=>Ld (.int .i64) r (F.add 450) fun G=>Pt a0 fun H=>St r (H.add 450) (Value.int .i64 (IntKind.i64.wrap (G+1))) fun i=>Pt a0 fun s=>Ld (.int .i64) i.drew (s.add 449) fun j=>Pt a0 fun t=>Ld (.int .i64) i.drew (t.add 450) fun u=>Al i.drew (.cells ⟨[(Value.int .i64 0),(Value.int .i64 0),(Value.int .i64 0)]⟩ 237) fun a k=>k.cell? (t.add 450)=some (Value.int .i64 u)/\
 k.cell? (s.add 449)=some (Value.int .i64 j)/\
 lS [(Value.int .i64 a1),(Value.int .i64 (if j>a2 then j else a2)),(Value.int .i64 u)] k a 0 fun e=>Pt a0 fun I=>Ld .map e.drew (I.add 448) fun J=>Ld (.int .i64) e.drew (a.add 0) fun L=>Ld (.int .i64) e.drew (a.add 1) fun M=>Ld (.int .i64) e.drew (a.add 2) fun N=>wJ Tryz.prog 3 J (Value.int .i64 a1) (Value.agg ⟨[(Value.int .i64 L),(Value.int .i64 M),(Value.int .i64 N)]⟩) e.drew fun h=>Ld (.int .i64) h (a.add 0) fun O=>Ld (.int .i64) h (a.add 1) fun P=>Ld (.int .i64) h (a.add 2) fun Q=>kJ a0 O P Q h fun R=>K 0 R)
 (bif l then
 Ld (.int .i64) c (g.add 0) fun S=>Ld (.int .i64) c (g.add 1) fun T=>Ld (.int .i64) c (g.add 2) fun U=>j_ a0 S T U c fun V=>q V
 else
 q c)))
 (bif (!l) then
 Pt a0 fun W=>Ld .map b.drew (W.add 448) fun X=>Pt a0 fun v=>Ld (.int .i64) b.drew (v.add 451) fun x=>KX b.drew X fun Y=>b.drew.cell? (v.add 451)=some (Value.int .i64 x)/\
 p (decide (Y>=x)) b.drew
 else
 p false b.drew)))
 (bif (decide (a1<0)) then
 f (decide (a1<0))
 else
 (bif (decide (a1>2147483648)) then
 f (decide (a1>2147483648))
 else
 (bif (decide (a2<0)) then
 f (decide (a2<0))
 else
 f (decide (a2>1099511627776))))))):=okF iF Tryz.func45 .leaf (by kernel_rfl)
theorem Gz {a0 a1 w K}:fF (jZ a0 a1 w K)
 (Pt a0 fun f=>Ld .ptr w.drew f fun g=>Pt a1 fun b=>Ld (.int .i64) w.drew (b.add 0) fun h=>Ld (.int .i64) w.drew (b.add 1) fun i=>Ld (.int .i64) w.drew (b.add 2) fun j=>Ld (.int .i64) w.drew (b.add 3) fun k=>kY g h i j k w.drew fun B d=>Pt a0 fun l=>Ld .ptr d.drew (l.add 1) fun m=>Pt a1 fun n=>Ld (.int .i64) d.drew (n.add 8) fun o=>jG m o d.drew fun C a=>Pt a0 fun p=>Ld .map a.drew (p.add 2) fun q=>Pt a1 fun c=>Ld (.int .i64) a.drew (c.add 0) fun r=>Ld (.int .i64) a.drew (c.add 1) fun s=>Ld (.int .i64) a.drew (c.add 2) fun t=>Ld (.int .i64) a.drew (c.add 3) fun u=>Dl Tryz.prog 78 q (Value.agg ⟨[(Value.int .i64 r),(Value.int .i64 s),(Value.int .i64 t),(Value.int .i64 u)]⟩) a.drew fun e=>Pt a0 fun v=>Ld .map e.drew (v.add 3) fun x=>Pt a1 fun y=>Ld (.int .i64) e.drew (y.add 8) fun z=>Dl Tryz.prog 3 x (Value.int .i64 z) e.drew fun A=>K A):=okF iF Tryz.func46 .leaf (by kernel_rfl)
theorem DT {a0 w K}:fF (iV a0 w K)
 (let a:Bool->Prop:=fun b=>(K b w)
 (bif (!(Option.isNone a0)) then
 Pt a0 fun c=>Ld .ptr w c fun d=>a (!(Option.isNone d))
 else
 a false)):=okF iF Tryz.func47 .leaf (by kernel_rfl)
theorem Hl {a0 w K}:fF (jK a0 w K)
 (iT a0 w fun b a=>(bif (!b) then
 K 0 a
 else
 Pt a0 fun c=>Ld .map a (c.add 448) fun d=>KX a d fun e=>K e a)):=okF iF Tryz.func48 .leaf (by kernel_rfl)
theorem NQ {a0 w K}:fF (AB a0 w K)
 (gY (Value.pointer a0)=true/\
 Al w (.cells ⟨[(Value.pointer a0)]⟩ 87) fun a b=>K (Value.func (.func 112) #[] #[(Value.pointer (some a))]) b):=okF iF Tryz.func49 .leaf (by kernel_rfl)
theorem DX {a0 w K}:fF (sN a0 w K)
 (gY (Value.pointer a0)=true/\
 Al w (.cells ⟨[(Value.pointer a0)]⟩ 88) fun a b=>K (Value.func (.func 114) #[] #[(Value.pointer (some a))]) b):=okF iF Tryz.func50 .leaf (by kernel_rfl)
theorem Vu {a0 a1 w K}:fF (Di a0 a1 w K)
 (gY (Value.slice a0.a a0.len a0.cap)=true/\
 Al w (.cells ⟨[(Value.slice a0.a a0.len a0.cap)]⟩ 39) fun b B=>Al B (.cells ⟨(iK 0 0 0 0 0 0 0 0 0 0 0 0 0 0 0 0 0 0 0 0 0 0 0 0 0 0 0 0 0 0 0 0 0)⟩ 51) fun c d=>Ld .slice d b fun C=>(bif (decide ((C.len:Int)<60)) then
 lS (iK 0 0 0 0 0 0 0 0 0 0 0 0 0 0 0 0 0 0 0 0 0 0 0 0 0 0 0 0 0 0 0 0 0) d c 0 fun f=>jF f c fun D E F G H I J L M N O P Q R S T U V W X Y Z aa ab ac ad ae af ag ah ai aj ak=>K D E F G H I J L M N O P Q R S T U V W X Y Z aa ab ac ad ae af ag ah ai aj ak 3 f
 else
 Ld .slice d b fun al=>(bif (decide ((al.len:Int)>60)) then
 lS (iK 0 0 0 0 0 0 0 0 0 0 0 0 0 0 0 0 0 0 0 0 0 0 0 0 0 0 0 0 0 0 0 0 0) d c 0 fun g=>jF g c fun am an ao ap aq ar au av aw ax ay az aA aB aC aD aE aF aG aH aI aJ aK aL aM aN aO aP aQ aR aS aT aU=>K am an ao ap aq ar au av aw ax ay az aA aB aC aD aE aF aG aH aI aJ aK aL aM aN aO aP aQ aR aS aT aU 6 g
 else
 let h:Bool->Prop:=fun aV=>((bif aV then
 lS (iK 0 0 0 0 0 0 0 0 0 0 0 0 0 0 0 0 0 0 0 0 0 0 0 0 0 0 0 0 0 0 0 0 0) d c 0 fun i=>jF i c fun aW aX aY aZ a2 a3 a5 a7 a8 a9 ba bb bc bd be bf bg bh bi bj bk bl bm bn bo bp bq br bs bt bu bv bw=>K aW aX aY aZ a2 a3 a5 a7 a8 a9 ba bb bc bd be bf bg bh bi bj bk bl bm bn bo bp bq br bs bt bu bv bw 4 i
 else
 Al d (.cells ⟨(iM 0 0 0 0 0 0 0 0 0 0 0 0 0 0 0 0)⟩ 28) fun j k=>sQ j 16 1 0 (16:Int) fun bx=>Ld .slice k.drew b fun l=>EG l 1 44 (l.len:Int) fun bz=>Ic 1 bx bz k.drew fun dM m=>nY m j fun bA bB bC bD bE bF bG bH bI bJ bK bL bM bN bO bP=>DR bA bB bC bD bE bF bG bH bI bJ bK bL bM bN bO bP m fun bQ bR n=>(bif (!bR) then
 lS (iK 0 0 0 0 0 0 0 0 0 0 0 0 0 0 0 0 0 0 0 0 0 0 0 0 0 0 0 0 0 0 0 0 0) n c 0 fun o=>jF o c fun bS bT bU bV bW bX bY bZ b0 b1 b2 b3 b4 b5 b6 b7 b8 b9 ca cb cc cd ce cf cg ch ci cj ck cl cm cn co=>K bS bT bU bV bW bX bY bZ b0 b1 b2 b3 b4 b5 b6 b7 b8 b9 ca cb cc cd ce cf cg ch ci cj ck cl cm cn co 4 o
 else
 jI Tryz.prog [.one (.int .i64)] (Value.func (.func 117) #[] #[(Value.pointer (some b))]) [(Value.int .i64 4),(Value.int .i64 4)] n fun cp cq=>∃p:Int,cp=(Value.int .i64 p)/\
 jI Tryz.prog [.one (.int .i64)] (Value.func (.func 117) #[] #[(Value.pointer (some b))]) [(Value.int .i64 36),(Value.int .i64 1)] cq fun cr cs=>∃q:Int,cr=(Value.int .i64 q)/\
 jI Tryz.prog [.one (.int .i64)] (Value.func (.func 117) #[] #[(Value.pointer (some b))]) [(Value.int .i64 40),(Value.int .i64 2)] cs fun ct cu=>∃r:Int,ct=(Value.int .i64 r)/\
 jI Tryz.prog [.one (.int .i64)] (Value.func (.func 117) #[] #[(Value.pointer (some b))]) [(Value.int .i64 42),(Value.int .i64 2)] cu fun cv cw=>∃s:Int,cv=(Value.int .i64 s)/\
 Al cw (.cells ⟨(iK 0 0 0 0 0 0 0 0 0 0 0 0 0 0 0 0 0 0 0 0 0 0 0 0 0 0 0 0 0 0 0 0 0)⟩ 51) fun e cx=>lS (iK p 0 0 0 0 0 0 0 0 0 0 0 0 0 0 0 0 0 0 0 0 0 0 0 0 0 0 0 0 q r s bQ) cx e 0 fun t=>sQ (e.add 1) 16 1 0 (16:Int) fun cy=>Ld .slice t.drew b fun u=>EG u 1 8 (u.len:Int) fun cz=>Ic 1 cy cz t.drew fun dN v=>sQ (e.add 17) 12 1 0 (12:Int) fun cA=>Ld .slice v.drew b fun x=>EG x 1 24 (x.len:Int) fun cB=>Ic 1 cA cB v.drew fun dO y=>jF y e fun cC cD cE cF cG cH cI cJ cK cL cM cN cO cP cQ cR cS cT cU cV cW cX cY cZ c0 c1 c2 c3 c4 c5 c6 c7 c8=>lS (iK cC cD cE cF cG cH cI cJ cK cL cM cN cO cP cQ cR cS cT cU cV cW cX cY cZ c0 c1 c2 c3 c4 c5 c6 c7 c8) y c 0 fun z=>jF z c fun c9 da db dc dd de df dg dh di dj dk dl dm dn dp dq dr ds dt du dv dw dx dy dz dA dB dC dD dE dF dG=>K c9 da db dc dd de df dg dh di dj dk dl dm dn dp dq dr ds dt du dv dw dx dy dz dA dB dC dD dE dF dG 0 z)))
 Ld .slice d b fun dH=>g_ dH 1 0 fun dI=>Ld (.int .u8) d dI fun A=>(bif (A !=2) then
 h (A !=2)
 else
 Ld .slice d b fun dJ=>g_ dJ 1 1 fun dK=>Ld (.int .u8) d dK fun dL=>h (dL !=a1))))):=okF iF Tryz.func51 .leaf (by kernel_rfl)
theorem Y4 {a0 a1 a2 w K}:fF (zB a0 a1 a2 w K)
 (xI a0 a1 a2 w fun c d e=>iw (S:=Int×Int×Unit) (fun a b f=>(bif (decide (a.2.1<(c.len:Int))) then
 g_ c 1 a.2.1 fun g=>Ld (.int .u8) b g fun h=>0<=(8:Int)/\
 f ((orI .i64 (Xn .i64 a.1 8) (IntKind.i64.wrap h)),(IntKind.i64.wrap (a.2.1+1)),()) b
 else
 K a.1 d b)) (0,0,()) e):=okF iF Tryz.func52 (.seq .leaf (.seq .leaf (.seq .leaf (.seq (.seq .leaf (.blk (.loop [(10,(.int .i64)),(22,(.int .i64))] .leaf))) .leaf)))) (by kernel_rfl)
theorem OJ {A0 A1 A2 A3 A4 A5 A6 A7 A8 A9 A10 A11 A12 A13 A14 A15 A16 A17 A18 A19 A20 A21 A22 A23 A24 A25 A26 A27 A28 A29 A30 A31 A32 A33 A34 A35 w K}:fF (uq A0 A1 A2 A3 A4 A5 A6 A7 A8 A9 A10 A11 A12 A13 A14 A15 A16 A17 A18 A19 A20 A21 A22 A23 A24 A25 A26 A27 A28 A29 A30 A31 A32 A33 A34 A35 w K)
 (Al w (.cells ⟨(jh A0 A1 A2 A3 A4 A5 A6 A7 A8 A9 A10 A11 A12 A13 A14 A15 A16 A17 A18 A19 A20 A21 A22 A23 A24 A25 A26 A27 A28 A29 A30 A31 A32 A33 A34 A35)⟩ 33) fun b a=>let c:Bool->Prop:=fun d=>(K d a)
 Ld .slice a (b.add 16) fun e=>(bif (decide ((e.len:Int)<=8)) then
 Ld .slice a (b.add 17) fun f=>(bif (decide ((f.len:Int)<=4)) then
 Ld .slice a (b.add 35) fun g=>c (decide ((g.len:Int)<=12))
 else
 c false)
 else
 c false)):=okF iF Tryz.func53 .leaf (by kernel_rfl)
theorem O6 {A0 A1 A2 A3 A4 A5 A6 A7 A8 A9 A10 A11 A12 A13 A14 A15 A16 A17 A18 A19 A20 A21 A22 A23 A24 A25 A26 A27 A28 A29 A30 A31 A32 A33 A34 A35 w K}:fF (tZ A0 A1 A2 A3 A4 A5 A6 A7 A8 A9 A10 A11 A12 A13 A14 A15 A16 A17 A18 A19 A20 A21 A22 A23 A24 A25 A26 A27 A28 A29 A30 A31 A32 A33 A34 A35 w K)
 (Al w (.cells ⟨(jh A0 A1 A2 A3 A4 A5 A6 A7 A8 A9 A10 A11 A12 A13 A14 A15 A16 A17 A18 A19 A20 A21 A22 A23 A24 A25 A26 A27 A28 A29 A30 A31 A32 A33 A34 A35)⟩ 33) fun a d=>let e:Bool->World->Prop:=fun g b=>((bif g then
 K 1 b
 else
 vF b a fun h i j k l m n o p q r s t u v x y z A B C D E F G H I J L M N O P Q R S=>uy h i j k l m n o p q r s t u v x y z A B C D E F G H I J L M N O P Q R S b fun T f=>(bif T then
 K 9 f
 else
 K 0 f)))
 vF d a fun U V W X Y Z aa ab ac ad ae af ag ah ai aj ak al am an ao ap aq ar au av aw ax ay az aA aB aC aD aE aF=>o_ U V W X Y Z aa ab ac ad ae af ag ah ai aj ak al am an ao ap aq ar au av aw ax ay az aA aB aC aD aE aF d fun aG c=>(bif (!aG) then
 e true c
 else
 vF c a fun aH aI aJ aK aL aM aN aO aP aQ aR aS aT aU aV aW aX aY aZ a0 a1 a2 a4 a5 a6 a7 a8 a9 ba bb bc bd be bf bg bh=>um aH aI aJ aK aL aM aN aO aP aQ aR aS aT aU aV aW aX aY aZ a0 a1 a2 a4 a5 a6 a7 a8 a9 ba bb bc bd be bf bg bh c fun bi bj=>e (!bi) bj)):=okF iF Tryz.func54 .leaf (by kernel_rfl)
theorem Cb {a0 f0 w K}:fF (CX a0 f0 w K)
 (Ld .ptr w f0 fun k=>ji k w fun l c=>(bif (!l) then
 K c
 else
 Ld .ptr c f0 fun m=>Pt m fun n=>Ld .map c (n.add 2) fun o=>Wy o c fun b p=>iw (S:=b_×Unit) (fun d q r=>b=⟨b.block,0,none⟩/\
 Zk b.block q (fun s=>gQ d.1 (Value.func (.func 57) #[] #[]) s fun t=>iw (S:=Int×Unit) (fun f a u=>(bif (decide (f.1<(d.1.len:Int))) then
 g_ d.1 1 f.1 fun v=>Ld .ptr a v fun g=>Pt g fun e=>Ld (.int .i64) a.drew (e.add 0) fun x=>Ld (.int .i64) a.drew (e.add 1) fun y=>Ld (.int .i64) a.drew (e.add 2) fun z=>Ld (.int .i64) a.drew (e.add 3) fun A=>Pt g fun B=>Ld (.int .i64) a.drew (B.add 7) fun C=>jI Tryz.prog [.one .bool] a0 [(Value.agg ⟨[(Value.int .i64 x),(Value.int .i64 y),(Value.int .i64 z),(Value.int .i64 A)]⟩),(Value.int .i64 C)] a.drew fun D h=>∃i:Bool,D=(Value.bool i)/\
 (bif (!i) then
 K h
 else
 u ((IntKind.i64.wrap (f.1+1)),()) h)
 else
 K a)) (0,()) t) (fun L M j=>b=⟨b.block,0,none⟩/\
 Wp b.block j fun N E=>Kind.dec .ptr E fun F=>Al j (.cells ⟨[(Value.pointer F)]⟩ 120) fun G H=>rY 120 1 8 [(Value.pointer none)] d.1 ⟨(some G),1,1⟩ H fun I J=>r (I,()) J)) (⟨none,0,0⟩,()) p)):=okF iF Tryz.func55 (.seq .leaf (.seq .leaf (.seq (.seq .leaf (.blk (.loop [(3,.slice)] .leaf))) (.seq .leaf (.seq .leaf (.blk (.loop [(28,(.int .i64))] .leaf))))))) (by kernel_rfl)
theorem qg {a0 a1 w K}:fF (gQ a0 a1 w K)
 (kP (IntKind.u64.wrap (a0.len:Int)) w fun a b=>fZ a0 0 (a0.len:Int) a a1 b fun c=>K c):=okF iF Tryz.func56 .leaf (by kernel_rfl)
theorem Dj {a0 a1 w K}:fF (jV a0 a1 w K)
 (Pt a0 fun f=>Ld .ptr w (f.add 2) fun g=>pV g a1 w fun h i j k l m n o p q=>Al q (.cells ⟨[(Value.int .i64 0),(Value.int .i64 0),(Value.int .i64 0),(Value.int .i64 0),(Value.int .i64 0),(Value.int .i64 0),(Value.int .i64 0),(Value.bool false)]⟩ 130) fun a r=>lS [(Value.int .i64 h),(Value.int .i64 i),(Value.int .i64 j),(Value.int .i64 k),(Value.int .i64 l),(Value.int .i64 m),(Value.int .i64 n),(Value.bool o)] r a 0 fun d=>(bif (!p) then
 K d
 else
 kU a0 a1 d fun e=>Pt a0 fun s=>Ld .ptr e (s.add 2) fun t=>nN t a1 e fun E b=>Pt a0 fun u=>Ld .ptr b.drew u fun v=>Ld (.int .i64) b.drew ((a.add 4).add 0) fun x=>Ld (.int .i64) b.drew ((a.add 4).add 1) fun y=>Ld (.int .i64) b.drew ((a.add 4).add 2) fun z=>nS v x y z b.drew fun F c=>Pt a0 fun A=>Ld .ptr c.drew (A.add 1) fun B=>Ld (.int .i64) c.drew a fun C=>lY B C c.drew fun G D=>K D)):=okF iF Tryz.func71 .leaf (by kernel_rfl)
theorem Fe {a0 a1 w K}:fF (kU a0 a1 w K)
 (gY (Value.pointer a0)=true/\
 Al w (.cells ⟨[(Value.pointer a0)]⟩ 23) fun e d=>Ld .ptr d e fun h=>Pt h fun i=>Ld .ptr d (i.add 3) fun j=>lM j a1 d fun k a=>EC Tryz.prog none [.one (.int .i64),.agg [(.int .i64),(.int .i64),(.int .i64),(.int .i64),(.int .i64)]] k a (fun b l c m=>c.heap[b]? =c.heap[b]? /\
 Ld .ptr (fB c b) e fun n=>EL n l.1 (fB c b) fun o=>m .normal o)
 (fun f=>f.heap[a.heap.size]? =some (.deferred (some []))/\
 K (f.putObj a.heap.size (.deferred none)))
 (fun g=>g.heap[a.heap.size]? =some (.deferred (some []))/\
 K (g.putObj a.heap.size (.deferred none)))
 []):=okF iF Tryz.func76 (.seq .leaf (.seq .leaf (.blk (.rng [.one (.int .i64),.agg [(.int .i64),(.int .i64),(.int .i64),(.int .i64),(.int .i64)]] .leaf .leaf)))) (by kernel_rfl)
theorem KQ {A0 A1 A2 A3 A4 A5 A6 A7 A8 A9 A10 A11 A12 A13 A14 A15 A16 A17 A18 A19 A20 A21 A22 A23 A24 A25 A26 A27 A28 A29 A30 A31 A32 A33 A34 A35 w K}:fF (pK A0 A1 A2 A3 A4 A5 A6 A7 A8 A9 A10 A11 A12 A13 A14 A15 A16 A17 A18 A19 A20 A21 A22 A23 A24 A25 A26 A27 A28 A29 A30 A31 A32 A33 A34 A35 w K)
 (Al w (.cells ⟨(jh A0 A1 A2 A3 A4 A5 A6 A7 A8 A9 A10 A11 A12 A13 A14 A15 A16 A17 A18 A19 A20 A21 A22 A23 A24 A25 A26 A27 A28 A29 A30 A31 A32 A33 A34 A35)⟩ 33) fun b a=>Ld .slice a (b.add 16) fun d=>Ld .slice a (b.add 17) fun e=>Ld .slice a (b.add 35) fun f=>Ld (.int .i64) a (b.add 21) fun c=>Ld (.int .i64) a (b.add 18) fun g=>Ld (.int .i64) a (b.add 19) fun h=>Ld (.int .i64) a (b.add 18) fun i=>Ld (.int .i64) a (b.add 20) fun j=>Ld (.int .i64) a (b.add 21) fun k=>Ld (.int .i64) a (b.add 22) fun l=>Ld (.int .i64) a (b.add 23) fun m=>Ld (.int .i64) a (b.add 24) fun n=>Ld (.int .i64) a (b.add 25) fun o=>Ld (.int .i64) a (b.add 26) fun p=>Ld (.int .i64) a (b.add 27) fun q=>Ld (.int .i64) a (b.add 29) fun r=>Ld (.int .i64) a (b.add 30) fun s=>Ld (.int .i64) a (b.add 31) fun t=>Ld (.int .i64) a (b.add 32) fun u=>Ld (.int .i64) a (b.add 33) fun v=>Ld (.int .i64) a (b.add 34) fun x=>Al a (.cells ⟨(adT (d.len:Int) 1 64 (e.len:Int) 1 16 (f.len:Int) 0 (if c<64 then c else 64) g 1 65535 h i 65535 j 1 4096 k 1 4096 l 1 4096 m 0 4096 n 0 67108864 o 1280 65535 p 1280 65535 q 1 255 r 0 2 s 120 1048576 t 7440 1048576 u 240 1048576 v 60 1048576 x 1 1048576)⟩ 187) fun y z=>K ⟨(some y),19,19⟩ z):=okF iF Tryz.func79 .leaf (by kernel_rfl)
theorem H6 {A0 A1 A2 w K}:fF (iY A0 A1 A2 w K)
 (Al w (.cells ⟨[(Value.int .i64 A0),(Value.int .i64 A1),(Value.int .i64 A2)]⟩ 187) fun b a=>let c:Bool->Prop:=fun d=>(K d a)
 Ld (.int .i64) a (b.add 1) fun e=>Ld (.int .i64) a b fun f=>(bif (decide (e<=f)) then
 Ld (.int .i64) a b fun g=>Ld (.int .i64) a (b.add 2) fun h=>c (decide (g<=h))
 else
 c false)):=okF iF Tryz.func80 .leaf (by kernel_rfl)
theorem MK {a0 w K}:fF (qH a0 w K)
 (let a:Bool->World->Prop:=fun b c=>(K b c)
 (bif (a0==0) then
 a true w
 else
 iY a0 536 65535 w fun d e=>a d e)):=okF iF Tryz.func81 .leaf (by kernel_rfl)
theorem MN {A0 A1 A2 A3 A4 A5 A6 A7 A8 A9 A10 A11 A12 A13 A14 A15 A16 A17 A18 A19 A20 A21 A22 A23 A24 A25 A26 A27 A28 A29 A30 A31 A32 A33 A34 A35 w K}:fF (qG A0 A1 A2 A3 A4 A5 A6 A7 A8 A9 A10 A11 A12 A13 A14 A15 A16 A17 A18 A19 A20 A21 A22 A23 A24 A25 A26 A27 A28 A29 A30 A31 A32 A33 A34 A35 w K)
 (Al w (.cells ⟨(jh A0 A1 A2 A3 A4 A5 A6 A7 A8 A9 A10 A11 A12 A13 A14 A15 A16 A17 A18 A19 A20 A21 A22 A23 A24 A25 A26 A27 A28 A29 A30 A31 A32 A33 A34 A35)⟩ 33) fun a e=>let f:Bool->World->Prop:=fun k b=>((bif k then
 K false b
 else
 let g:Bool->World->Prop:=fun l h=>((bif l then
 K false h
 else
 K true h))
 Ld .slice b (a.add 17) fun m=>iE m (Value.func (.func 161) #[] #[]) b fun i c=>(bif i then
 g i c
 else
 Ld .slice c (a.add 35) fun n=>f_ n (Value.func (.func 162) #[] #[(Value.pointer (some a))]) c fun o p=>g o p)))
 nY e a fun q r s t u v x y z A B C D E F G=>wI q r s t u v x y z A B C D E F G e fun j d=>(bif (!j) then
 f (!j) d
 else
 Ld .slice d (a.add 16) fun H=>gX H (Value.func (.func 159) #[] #[]) d fun I J=>f I J)):=okF iF Tryz.func82 .leaf (by kernel_rfl)
theorem Je {A0 A1 A2 A3 A4 A5 A6 A7 A8 A9 A10 A11 A12 A13 A14 A15 A16 A17 A18 A19 A20 A21 A22 A23 A24 A25 A26 A27 A28 A29 A30 A31 A32 A33 A34 A35 w K}:fF (oD A0 A1 A2 A3 A4 A5 A6 A7 A8 A9 A10 A11 A12 A13 A14 A15 A16 A17 A18 A19 A20 A21 A22 A23 A24 A25 A26 A27 A28 A29 A30 A31 A32 A33 A34 A35 w K)
 (Al w (.cells ⟨(jh A0 A1 A2 A3 A4 A5 A6 A7 A8 A9 A10 A11 A12 A13 A14 A15 A16 A17 A18 A19 A20 A21 A22 A23 A24 A25 A26 A27 A28 A29 A30 A31 A32 A33 A34 A35)⟩ 33) fun b f=>let F:b_->World->Prop:=fun Q R=>(let g:Bool->World->Prop:=fun T y=>((bif T then
 K true y
 else
 Ld .slice y (b.add 16) fun G=>TW 3 1 8 [(Value.int .i64 0)] (G.len:Int) (G.len:Int) y fun z H=>Ld .slice H (b.add 35) fun I=>iw (S:=Int×Unit) (fun A c U=>(bif (decide (A.1<(I.len:Int))) then
 g_ I 7 A.1 fun e=>Ld (.int .i64) c (e.add 0) fun V=>Ld (.int .i64) c (e.add 1) fun W=>Ld (.int .i64) c (e.add 2) fun X=>Ld (.int .i64) c (e.add 3) fun Y=>Ld (.int .i64) c (e.add 4) fun Z=>Ld (.int .i64) c (e.add 5) fun aa=>Ld (.int .i64) c (e.add 6) fun ab=>Al c (.cells ⟨[(Value.int .i64 0),(Value.int .i64 0),(Value.int .i64 0),(Value.int .i64 0),(Value.int .i64 0),(Value.int .i64 0),(Value.int .i64 0)]⟩ 105) fun J ac=>lS [(Value.int .i64 V),(Value.int .i64 W),(Value.int .i64 X),(Value.int .i64 Y),(Value.int .i64 Z),(Value.int .i64 aa),(Value.int .i64 ab)] ac J 0 fun B=>Ld (.int .i64) B J fun L=>g_ z 1 L fun ad=>Ld (.int .i64) B ad fun ae=>g_ z 1 L fun af=>St B af (Value.int .i64 (IntKind.i64.wrap (ae+1))) fun ag=>U ((IntKind.i64.wrap (A.1+1)),()) ag
 else
 iE z (Value.func (.func 180) #[] #[(Value.pointer (some b))]) c fun ah ai=>K ah ai)) (0,()) H))
 iO Q (Value.func (.func 172) #[] #[]) R fun aj ak=>jM aj ak fun al C=>(bif al then
 g true C
 else
 Ld .slice C (b.add 17) fun am=>jW am (Value.func (.func 175) #[] #[]) C fun an ao=>mD an ao fun ap D=>(bif ap then
 g true D
 else
 Ld .slice D (b.add 35) fun aq=>iC aq (Value.func (.func 168) #[] #[]) D fun ar au=>jo ar au fun av E=>(bif av then
 g true E
 else
 Ld .slice E (b.add 35) fun aw=>iy aw (Value.func (.func 169) #[] #[]) E fun ax ay=>jq ax ay fun az aA=>g az aA))))
 Ld .slice f.drew (b.add 16) fun d=>nY f.drew b fun h i j k l m n o p q r s t u v x=>(h_ d f.drew fun aB M=>CkN (iM h i j k l m n o p q r s t u v x) M b 0 (
 Al M (.cells ⟨(iM h i j k l m n o p q r s t u v x)⟩ 28) fun aC N=>N.cell? (b.add 16)=some (Value.slice d.a d.len d.cap)/\
 rY 28 16 16 (iM 0 0 0 0 0 0 0 0 0 0 0 0 0 0 0 0) aB ⟨(some aC),1,1⟩ N fun aD aE=>F aD aE))/\
 (Al f.drew (.cells ⟨(iM h i j k l m n o p q r s t u v x)⟩ 28) fun aF O=>O.cell? (b.add 16)=some (Value.slice d.a d.len d.cap)/\
 h_ d O fun aG P=>CkN (iM h i j k l m n o p q r s t u v x) P b 0 (
 rY 28 16 16 (iM 0 0 0 0 0 0 0 0 0 0 0 0 0 0 0 0) aG ⟨(some aF),1,1⟩ P fun aH aI=>F aH aI))):=okF iF Tryz.func83 (.seq .leaf (.seq .leaf (.seq .leaf (.seq .leaf (.seq .leaf (.seq .leaf (.seq (.seq .leaf (.blk (.loop [(46,(.int .i64))] .leaf))) .leaf))))))) (by kernel_rfl)
theorem JW {a0 w K}:fF (ny a0 w K)
 (rD a0 w fun b a=>(bif (!b) then
 K false a
 else
 Al a (.cells ⟨[(Value.int .i64 0),(Value.int .i64 8),(Value.int .i64 2130706432),(Value.int .i64 8),(Value.int .i64 3758096384),(Value.int .i64 3)]⟩ 300) fun c d=>CJ a0 ⟨(some c),3,3⟩ d fun e f=>K (!e) f)):=okF iF Tryz.func84 .leaf (by kernel_rfl)
theorem zn {a0 a1 w K}:fF (gZ a0 a1 w K)
 (jP a0 a1 w fun a b=>K (decide (a>=0)) b):=okF iF Tryz.func85 .leaf (by kernel_rfl)
theorem B_ {a0 w K}:fF (jf a0 w K)
 ((bif (Option.isNone a0.a) then
 K ⟨none,0,0⟩ w
 else
 Al w (.cells ⟨[]⟩ 3) fun b c=>rY 3 1 8 [(Value.int .i64 0)] ⟨(some b),0,0⟩ a0 c fun d e=>K d e)):=okF iF Tryz.func86 .leaf (by kernel_rfl)
theorem Vm {a0 w K}:fF (uI a0 w K)
 (let a:Bool->Prop:=fun b=>((bif b then
 K none 1 w
 else
 Al w (.cells ⟨[(Value.slice none 0 0),(Value.int .i64 0),(Value.int .i64 a0),(Value.bool true)]⟩ 304) fun c d=>K (some c) 0 d))
 (bif (decide (a0<0)) then
 a true
 else
 a (decide (a0>65536)))):=okF iF Tryz.func87 .leaf (by kernel_rfl)
theorem Hq {a0 B0 B1 B2 B3 B4 B5 B6 w K}:fF (nG a0 B0 B1 B2 B3 B4 B5 B6 w K)
 (Al w (.cells ⟨[(Value.int .i64 B0),(Value.int .i64 B1),(Value.int .i64 B2),(Value.int .i64 B3),(Value.int .i64 B4),(Value.int .i64 B5),(Value.int .i64 B6)]⟩ 105) fun a d=>Ld (.int .i64) d (a.add 1) fun c=>let g:Bool->Prop:=fun k=>((bif k then
 let e:Bool->World->Prop:=fun l b=>(let h:Bool->World->Prop:=fun m n=>(K m n)
 (bif l then
 Ld (.int .i64) b (a.add 1) fun o=>Ld (.int .i64) b (a.add 4) fun p=>(bif (o==p) then
 Ld (.int .i64) b a fun q=>jJ a0 q b fun r s=>h r s
 else
 h false b)
 else
 h false b))
 Ld (.int .i64) d.drew (a.add 2) fun t=>ny t d.drew fun u f=>(bif u then
 Pt a0 fun v=>Ld .ptr f v fun x=>Ld (.int .i64) f ((a.add 4).add 1) fun y=>mQ x y f fun z i=>(bif z then
 Ld (.int .i64) i (a.add 3) fun A=>uS A i fun B j=>(bif B then
 Ld (.int .i64) j ((a.add 4).add 2) fun C=>uS C j fun D E=>e D E
 else
 e false j)
 else
 e false i)
 else
 e false f)
 else
 K false d))
 (bif (c==1) then
 g (c==1)
 else
 (bif (c==6) then
 g (c==6)
 else
 g (c==17)))):=okF iF Tryz.func88 .leaf (by kernel_rfl)
theorem MS {a0 B0 B1 B2 B3 w K}:fF (lU a0 B0 B1 B2 B3 w K)
 (Al w (.cells ⟨[(Value.int .i64 B0),(Value.int .i64 B1),(Value.int .i64 B2),(Value.int .i64 B3)]⟩ 78) fun b f=>jd a0 f fun g a=>(bif (!g) then
 K 0 false a
 else
 Pt a0 fun c=>Ld .ptr a.drew (c.add 1) fun d=>Ld (.int .i64) a.drew (b.add 0) fun h=>Ld (.int .i64) a.drew (b.add 1) fun i=>Ld (.int .i64) a.drew (b.add 2) fun j=>Ld (.int .i64) a.drew (b.add 3) fun k=>kQ h i j k a.drew fun l e=>e.cell? (c.add 1)=some (Value.pointer d)/\
 lG d l e fun m n o=>K m n o)):=okF iF Tryz.func89 .leaf (by kernel_rfl)
theorem L_ {a0 B0 B1 B2 w K}:fF (nM a0 B0 B1 B2 w K)
 (Al w (.cells ⟨[(Value.int .i64 B0),(Value.int .i64 B1),(Value.int .i64 B2)]⟩ 80) fun b f=>jd a0 f fun g a=>(bif (!g) then
 K 0 false a
 else
 Pt a0 fun c=>Ld .ptr a.drew (c.add 2) fun d=>Ld (.int .i64) a.drew (b.add 0) fun h=>Ld (.int .i64) a.drew (b.add 1) fun i=>Ld (.int .i64) a.drew (b.add 2) fun j=>kR h i j a.drew fun k e=>e.cell? (c.add 2)=some (Value.pointer d)/\
 lG d k e fun l m n=>K l m n)):=okF iF Tryz.func90 .leaf (by kernel_rfl)
theorem E8 {a0 a1 w K}:fF (kV a0 a1 w K)
 (jY a0 a1 w fun b c a=>(bif (c !=0) then
 K 0 a
 else
 Pt b fun d=>Ld (.int .i64) a d fun e=>K e a)):=okF iF Tryz.func91 .leaf (by kernel_rfl)
theorem Gx {a0 w K}:fF (lN a0 w K)
 (Pt a0 fun d=>Ld .ptr w.drew (d.add 2) fun e=>Pt a0 fun a=>Ld (.int .i64) w.drew ((a.add 5).add 21) fun b=>t_ e w.drew fun f c=>c.cell? ((a.add 5).add 21)=some (Value.int .i64 b)/\
 K (decide (f>=b)) c):=okF iF Tryz.func92 .leaf (by kernel_rfl)
theorem Gl {a0 a1 w K}:fF (lJ a0 a1 w K)
 (jY a0 a1 w fun b d a=>(bif (d !=0) then
 K d a
 else
 Pt b fun e=>Ld (.int .i64) a (e.add 0) fun f=>Ld (.int .i64) a (e.add 1) fun g=>lX f g a fun h c=>(bif h then
 K 10 c
 else
 Pt b fun i=>Ld (.int .i64) c i fun j=>Pt b fun k=>St c k (Value.int .i64 (IntKind.i64.wrap (j+1))) fun l=>K 0 l))):=okF iF Tryz.func93 .leaf (by kernel_rfl)
theorem IY {a0 B0 B1 B2 w K}:fF (oq a0 B0 B1 B2 w K)
 (Al w (.cells ⟨[(Value.int .i64 B0),(Value.int .i64 B1),(Value.int .i64 B2)]⟩ 80) fun b j=>jO a0 j fun k e=>(bif (!k) then
 K 2 e
 else
 let d:Bool->World->Prop:=fun l a=>((bif l then
 K 1 a
 else
 Pt a0 fun m=>Ld .map a.drew (m.add 3) fun n=>Ld (.int .i64) a.drew (b.add 0) fun o=>Ld (.int .i64) a.drew (b.add 1) fun p=>Ld (.int .i64) a.drew (b.add 2) fun q=>sH Tryz.prog 80 .bool n (Value.agg ⟨[(Value.int .i64 o),(Value.int .i64 p),(Value.int .i64 q)]⟩) (Value.bool false) a.drew fun r=>(bif r then
 K 9 a.drew
 else
 Pt a0 fun s=>Ld .map a.drew.drew (s.add 3) fun t=>Ld (.int .i64) a.drew.drew (b.add 0) fun u=>Ld (.int .i64) a.drew.drew (b.add 1) fun v=>Ld (.int .i64) a.drew.drew (b.add 2) fun x=>wJ Tryz.prog 80 t (Value.agg ⟨[(Value.int .i64 u),(Value.int .i64 v),(Value.int .i64 x)]⟩) (Value.bool true) a.drew.drew fun y=>K 0 y)))
 Ld (.int .i64) e b fun z=>vH z e fun g f=>(bif (!g) then
 d (!g) f
 else
 Ld (.int .i64) f (b.add 1) fun A=>mQ a0 A f fun h c=>(bif (!h) then
 d (!h) c
 else
 Ld (.int .i64) c (b.add 2) fun i=>(bif (decide (i<0)) then
 d (decide (i<0)) c
 else
 Ld (.int .i64) c (b.add 2) fun B=>d (decide (B>=65536)) c))))):=okF iF Tryz.func94 .leaf (by kernel_rfl)
theorem NZ {a0 B0 B1 B2 B3 B4 B5 B6 B7 w K}:fF (uo a0 B0 B1 B2 B3 B4 B5 B6 B7 w K)
 (Al w (.cells ⟨[(Value.int .i64 B0),(Value.int .i64 B1),(Value.int .i64 B2),(Value.int .i64 B3),(Value.int .i64 B4),(Value.int .i64 B5),(Value.int .i64 B6),(Value.bool B7)]⟩ 130) fun a q=>jd a0 q fun r c=>(bif (!r) then
 K 0 2 c
 else
 Ld (.int .i64) c (a.add 0) fun s=>Ld (.int .i64) c (a.add 1) fun t=>Ld (.int .i64) c (a.add 2) fun u=>Ld (.int .i64) c (a.add 3) fun v=>lU a0 s t u v c fun ad x f=>Ld (.int .i64) f ((a.add 4).add 0) fun y=>Ld (.int .i64) f ((a.add 4).add 1) fun z=>Ld (.int .i64) f ((a.add 4).add 2) fun A=>nM a0 y z A f fun ae B h=>let i:Bool->Prop:=fun C=>((bif C then
 K 0 9 h
 else
 qR a0 h fun g D b=>(bif (!D) then
 K 0 7 b
 else
 Pt a0 fun E=>Ld .slice b.drew E fun F=>Ld (.int .i64) b.drew (a.add 0) fun G=>Ld (.int .i64) b.drew (a.add 1) fun H=>Ld (.int .i64) b.drew (a.add 2) fun I=>Ld (.int .i64) b.drew (a.add 3) fun J=>Ld (.int .i64) b.drew (a.add 4) fun L=>Ld (.int .i64) b.drew (a.add 5) fun M=>Ld (.int .i64) b.drew (a.add 6) fun N=>Ld .bool b.drew (a.add 7) fun O=>g_ F 9 g fun P=>lS (OB G H I J L M N O true) b.drew P 0 fun d=>Pt a0 fun j=>Ld .ptr d.drew (j.add 1) fun k=>Ld (.int .i64) d.drew (a.add 0) fun Q=>Ld (.int .i64) d.drew (a.add 1) fun R=>Ld (.int .i64) d.drew (a.add 2) fun S=>Ld (.int .i64) d.drew (a.add 3) fun T=>kQ Q R S T d.drew fun U l=>l.cell? (j.add 1)=some (Value.pointer k)/\
 lD k U g l fun af e=>Pt a0 fun m=>Ld .ptr e.drew (m.add 2) fun n=>Ld (.int .i64) e.drew ((a.add 4).add 0) fun V=>Ld (.int .i64) e.drew ((a.add 4).add 1) fun W=>Ld (.int .i64) e.drew ((a.add 4).add 2) fun X=>kR V W X e.drew fun Y o=>o.cell? (m.add 2)=some (Value.pointer n)/\
 lD n Y g o fun ag p=>Pt a0 fun Z=>Ld (.int .i64) p (Z.add 3) fun aa=>Pt a0 fun ab=>St p (ab.add 3) (Value.int .i64 (IntKind.i64.wrap (aa+1))) fun ac=>K g 0 ac)))
 (bif x then
 i true
 else
 i B))):=okF iF Tryz.func95 .leaf (by kernel_rfl)
theorem Eu {a0 w K}:fF (iT a0 w K)
 (let a:Bool->Prop:=fun b=>(K b w)
 (bif (!(Option.isNone a0)) then
 Pt a0 fun c=>Ld .map w (c.add 448) fun d=>a (!(Option.isNone d))
 else
 a false)):=okF iF Tryz.func96 .leaf (by kernel_rfl)
theorem FY {a0 w K}:fF (lI a0 w K)
 (iw (S:=Int×Unit) (fun a d f=>(bif (decide (a.1<7)) then
 Pt a0 fun g=>Ld (.int .i64) d (g.add 449) fun h=>0<=(IntKind.i64.wrap (6 * a.1))/\
 iw (S:=Int×Unit) (fun b c i=>(bif (decide (b.1<64)) then
 Pt a0 fun j=>(0:Int)<=a.1/\a.1<(7:Int)/\
 (0:Int)<=b.1/\b.1<(64:Int)/\
 Ld .slice c ((j.add (Int.toNat a.1 * 64)).add (Int.toNat b.1 * 1)) fun e=>(bif (decide ((e.len:Int)>0)) then
 gK e (Value.func (.func 198) #[] #[]) c fun m k n l=>K k true l
 else
 i ((IntKind.i64.wrap (b.1+1)),()) c)
 else
 f ((IntKind.i64.wrap (a.1+1)),()) c)) ((wG .i64 (jU .i64 h (IntKind.i64.wrap (6 * a.1))) 63),()) d
 else
 K 0 false d)) (0,()) w):=okF iF Tryz.func97 (.seq .leaf (.seq (.seq .leaf (.blk (.loop [(8,(.int .i64))] (.seq .leaf (.seq .leaf (.seq (.blk (.seq .leaf (.seq .leaf (.seq .leaf (.blk (.loop [(6,(.int .i64))] .leaf)))))) .leaf)))))) .leaf)) (by kernel_rfl)
theorem Dx {a0 a1 w K}:fF (jH a0 a1 w K)
 (Pt a0 fun i=>Ld (.int .i64) w (i.add 449) fun j=>pW j a1 w fun k l=>iw (S:=b_×Int×Unit) (fun a e m=>(bif (decide (a.2.1>0)) then
 0<=(IntKind.i64.wrap (6 * a.2.1))/\
 Pt a0 fun h=>(0:Int)<=a.2.1/\a.2.1<(7:Int)/\
 (0:Int)<=(wG .i64 (jU .i64 a1 (IntKind.i64.wrap (6 * a.2.1))) 63)/\(wG .i64 (jU .i64 a1 (IntKind.i64.wrap (6 * a.2.1))) 63)<(64:Int)/\
 Pt (some ((h.add (Int.toNat a.2.1 * 64)).add (Int.toNat (wG .i64 (jU .i64 a1 (IntKind.i64.wrap (6 * a.2.1))) 63) * 1))) fun n=>Ld .slice e.drew n fun o=>rY 237 3 24 [(Value.int .i64 0),(Value.int .i64 0),(Value.int .i64 0)] a.1 o e.drew fun p q=>Pt (some ((h.add (Int.toNat a.2.1 * 64)).add (Int.toNat (wG .i64 (jU .i64 a1 (IntKind.i64.wrap (6 * a.2.1))) 63) * 1))) fun r=>St q r (Value.slice none 0 0) fun s=>m (p,(IntKind.i64.wrap (a.2.1 - 1)),()) s
 else
 Pt a0 fun t=>St e (t.add 449) (Value.int .i64 a1) fun u=>iw (S:=Int×Unit) (fun f b v=>(bif (decide (f.1<(a.1.len:Int))) then
 g_ a.1 3 f.1 fun g=>Ld (.int .i64) b (g.add 0) fun x=>Ld (.int .i64) b (g.add 1) fun y=>Ld (.int .i64) b (g.add 2) fun z=>Al b (.cells ⟨[(Value.int .i64 0),(Value.int .i64 0),(Value.int .i64 0)]⟩ 237) fun c A=>lS [(Value.int .i64 x),(Value.int .i64 y),(Value.int .i64 z)] A c 0 fun d=>Ld (.int .i64) d (c.add 0) fun B=>Ld (.int .i64) d (c.add 1) fun C=>Ld (.int .i64) d (c.add 2) fun D=>kJ a0 B C D d fun E=>v ((IntKind.i64.wrap (f.1+1)),()) E
 else
 K b)) (0,()) u)) (⟨none,0,0⟩,k,()) l):=okF iF Tryz.func98 (.seq .leaf (.seq (.seq .leaf (.blk (.loop [(4,.slice),(5,(.int .i64))] .leaf))) (.seq .leaf (.seq .leaf (.blk (.loop [(43,(.int .i64))] .leaf)))))) (by kernel_rfl)
theorem Iy {a0 w K}:fF (mW a0 w K)
 (gY (Value.pointer a0)=true/\
 Al w (.cells ⟨[(Value.pointer a0)]⟩ 89) fun b e=>Ld .ptr e.drew b fun o=>Ld .ptr e.drew b fun p=>Pt p fun q=>Ld (.int .i64) e.drew (q.add 449) fun r=>jE o r e.drew fun g l=>Pt g fun s=>Ld .slice l s fun t=>gV t l fun u v=>fJ u (Value.func (.func 203) #[] #[(Value.pointer (some b))]) v fun h m=>Pt g fun x=>Ld .slice m x fun y=>fJ y (Value.func (.func 204) #[] #[(Value.pointer (some b))]) m fun i z=>Pt g fun A=>St z A (Value.slice i.a i.len i.cap) fun B=>fQ h (Value.func (.func 206) #[] #[]) B fun C=>iw (S:=b_×Int×Unit) (fun c d D=>(bif (decide (c.2.1<(h.len:Int))) then
 g_ h 3 c.2.1 fun j=>Ld (.int .i64) d (j.add 0) fun E=>Ld (.int .i64) d (j.add 1) fun F=>Ld (.int .i64) d (j.add 2) fun G=>Al d (.cells ⟨[(Value.int .i64 0),(Value.int .i64 0),(Value.int .i64 0)]⟩ 237) fun k H=>lS [(Value.int .i64 E),(Value.int .i64 F),(Value.int .i64 G)] H k 0 fun f=>Ld .ptr f.drew b fun I=>Pt I fun J=>Ld .map f.drew (J.add 448) fun L=>Ld (.int .i64) f.drew k fun M=>Dl Tryz.prog 3 L (Value.int .i64 M) f.drew fun n=>Ld (.int .i64) n k fun N=>Al n (.cells ⟨[(Value.int .i64 N)]⟩ 3) fun O P=>rY 3 1 8 [(Value.int .i64 0)] c.1 ⟨(some O),1,1⟩ P fun Q R=>D (Q,(IntKind.i64.wrap (c.2.1+1)),()) R
 else
 K c.1 d)) (⟨none,0,0⟩,0,()) C):=okF iF Tryz.func99 (.seq .leaf (.seq .leaf (.seq .leaf (.seq .leaf (.seq .leaf (.seq .leaf (.seq (.seq .leaf (.blk (.loop [(5,.slice),(31,(.int .i64))] .leaf))) .leaf))))))) (by kernel_rfl)
theorem Qo {w K}:fF (yN w K)
 (Al w (.cells ⟨(iM 0 0 0 0 0 0 0 0 0 0 0 0 0 0 0 0)⟩ 28) fun a c=>lS (iM 0 0 0 0 0 0 0 0 0 0 255 255 0 0 0 0) c a 0 fun b=>nY b a fun d e f g h i j k l m n o p q r s=>K d e f g h i j k l m n o p q r s b):=okF iF Tryz.func100 .leaf (by kernel_rfl)
theorem YZ {a0 a1 a2 w K}:fF (yc a0 a1 a2 w K)
 (jv a0 w fun a c=>yT a1 a2 c fun d b=>(bif (!d) then
 K a b
 else
 xX a1 a2 b fun e f=>iQ a e f fun g h=>K g h)):=okF iF Tryz.func101 .leaf (by kernel_rfl)
theorem EO {a0 a1 C0 C1 C2 D0 D1 D2 D3 D4 D5 D6 D7 D8 D9 D10 D11 D12 D13 D14 D15 D16 D17 D18 D19 D20 D21 D22 D23 D24 D25 D26 D27 D28 D29 D30 D31 D32 w K}:fF (sG a0 a1 C0 C1 C2 D0 D1 D2 D3 D4 D5 D6 D7 D8 D9 D10 D11 D12 D13 D14 D15 D16 D17 D18 D19 D20 D21 D22 D23 D24 D25 D26 D27 D28 D29 D30 D31 D32 w K)
 (Al w (.cells ⟨[(Value.int .i64 C0),(Value.int .i64 C1),(Value.int .i64 C2)]⟩ 80) fun c r=>Al r (.cells ⟨(iK D0 D1 D2 D3 D4 D5 D6 D7 D8 D9 D10 D11 D12 D13 D14 D15 D16 D17 D18 D19 D20 D21 D22 D23 D24 D25 D26 D27 D28 D29 D30 D31 D32)⟩ 51) fun b s=>Al s (.cells ⟨(iK 0 0 0 0 0 0 0 0 0 0 0 0 0 0 0 0 0 0 0 0 0 0 0 0 0 0 0 0 0 0 0 0 0)⟩ 51) fun d a=>let h:Bool->Prop:=fun t=>(let i:Bool->World->Prop:=fun u e=>((bif u then
 jF e.drew b fun v x y z A B C D E F G H I J L M N O P Q R S T U V W X Y Z aa ab ac ad=>lS (iK v x y z A B C D E F G H I J L M N O P Q R S T U V W X Y Z aa ab ac ad) e.drew d 0 fun j=>jF j d fun ae af ag ah ai aj ak al am an ao ap aq ar au av aw ax ay az aA aB aC aD aE aF aG aH aI aJ aK aL aM=>K 11 ae af ag ah ai aj ak al am an ao ap aq ar au av aw ax ay az aA aB aC aD aE aF aG aH aI aJ aK aL aM j
 else
 Ld (.int .i64) e b fun k=>St e b (Value.int .i64 (if (86400:Int)<k then 86400 else k)) fun l=>Ld (.int .i64) l b fun aN=>jX a0 a1 aN l fun f=>Pt a1 fun aO=>Ld (.int .i64) f.drew ((aO.add 4).add 1) fun aP=>Pt a1 fun m=>Ld (.int .i64) f.drew ((m.add 4).add 2) fun n=>St f.drew (b.add 32) (Value.int .i64 aP) fun o=>o.cell? ((m.add 4).add 2)=some (Value.int .i64 n)/\
 St o (b.add 31) (Value.int .i64 n) fun p=>jF p.drew b fun aQ aR aS aT aU aV aW aX aY aZ a2 a3 a4 a5 a7 a9 ba bb bc bd be bf bg bh bi bj bk bl bm bn bo bp bq=>lS (iK aQ aR aS aT aU aV aW aX aY aZ a2 a3 a4 a5 a7 a9 ba bb bc bd be bf bg bh bi bj bk bl bm bn bo bp bq) p.drew d 0 fun q=>jF q d fun br bs bt bu bv bw bx bz bA bB bC bD bE bF bG bH bI bJ bK bL bM bN bO bP bQ bR bS bT bU bV bW bX bY=>K 0 br bs bt bu bv bw bx bz bA bB bC bD bE bF bG bH bI bJ bK bL bM bN bO bP bQ bR bS bT bU bV bW bX bY q))
 (bif t then
 Ld (.int .i64) a.drew (c.add 0) fun bZ=>Ld (.int .i64) a.drew (c.add 1) fun b0=>Ld (.int .i64) a.drew (c.add 2) fun b1=>Pt a1 fun g=>Ld (.int .i64) a.drew ((g.add 4).add 0) fun b2=>Ld (.int .i64) a.drew ((g.add 4).add 1) fun b3=>Ld (.int .i64) a.drew ((g.add 4).add 2) fun b4=>i (!((bZ==b2) && ((b0==b3) && ((b1==b4) && true)))) a.drew
 else
 i false a.drew))
 Ld (.int .i64) a (c.add 1) fun b5=>(bif (b5 !=0) then
 h true
 else
 Ld (.int .i64) a (c.add 2) fun b6=>h (b6 !=0))):=okF iF Tryz.func102 .leaf (by kernel_rfl)
theorem Ec {a0 B0 B1 B2 B3 C0 C1 C2 D0 D1 D2 D3 D4 D5 D6 D7 D8 D9 D10 D11 D12 D13 D14 D15 D16 D17 D18 D19 D20 D21 D22 D23 D24 D25 D26 D27 D28 D29 D30 D31 D32 w K}:fF (sD a0 B0 B1 B2 B3 C0 C1 C2 D0 D1 D2 D3 D4 D5 D6 D7 D8 D9 D10 D11 D12 D13 D14 D15 D16 D17 D18 D19 D20 D21 D22 D23 D24 D25 D26 D27 D28 D29 D30 D31 D32 w K)
 (Al w (.cells ⟨[(Value.int .i64 B0),(Value.int .i64 B1),(Value.int .i64 B2),(Value.int .i64 B3)]⟩ 78) fun c v=>Al v (.cells ⟨[(Value.int .i64 C0),(Value.int .i64 C1),(Value.int .i64 C2)]⟩ 80) fun e x=>Al x (.cells ⟨(iK D0 D1 D2 D3 D4 D5 D6 D7 D8 D9 D10 D11 D12 D13 D14 D15 D16 D17 D18 D19 D20 D21 D22 D23 D24 D25 D26 D27 D28 D29 D30 D31 D32)⟩ 51) fun f y=>Al y (.cells ⟨(iK 0 0 0 0 0 0 0 0 0 0 0 0 0 0 0 0 0 0 0 0 0 0 0 0 0 0 0 0 0 0 0 0 0)⟩ 51) fun g a=>Pt a0 fun z=>Ld .map a.drew (z.add 2) fun A=>Pt a0 fun j=>Ld (.int .i64) a.drew (j.add 6) fun k=>KX a.drew A fun B=>a.drew.cell? (j.add 6)=some (Value.int .i64 k)/\
 (bif (decide (B>=k)) then
 jF a.drew.drew f fun C D E F G H I J L M N O P Q R T U V W X Y Z aa ab ac ad ae af ag ah ai aj ak=>lS (iK C D E F G H I J L M N O P Q R T U V W X Y Z aa ab ac ad ae af ag ah ai aj ak) a.drew.drew g 0 fun l=>jF l g fun al am an ao ap aq ar au av aw ax ay az aA aB aC aD aE aF aG aH aI aJ aK aL aM aN aO aP aQ aR aS aT=>K 8 al am an ao ap aq ar au av aw ax ay az aA aB aC aD aE aF aG aH aI aJ aK aL aM aN aO aP aQ aR aS aT l
 else
 Pt a0 fun aU=>Ld .ptr a.drew.drew aU fun aV=>Ld (.int .i64) a.drew.drew (c.add 0) fun aW=>Ld (.int .i64) a.drew.drew (c.add 1) fun aX=>Ld (.int .i64) a.drew.drew (c.add 2) fun aY=>Ld (.int .i64) a.drew.drew (c.add 3) fun aZ=>Ld (.int .i64) a.drew.drew (e.add 0) fun a1=>Ld (.int .i64) a.drew.drew (e.add 1) fun a2=>Ld (.int .i64) a.drew.drew (e.add 2) fun a3=>kL aV aW aX aY aZ a1 a2 a3 a.drew.drew fun a4 a5=>uD a4 a5 fun m i=>(bif (m !=0) then
 jF i.drew f fun a7 a9 ba bb bc bd be bf bg bh bi bj bk bl bm bn bo bp bq br bs bt bu bv bw bx bz bA bB bC bD bE bF=>lS (iK a7 a9 ba bb bc bd be bf bg bh bi bj bk bl bm bn bo bp bq br bs bt bu bv bw bx bz bA bB bC bD bE bF) i.drew g 0 fun n=>jF n g fun bG bH bI bJ bK bL bM bN bO bP bQ bR bS bT bU bV bW bX bY bZ b0 b1 b2 b3 b4 b5 b6 b7 b8 b9 ca cb cc=>K m bG bH bI bJ bK bL bM bN bO bP bQ bR bS bT bU bV bW bX bY bZ b0 b1 b2 b3 b4 b5 b6 b7 b8 b9 ca cb cc n
 else
 iw (S:=Unit) (fun dP b cd=>Pt a0 fun ce=>Ld .map b.drew (ce.add 3) fun cf=>Pt a0 fun cg=>Ld (.int .i64) b.drew (cg.add 5) fun ch=>sH Tryz.prog 3 .ptr cf (Value.int .i64 ch) (Value.pointer none) b.drew fun ci=>(bif (!(Option.isNone ci)) then
 Pt a0 fun cj=>Ld (.int .i64) b.drew (cj.add 5) fun ck=>(8192:Int)≠0/\
 Pt a0 fun cl=>St b.drew (cl.add 5) (Value.int .i64 (Int.tmod (IntKind.i64.wrap (ck+1)) 8192)) fun cm=>cd () cm
 else
 Ld (.int .i64) b.drew.drew (c.add 0) fun cn=>Ld (.int .i64) b.drew.drew (c.add 1) fun co=>Ld (.int .i64) b.drew.drew (c.add 2) fun cp=>Ld (.int .i64) b.drew.drew (c.add 3) fun cq=>Ld (.int .i64) b.drew.drew (e.add 0) fun cr=>Ld (.int .i64) b.drew.drew (e.add 1) fun cs=>Ld (.int .i64) b.drew.drew (e.add 2) fun ct=>Pt a0 fun cu=>Ld (.int .i64) b.drew.drew (cu.add 5) fun cv=>Al b.drew.drew (.cells ⟨(adF cn co cp cq cr cs ct 0 cv)⟩ 122) fun h d=>Pt a0 fun cw=>Ld .map d.drew (cw.add 2) fun o=>Ld (.int .i64) d.drew (c.add 0) fun cx=>Ld (.int .i64) d.drew (c.add 1) fun cy=>Ld (.int .i64) d.drew (c.add 2) fun cz=>Ld (.int .i64) d.drew (c.add 3) fun cA=>Pt a0 fun cB=>Ld .map d.drew (cB.add 3) fun p=>Pt (some h) fun cC=>Ld (.int .i64) d.drew (cC.add 8) fun cD=>Ny Tryz.prog 78 o (Value.agg ⟨[(Value.int .i64 cx),(Value.int .i64 cy),(Value.int .i64 cz),(Value.int .i64 cA)]⟩) (Value.pointer none) d.drew fun dQ cE cF=>U3 o cE (Value.pointer (some h)) cF fun cG=>Ny Tryz.prog 3 p (Value.int .i64 cD) (Value.pointer none) cG fun dR cH cI=>U3 p cH (Value.pointer (some h)) cI fun q=>Ld (.int .i64) q f fun r=>St q f (Value.int .i64 (if (86400:Int)<r then 86400 else r)) fun s=>Ld (.int .i64) s f fun cJ=>jX a0 (some h) cJ s fun t=>jF t.drew f fun cK cL cM cN cO cP cQ cR cS cT cU cV cW cX cY cZ c0 c1 c2 c3 c4 c5 c6 c7 c8 c9 da db dc dd de df dg=>lS (iK cK cL cM cN cO cP cQ cR cS cT cU cV cW cX cY cZ c0 c1 c2 c3 c4 c5 c6 c7 c8 c9 da db dc dd de df dg) t.drew g 0 fun u=>jF u g fun dh di dj dk dl dm dn dp dq dr ds dt du dv dw dx dy dz dA dB dC dD dE dF dG dH dI dJ dK dL dM dN dO=>K 0 dh di dj dk dl dm dn dp dq dr ds dt du dv dw dx dy dz dA dB dC dD dE dF dG dH dI dJ dK dL dM dN dO u)) () i))):=okF iF Tryz.func103 (.seq .leaf (.seq .leaf (.seq .leaf (.seq (.blk (.loop [] .leaf)) .leaf)))) (by kernel_rfl)
theorem OW {A0 A1 A2 A3 A4 A5 A6 A7 A8 A9 A10 A11 A12 A13 A14 A15 A16 A17 A18 A19 A20 A21 A22 A23 A24 A25 A26 A27 A28 A29 A30 A31 A32 w K}:fF (pR A0 A1 A2 A3 A4 A5 A6 A7 A8 A9 A10 A11 A12 A13 A14 A15 A16 A17 A18 A19 A20 A21 A22 A23 A24 A25 A26 A27 A28 A29 A30 A31 A32 w K)
 (Al w (.cells ⟨(iK A0 A1 A2 A3 A4 A5 A6 A7 A8 A9 A10 A11 A12 A13 A14 A15 A16 A17 A18 A19 A20 A21 A22 A23 A24 A25 A26 A27 A28 A29 A30 A31 A32)⟩ 51) fun b a=>Ld (.int .i64) a b fun c=>Ld (.int .i64) a (b.add 29) fun d=>Ld (.int .i64) a (b.add 30) fun e=>Ld (.int .i64) a (b.add 31) fun f=>Ld (.int .i64) a (b.add 32) fun g=>Al a (.cells ⟨(acr c 4 d 1 e 2 f 2 g 4)⟩ 233) fun h i=>yV ⟨(some h),5,5⟩ i fun j k=>K j k):=okF iF Tryz.func104 .leaf (by kernel_rfl)
theorem Xi {a0 w K}:fF (yV a0 w K)
 (gB a0 (Value.func (.func 214) #[] #[]) w fun a b=>K (!a) b):=okF iF Tryz.func105 .leaf (by kernel_rfl)
theorem Wx {a0 a1 w K}:fF (rE a0 a1 w K)
 (iw (S:=b_×Int×Unit) (fun a b f=>(bif (decide (a.2.1<(a1.len:Int))) then
 g_ a1 2 a.2.1 fun e=>Ld (.int .i64) b (e.add 0) fun g=>Ld (.int .i64) b (e.add 1) fun h=>Al b (.cells ⟨[(Value.int .i64 0),(Value.int .i64 0)]⟩ 233) fun c i=>lS [(Value.int .i64 g),(Value.int .i64 h)] i c 0 fun d=>Ld (.int .i64) d c fun j=>Ld (.int .i64) d (c.add 1) fun k=>yc a.1 j k d fun l m=>f (l,(IntKind.i64.wrap (a.2.1+1)),()) m
 else
 K a.1 b)) (a0,0,()) w):=okF iF Tryz.func106 (.seq .leaf (.seq (.seq .leaf (.blk (.loop [(0,.slice),(9,(.int .i64))] .leaf))) .leaf)) (by kernel_rfl)
theorem MJ {A0 A1 A2 A3 A4 A5 A6 A7 A8 A9 A10 A11 A12 A13 A14 A15 A16 A17 A18 A19 A20 A21 A22 A23 A24 A25 A26 A27 A28 A29 A30 A31 A32 a1 w K}:fF (nV A0 A1 A2 A3 A4 A5 A6 A7 A8 A9 A10 A11 A12 A13 A14 A15 A16 A17 A18 A19 A20 A21 A22 A23 A24 A25 A26 A27 A28 A29 A30 A31 A32 a1 w K)
 (Al w (.cells ⟨(iK A0 A1 A2 A3 A4 A5 A6 A7 A8 A9 A10 A11 A12 A13 A14 A15 A16 A17 A18 A19 A20 A21 A22 A23 A24 A25 A26 A27 A28 A29 A30 A31 A32)⟩ 51) fun a h=>Ld (.int .i64) h (a.add 32) fun l=>u_ l h fun m n o p q r s t u v x y z A B C D=>Al D (.cells ⟨(iM 0 0 0 0 0 0 0 0 0 0 0 0 0 0 0 0)⟩ 28) fun i E=>lS (iM m n o p q r s t u v x y z A B C) E i 0 fun b=>let j:b_->World->Prop:=fun F G=>(sQ i 16 1 0 (16:Int) fun H=>rY 5 1 1 [(Value.int .u8 0)] F H G fun I J=>K I J)
 sQ (a.add 17) 12 1 0 (12:Int) fun k=>Ld (.int .i64) b.drew (a.add 29) fun c=>Ld (.int .i64) b.drew (a.add 30) fun d=>Ld (.int .i64) b.drew (a.add 31) fun e=>(rY 5 1 1 [(Value.int .u8 0)] a1 k b.drew fun L f=>f.cell? (a.add 31)=some (Value.int .i64 e)/\
 f.cell? (a.add 30)=some (Value.int .i64 d)/\
 f.cell? (a.add 29)=some (Value.int .i64 c)/\
 Al f (.cells ⟨[(Value.int .i64 c),(Value.int .i64 1),(Value.int .i64 0),(Value.int .i64 3),(Value.int .i64 d),(Value.int .i64 2),(Value.int .i64 e),(Value.int .i64 2)]⟩ 233) fun M N=>rE L ⟨(some M),4,4⟩ N fun O P=>j O P)/\
 (Al b.drew (.cells ⟨[(Value.int .i64 c),(Value.int .i64 1),(Value.int .i64 0),(Value.int .i64 3),(Value.int .i64 d),(Value.int .i64 2),(Value.int .i64 e),(Value.int .i64 2)]⟩ 233) fun Q R=>rY 5 1 1 [(Value.int .u8 0)] a1 k R fun S g=>g.cell? (a.add 31)=some (Value.int .i64 e)/\
 g.cell? (a.add 30)=some (Value.int .i64 d)/\
 g.cell? (a.add 29)=some (Value.int .i64 c)/\
 rE S ⟨(some Q),4,4⟩ g fun T U=>j T U)):=okF iF Tryz.func107 .leaf (by kernel_rfl)
theorem Gu {a0 B0 B1 B2 w K}:fF (j_ a0 B0 B1 B2 w K)
 (Al w (.cells ⟨[(Value.int .i64 B0),(Value.int .i64 B1),(Value.int .i64 B2)]⟩ 237) fun c d=>Ld (.int .i64) d (c.add 1) fun g=>jE a0 g d fun e f=>Pt e fun h=>Ld .slice f h fun i=>fJ i (Value.func (.func 215) #[] #[(Value.pointer (some c))]) f fun b j=>Pt e fun k=>St j k (Value.slice b.a b.len b.cap) fun l=>K l):=okF iF Tryz.func108 .leaf (by kernel_rfl)
theorem H_ {a0 B0 B1 B2 w K}:fF (kJ a0 B0 B1 B2 w K)
 (Al w (.cells ⟨[(Value.int .i64 B0),(Value.int .i64 B1),(Value.int .i64 B2)]⟩ 237) fun c f=>Ld (.int .i64) f (c.add 1) fun j=>jE a0 j f fun g b=>Pt g fun h=>Ld .slice b.drew h fun d=>Ld (.int .i64) b.drew (c.add 0) fun k=>Ld (.int .i64) b.drew (c.add 1) fun l=>Ld (.int .i64) b.drew (c.add 2) fun m=>Al b.drew (.cells ⟨[(Value.int .i64 k),(Value.int .i64 l),(Value.int .i64 m)]⟩ 237) fun n i=>i.cell? h=some (Value.slice d.a d.len d.cap)/\
 rY 237 3 24 [(Value.int .i64 0),(Value.int .i64 0),(Value.int .i64 0)] d ⟨(some n),1,1⟩ i fun e o=>Pt g fun p=>St o p (Value.slice e.a e.len e.cap) fun q=>K q):=okF iF Tryz.func109 .leaf (by kernel_rfl)
theorem Eo {a0 B0 B1 B2 B3 w K}:fF (kY a0 B0 B1 B2 B3 w K)
 (Al w (.cells ⟨[(Value.int .i64 B0),(Value.int .i64 B1),(Value.int .i64 B2),(Value.int .i64 B3)]⟩ 78) fun b h=>iV a0 h fun i a=>(bif (!i) then
 K 2 a
 else
 Pt a0 fun j=>Ld .ptr a.drew (j.add 2) fun k=>Ld (.int .i64) a.drew (b.add 0) fun l=>Ld (.int .i64) a.drew (b.add 1) fun m=>Ld (.int .i64) a.drew (b.add 2) fun n=>Ld (.int .i64) a.drew (b.add 3) fun o=>lU k l m n o a.drew fun d p e=>Pt a0 fun q=>Ld .ptr e (q.add 2) fun r=>pV r d e fun s t u v x y z A G B=>Al B (.cells ⟨[(Value.int .i64 0),(Value.int .i64 0),(Value.int .i64 0),(Value.int .i64 0),(Value.int .i64 0),(Value.int .i64 0),(Value.int .i64 0),(Value.bool false)]⟩ 130) fun f C=>lS [(Value.int .i64 s),(Value.int .i64 t),(Value.int .i64 u),(Value.int .i64 v),(Value.int .i64 x),(Value.int .i64 y),(Value.int .i64 z),(Value.bool A)] C f 0 fun c=>let g:Bool->Prop:=fun D=>((bif D then
 K 8 c
 else
 jV a0 d c fun E=>K 0 E))
 (bif (!p) then
 g true
 else
 Ld .bool c (f.add 7) fun F=>g (!F)))):=okF iF Tryz.func110 .leaf (by kernel_rfl)
theorem wB {a0 a1 w K}:fF (jG a0 a1 w K)
 (iT a0 w fun h b=>(bif (!h) then
 K false b
 else
 Pt a0 fun i=>Ld .map b (i.add 448) fun j=>Ar Tryz.prog 3 j (Value.int .i64 a1) (Value.agg ⟨[(Value.int .i64 0),(Value.int .i64 0),(Value.int .i64 0)]⟩) b fun k l=>∃d:Int,∃e:Int,∃f:Int,k=(Value.agg ⟨[(Value.int .i64 d),(Value.int .i64 e),(Value.int .i64 f)]⟩)/\
 Al b (.cells ⟨[(Value.int .i64 0),(Value.int .i64 0),(Value.int .i64 0)]⟩ 237) fun c m=>lS [(Value.int .i64 d),(Value.int .i64 e),(Value.int .i64 f)] m c 0 fun a=>(bif (!l) then
 K false a
 else
 Ld (.int .i64) a (c.add 0) fun n=>Ld (.int .i64) a (c.add 1) fun o=>Ld (.int .i64) a (c.add 2) fun p=>j_ a0 n o p a fun g=>Pt a0 fun q=>Ld .map g (q.add 448) fun r=>Dl Tryz.prog 3 r (Value.int .i64 a1) g fun s=>K true s))):=okF iF Tryz.func111 .leaf (by kernel_rfl)
theorem KH {a0 f0 w K}:fF (MB a0 f0 w K)
 (Ld .ptr w f0 fun j=>jd j w fun k c=>(bif (!k) then
 K c
 else
 Ld .ptr c f0 fun l=>Pt l fun m=>Ld .slice c m fun f=>iw (S:=Int×Unit) (fun d e n=>(bif (decide (d.1<(f.len:Int))) then
 g_ f 9 d.1 fun o=>ace e o fun p q r s t u v x y=>Al e (.cells ⟨(OB 0 0 0 0 0 0 0 false false)⟩ 243) fun b z=>lS (OB p q r s t u v x y) z b 0 fun a=>let g:Bool->World->Prop:=fun A h=>((bif A then
 K h
 else
 n ((IntKind.i64.wrap (d.1+1)),()) h))
 Ld .bool a (b.add 8) fun B=>(bif B then
 Ld (.int .i64) a (b.add 0) fun C=>Ld (.int .i64) a (b.add 1) fun D=>Ld (.int .i64) a (b.add 2) fun E=>Ld (.int .i64) a (b.add 3) fun F=>Ld (.int .i64) a (b.add 4) fun G=>Ld (.int .i64) a (b.add 5) fun H=>Ld (.int .i64) a (b.add 6) fun I=>Ld .bool a (b.add 7) fun J=>jI Tryz.prog [.one .bool] a0 [(Value.int .i64 d.1),(Value.agg ⟨[(Value.int .i64 C),(Value.int .i64 D),(Value.int .i64 E),(Value.int .i64 F),(Value.int .i64 G),(Value.int .i64 H),(Value.int .i64 I),(Value.bool J)]⟩)] a fun L M=>∃i:Bool,L=(Value.bool i)/\
 g (!i) M
 else
 g false a)
 else
 K e)) (0,()) c)):=okF iF Tryz.func112 (.seq .leaf (.seq .leaf (.blk (.loop [(13,(.int .i64))] .leaf)))) (by kernel_rfl)
theorem KA {a0 w K}:fF (jd a0 w K)
 (let a:Bool->Prop:=fun b=>(K b w)
 (bif (!(Option.isNone a0)) then
 Pt a0 fun c=>Ld .ptr w (c.add 1) fun d=>a (!(Option.isNone d))
 else
 a false)):=okF iF Tryz.func113 .leaf (by kernel_rfl)
theorem CV {a0 f0 w K}:fF (Dz a0 f0 w K)
 (Ld .ptr w f0 fun k=>jk k w fun l e=>(bif (!l) then
 K e
 else
 Ld .ptr e f0 fun m=>Pt m fun n=>Ld .slice e n fun g=>iw (S:=Int×Unit) (fun f a o=>(bif (decide (f.1<(g.len:Int))) then
 g_ g 6 f.1 fun d=>Ld (.int .i64) a (d.add 0) fun p=>Ld (.int .i64) a (d.add 1) fun q=>Ld (.int .i64) a (d.add 2) fun r=>Ld (.int .i64) a (d.add 3) fun s=>Ld (.int .i64) a (d.add 4) fun t=>Ld .bool a (d.add 5) fun u=>Al a (.cells ⟨[(Value.int .i64 0),(Value.int .i64 0),(Value.int .i64 0),(Value.int .i64 0),(Value.int .i64 0),(Value.bool false)]⟩ 246) fun c v=>lS [(Value.int .i64 p),(Value.int .i64 q),(Value.int .i64 r),(Value.int .i64 s),(Value.int .i64 t),(Value.bool u)] v c 0 fun b=>let h:Bool->World->Prop:=fun x i=>((bif x then
 K i
 else
 o ((IntKind.i64.wrap (f.1+1)),()) i))
 Ld .bool b (c.add 5) fun y=>(bif y then
 Ld (.int .i64) b (c.add 0) fun z=>Ld (.int .i64) b (c.add 1) fun A=>Ld (.int .i64) b (c.add 2) fun B=>Ld (.int .i64) b (c.add 3) fun C=>Ld (.int .i64) b (c.add 4) fun D=>jI Tryz.prog [.one .bool] a0 [(Value.int .i64 f.1),(Value.agg ⟨[(Value.int .i64 z),(Value.int .i64 A),(Value.int .i64 B),(Value.int .i64 C),(Value.int .i64 D)]⟩)] b fun E F=>∃j:Bool,E=(Value.bool j)/\
 h (!j) F
 else
 h false b)
 else
 K a)) (0,()) e)):=okF iF Tryz.func114 (.seq .leaf (.seq .leaf (.blk (.loop [(13,(.int .i64))] .leaf)))) (by kernel_rfl)
theorem Dn {a0 w K}:fF (jk a0 w K)
 (let a:Bool->Prop:=fun b=>(K b w)
 (bif (!(Option.isNone a0)) then
 Pt a0 fun c=>Ld .ptr w (c.add 1) fun d=>a (!(Option.isNone d))
 else
 a false)):=okF iF Tryz.func115 .leaf (by kernel_rfl)
theorem SL {A0 A1 A2 A3 A4 A5 A6 A7 A8 A9 A10 A11 A12 A13 A14 A15 w K}:fF (DR A0 A1 A2 A3 A4 A5 A6 A7 A8 A9 A10 A11 A12 A13 A14 A15 w K)
 (Al w (.cells ⟨(iM A0 A1 A2 A3 A4 A5 A6 A7 A8 A9 A10 A11 A12 A13 A14 A15)⟩ 28) fun a d=>yN d fun e f g h i j k l m n o p q r s t u=>Al u (.cells ⟨(iM 0 0 0 0 0 0 0 0 0 0 0 0 0 0 0 0)⟩ 28) fun b v=>lS (iM e f g h i j k l m n o p q r s t) v b 0 fun x=>sQ a 16 1 0 12 fun y=>sQ b 16 1 0 12 fun z=>jr y z x.drew fun A c=>(bif (!A) then
 K 0 false c
 else
 sQ a 16 1 0 (16:Int) fun B=>zB B 12 4 c fun C D E=>K C (D==0) E)):=okF iF Tryz.func116 .leaf (by kernel_rfl)
theorem P6 {a0 a1 f0 w K}:fF (TK a0 a1 f0 w K)
 (Ld .slice w f0 fun a=>zB a a0 a1 w fun b d c=>K b c):=okF iF Tryz.func117 .leaf (by kernel_rfl)
theorem SY {a0 a1 a2 w K}:fF (xI a0 a1 a2 w K)
 (let b:Bool->World->Prop:=fun e a=>((bif e then
 K ⟨none,0,0⟩ 1 a
 else
 let c:Bool->Prop:=fun f=>((bif f then
 K ⟨none,0,0⟩ 3 a
 else
 NI a0 1 a1 (IntKind.i64.wrap (a1+a2)) (IntKind.i64.wrap (a1+a2)) fun g=>K g 0 a))
 (bif (decide ((a0.len:Int)<a2)) then
 c true
 else
 c (decide (a1>(IntKind.i64.wrap ((a0.len:Int) - a2)))))))
 wP a2 w fun h d=>(bif (!h) then
 b true d
 else
 b (decide (a1<0)) d)):=okF iF Tryz.func118 .leaf (by kernel_rfl)
theorem Ku {A0 A1 A2 A3 A4 A5 A6 A7 A8 A9 A10 A11 A12 A13 A14 A15 A16 A17 A18 A19 A20 A21 A22 A23 A24 A25 A26 A27 A28 A29 A30 A31 A32 A33 A34 A35 w K}:fF (o_ A0 A1 A2 A3 A4 A5 A6 A7 A8 A9 A10 A11 A12 A13 A14 A15 A16 A17 A18 A19 A20 A21 A22 A23 A24 A25 A26 A27 A28 A29 A30 A31 A32 A33 A34 A35 w K)
 (Al w (.cells ⟨(jh A0 A1 A2 A3 A4 A5 A6 A7 A8 A9 A10 A11 A12 A13 A14 A15 A16 A17 A18 A19 A20 A21 A22 A23 A24 A25 A26 A27 A28 A29 A30 A31 A32 A33 A34 A35)⟩ 33) fun a t=>let d:Bool->World->Prop:=fun x u=>(let b:Bool->World->Prop:=fun y v=>(let e:Bool->World->Prop:=fun z f=>(let g:Bool->World->Prop:=fun A B=>(K A B)
 (bif x then
 (bif y then
 (bif z then
 Ld (.int .i64) f (a.add 18) fun C=>gG C 1 65535 f fun D h=>(bif D then
 Ld (.int .i64) h (a.add 19) fun E=>Ld (.int .i64) h (a.add 18) fun F=>gG E F 65535 h fun G H=>g G H
 else
 g false h)
 else
 g false f)
 else
 g false f)
 else
 g false f))
 Ld (.int .i64) v (a.add 30) fun I=>gG I 120 1048576 v fun J i=>(bif J then
 Ld (.int .i64) i (a.add 31) fun L=>gG L 7440 1048576 i fun M j=>(bif M then
 Ld (.int .i64) j (a.add 32) fun N=>gG N 240 1048576 j fun O k=>(bif O then
 Ld (.int .i64) k (a.add 33) fun P=>gG P 60 1048576 k fun Q l=>(bif Q then
 Ld (.int .i64) l (a.add 34) fun R=>gG R 1 1048576 l fun S T=>e S T
 else
 e false l)
 else
 e false k)
 else
 e false j)
 else
 e false i))
 Ld (.int .i64) u (a.add 25) fun U=>gG U 1280 65535 u fun V m=>(bif V then
 Ld (.int .i64) m (a.add 26) fun W=>gG W 1280 65535 m fun X n=>(bif X then
 Ld (.int .i64) n (a.add 27) fun Y=>gG Y 1 255 n fun Z c=>(bif Z then
 Ld (.int .i64) c (a.add 28) fun aa=>(bif (aa==0) then
 Ld (.int .i64) c (a.add 29) fun ab=>gG ab 0 2 c fun ac ad=>b ac ad
 else
 Ld (.int .i64) c (a.add 28) fun ae=>gG ae 536 65535 c fun af o=>(bif af then
 Ld (.int .i64) o (a.add 29) fun ag=>gG ag 0 2 o fun ah ai=>b ah ai
 else
 b false o))
 else
 b false c)
 else
 b false n)
 else
 b false m))
 Ld (.int .i64) t (a.add 20) fun aj=>gG aj 1 4096 t fun ak p=>(bif ak then
 Ld (.int .i64) p (a.add 21) fun al=>gG al 1 4096 p fun am q=>(bif am then
 Ld (.int .i64) q (a.add 22) fun an=>gG an 1 4096 q fun ao r=>(bif ao then
 Ld (.int .i64) r (a.add 23) fun ap=>gG ap 0 4096 r fun aq s=>(bif aq then
 Ld (.int .i64) s (a.add 24) fun ar=>gG ar 0 67108864 s fun au av=>d au av
 else
 d false s)
 else
 d false r)
 else
 d false q)
 else
 d false p)):=okF iF Tryz.func119 .leaf (by kernel_rfl)
theorem NS {A0 A1 A2 A3 A4 A5 A6 A7 A8 A9 A10 A11 A12 A13 A14 A15 A16 A17 A18 A19 A20 A21 A22 A23 A24 A25 A26 A27 A28 A29 A30 A31 A32 A33 A34 A35 w K}:fF (um A0 A1 A2 A3 A4 A5 A6 A7 A8 A9 A10 A11 A12 A13 A14 A15 A16 A17 A18 A19 A20 A21 A22 A23 A24 A25 A26 A27 A28 A29 A30 A31 A32 A33 A34 A35 w K)
 (Al w (.cells ⟨(jh A0 A1 A2 A3 A4 A5 A6 A7 A8 A9 A10 A11 A12 A13 A14 A15 A16 A17 A18 A19 A20 A21 A22 A23 A24 A25 A26 A27 A28 A29 A30 A31 A32 A33 A34 A35)⟩ 33) fun a m=>let e:Bool->World->Prop:=fun r n=>((bif r then
 K false n
 else
 iw (S:=Int×Unit) (fun h f s=>Ld .slice f (a.add 16) fun t=>(bif (decide (h.1<(t.len:Int))) then
 Ld .slice f (a.add 16) fun u=>g_ u 16 h.1 fun v=>nY f v fun x y z A B C D E F G H I J L M N=>rH x y z A B C D E F G H I J L M N f fun O o=>(bif (!O) then
 K false o
 else
 s ((IntKind.i64.wrap (h.1+1)),()) o)
 else
 iw (S:=Int×Unit) (fun i g P=>Ld .slice g (a.add 17) fun Q=>(bif (decide (i.1<(Q.len:Int))) then
 Ld .slice g (a.add 17) fun R=>g_ R 1 i.1 fun T=>Ld (.int .i64) g T fun U=>rG U g fun V p=>(bif (!V) then
 K false p
 else
 P ((IntKind.i64.wrap (i.1+1)),()) p)
 else
 iw (S:=Int×Unit) (fun j b W=>Ld .slice b (a.add 35) fun X=>(bif (decide (j.1<(X.len:Int))) then
 vF b.drew a fun Y Z aa ab ac ad ae af ag ah ai aj ak al am an ao ap aq ar au av aw ax ay az aA aB aC aD aE aF aG aH aI aJ=>Ld .slice b.drew (a.add 35) fun aK=>g_ aK 7 j.1 fun c=>Ld (.int .i64) b.drew (c.add 0) fun aL=>Ld (.int .i64) b.drew (c.add 1) fun aM=>Ld (.int .i64) b.drew (c.add 2) fun aN=>Ld (.int .i64) b.drew (c.add 3) fun aO=>Ld (.int .i64) b.drew (c.add 4) fun aP=>Ld (.int .i64) b.drew (c.add 5) fun aQ=>Ld (.int .i64) b.drew (c.add 6) fun aR=>qU Y Z aa ab ac ad ae af ag ah ai aj ak al am an ao ap aq ar au av aw ax ay az aA aB aC aD aE aF aG aH aI aJ aL aM aN aO aP aQ aR b.drew fun aS q=>(bif (!aS) then
 K false q
 else
 W ((IntKind.i64.wrap (j.1+1)),()) q)
 else
 K true b)) (0,()) g)) (0,()) f)) (0,()) n))
 nY m a fun aT aU aV aW aX aY aZ a0 a1 a2 a4 a5 a6 a7 a8 a9=>rH aT aU aV aW aX aY aZ a0 a1 a2 a4 a5 a6 a7 a8 a9 m fun ba k=>(bif (!ba) then
 e true k
 else
 Ld .slice k (a.add 16) fun bb=>gG (bb.len:Int) 1 64 k fun bc l=>(bif (!bc) then
 e true l
 else
 Ld .slice l (a.add 17) fun bd=>gG (bd.len:Int) 1 16 l fun be d=>(bif (!be) then
 e true d
 else
 Ld .slice d (a.add 35) fun bf=>(bif (decide ((bf.len:Int)>64)) then
 e true d
 else
 Ld .slice d (a.add 35) fun bg=>Ld (.int .i64) d (a.add 21) fun bh=>e (decide ((bg.len:Int)>bh)) d))))):=okF iF Tryz.func120 (.seq .leaf (.seq .leaf (.seq (.seq .leaf (.blk (.loop [(3,(.int .i64))] .leaf))) (.seq (.seq .leaf (.blk (.loop [(4,(.int .i64))] .leaf))) (.seq (.seq .leaf (.blk (.loop [(5,(.int .i64))] .leaf))) .leaf))))) (by kernel_rfl)
theorem OT {A0 A1 A2 A3 A4 A5 A6 A7 A8 A9 A10 A11 A12 A13 A14 A15 A16 A17 A18 A19 A20 A21 A22 A23 A24 A25 A26 A27 A28 A29 A30 A31 A32 A33 A34 A35 w K}:fF (uy A0 A1 A2 A3 A4 A5 A6 A7 A8 A9 A10 A11 A12 A13 A14 A15 A16 A17 A18 A19 A20 A21 A22 A23 A24 A25 A26 A27 A28 A29 A30 A31 A32 A33 A34 A35 w K)
 (Al w (.cells ⟨(jh A0 A1 A2 A3 A4 A5 A6 A7 A8 A9 A10 A11 A12 A13 A14 A15 A16 A17 A18 A19 A20 A21 A22 A23 A24 A25 A26 A27 A28 A29 A30 A31 A32 A33 A34 A35)⟩ 33) fun b u=>iw (S:=Int×Unit) (fun h l v=>Ld .slice l (b.add 16) fun x=>(bif (decide (h.1<(x.len:Int))) then
 iw (S:=Int×Unit) (fun m c y=>(bif (decide (m.1<h.1)) then
 Ld .slice c.drew (b.add 16) fun z=>g_ z 16 m.1 fun A=>nY c.drew A fun B C D E F G H I J L M N O P Q R=>Ld .slice c.drew (b.add 16) fun T=>g_ T 16 h.1 fun U=>nY c.drew U fun V W X Y Z aa ab ac ad ae af ag ah ai aj ak=>(bif ((B==V) && ((C==W) && ((D==X) && ((E==Y) && ((F==Z) && ((G==aa) && ((H==ab) && ((I==ac) && ((J==ad) && ((L==ae) && ((M==af) && ((N==ag) && ((O==ah) && ((P==ai) && ((Q==aj) && ((R==ak) && true)))))))))))))))) then
 K true c.drew
 else
 y ((IntKind.i64.wrap (m.1+1)),()) c.drew)
 else
 Ld .slice c.drew (b.add 16) fun al=>g_ al 16 h.1 fun am=>nY c.drew am fun an ao ap aq ar au av aw ax ay az aA aB aC aD aE=>nY c.drew b fun aF aG aH aI aJ aK aL aM aN aO aP aQ aR aS aT aU=>(bif ((an==aF) && ((ao==aG) && ((ap==aH) && ((aq==aI) && ((ar==aJ) && ((au==aK) && ((av==aL) && ((aw==aM) && ((ax==aN) && ((ay==aO) && ((az==aP) && ((aA==aQ) && ((aB==aR) && ((aC==aS) && ((aD==aT) && ((aE==aU) && true)))))))))))))))) then
 K true c.drew
 else
 v ((IntKind.i64.wrap (h.1+1)),()) c.drew))) (0,()) l
 else
 iw (S:=Int×Unit) (fun i n aV=>Ld .slice n (b.add 17) fun aW=>(bif (decide (i.1<(aW.len:Int))) then
 iw (S:=Int×Unit) (fun o e aX=>(bif (decide (o.1<i.1)) then
 Ld .slice e.drew (b.add 17) fun aY=>g_ aY 1 o.1 fun aZ=>Ld (.int .i64) e.drew aZ fun a0=>Ld .slice e.drew (b.add 17) fun a1=>g_ a1 1 i.1 fun a2=>Ld (.int .i64) e.drew a2 fun a4=>(bif (a0==a4) then
 K true e.drew
 else
 aX ((IntKind.i64.wrap (o.1+1)),()) e.drew)
 else
 aV ((IntKind.i64.wrap (i.1+1)),()) e)) (0,()) n
 else
 iw (S:=Int×Unit) (fun g p a5=>Ld .slice p (b.add 35) fun a6=>(bif (decide (g.1<(a6.len:Int))) then
 iw (S:=Int×Int×Unit) (fun d a a7=>(bif (decide (d.2.1<g.1)) then
 let s:Int->World->Prop:=fun a8 a9=>(a7 (a8,(IntKind.i64.wrap (d.2.1+1)),()) a9)
 let t:Bool->World->Prop:=fun ba f=>((bif ba then
 K true f
 else
 Ld .slice f.drew (b.add 35) fun bb=>g_ bb 7 d.2.1 fun bc=>Ld (.int .i64) f.drew bc fun bd=>Ld .slice f.drew (b.add 35) fun be=>g_ be 7 g.1 fun bf=>Ld (.int .i64) f.drew bf fun bg=>(bif (bd==bg) then
 s (IntKind.i64.wrap (d.1+1)) f.drew
 else
 s d.1 f.drew)))
 Ld .slice a.drew (b.add 35) fun bh=>g_ bh 7 d.2.1 fun j=>Ld (.int .i64) a.drew (j.add 0) fun bi=>Ld (.int .i64) a.drew (j.add 1) fun bj=>Ld (.int .i64) a.drew (j.add 2) fun bk=>Ld (.int .i64) a.drew (j.add 3) fun bl=>Ld .slice a.drew (b.add 35) fun bm=>g_ bm 7 g.1 fun k=>Ld (.int .i64) a.drew (k.add 0) fun bn=>Ld (.int .i64) a.drew (k.add 1) fun bo=>Ld (.int .i64) a.drew (k.add 2) fun bp=>Ld (.int .i64) a.drew (k.add 3) fun bq=>(bif ((bi==bn) && ((bj==bo) && ((bk==bp) && ((bl==bq) && true)))) then
 t true a.drew
 else
 Ld .slice a.drew (b.add 35) fun br=>g_ br 7 d.2.1 fun q=>Ld (.int .i64) a.drew ((q.add 4).add 0) fun bs=>Ld (.int .i64) a.drew ((q.add 4).add 1) fun bt=>Ld (.int .i64) a.drew ((q.add 4).add 2) fun bu=>Ld .slice a.drew (b.add 35) fun bv=>g_ bv 7 g.1 fun r=>Ld (.int .i64) a.drew ((r.add 4).add 0) fun bw=>Ld (.int .i64) a.drew ((r.add 4).add 1) fun bx=>Ld (.int .i64) a.drew ((r.add 4).add 2) fun bz=>t ((bs==bw) && ((bt==bx) && ((bu==bz) && true))) a.drew)
 else
 Ld (.int .i64) a (b.add 20) fun bA=>(bif (decide (d.1>bA)) then
 K true a
 else
 a5 ((IntKind.i64.wrap (g.1+1)),()) a))) (1,0,()) p
 else
 K false p)) (0,()) n)) (0,()) l)) (0,()) u):=okF iF Tryz.func121 (.seq .leaf (.seq (.seq .leaf (.blk (.loop [(3,(.int .i64))] (.seq .leaf (.seq (.blk (.seq (.seq .leaf (.blk (.loop [(4,(.int .i64))] .leaf))) .leaf)) .leaf))))) (.seq (.seq .leaf (.blk (.loop [(5,(.int .i64))] (.seq .leaf (.seq (.blk (.seq .leaf (.blk (.loop [(6,(.int .i64))] .leaf)))) .leaf))))) (.seq (.seq .leaf (.blk (.loop [(7,(.int .i64))] (.seq .leaf (.seq (.blk (.seq .leaf (.seq (.seq .leaf (.blk (.loop [(8,(.int .i64)),(9,(.int .i64))] .leaf))) .leaf))) .leaf))))) .leaf)))) (by kernel_rfl)
theorem tK {a0 a1 a2 a3 a4 w K}:fF (fZ a0 a1 a2 a3 a4 w K)
 (iw (S:=Int×Int×Int×Bool×Bool×Unit) (fun a d f=>(bif (decide ((IntKind.i64.wrap (a.2.1 - a.1))<=12)) then
 gJ a0 a.1 a.2.1 a4 d fun v=>K v
 else
 (bif (a.2.2.1==0) then
 uw a0 a.1 a.2.1 a4 d fun x=>K x
 else
 let i:Int->World->Prop:=fun c y=>(qV a0 a.1 a.2.1 a4 y fun j k l=>let m:Int->Int->World->Prop:=fun g z n=>(let o:World->Prop:=fun e=>(let p:Bool->World->Prop:=fun A q=>((bif A then
 pG a0 a.1 a.2.1 g a4 q fun B C=>f (B,a.2.1,c,a.2.2.2.1,a.2.2.2.2.1,()) C
 else
 sZ a0 a.1 a.2.1 g a4 q fun b r s=>(8:Int)≠0/\
 (bif (decide ((IntKind.i64.wrap (b - a.1))<(IntKind.i64.wrap (a.2.1 - b)))) then
 fZ a0 a.1 b c a4 s fun D=>f ((IntKind.i64.wrap (b+1)),a.2.1,c,(decide ((IntKind.i64.wrap (b - a.1))>=(IntKind.i64.wrap (Int.tdiv (IntKind.i64.wrap (a.2.1 - a.1)) 8)))),r,()) D
 else
 fZ a0 (IntKind.i64.wrap (b+1)) a.2.1 c a4 s fun E=>f (a.1,b,c,(decide ((IntKind.i64.wrap (a.2.1 - b))>=(IntKind.i64.wrap (Int.tdiv (IntKind.i64.wrap (a.2.1 - a.1)) 8)))),r,()) E)))
 (bif (decide (a.1>0)) then
 g_ a0 1 (IntKind.i64.wrap (a.1 - 1)) fun F=>Ld .ptr e.drew F fun G=>g_ a0 1 g fun H=>Ld .ptr e.drew H fun I=>jI Tryz.prog [.one (.int .i64)] a4 [(Value.pointer G),(Value.pointer I)] e.drew fun J L=>∃t:Int,J=(Value.int .i64 t)/\
 p (!(decide (t<0))) L
 else
 p false e.drew))
 let h:Bool->Prop:=fun M=>((bif M then
 mY a0 a.1 a.2.1 a4 n fun N u=>(bif N then
 K u
 else
 o u)
 else
 o n))
 (bif a.2.2.2.1 then
 (bif a.2.2.2.2.1 then
 h (z==1)
 else
 h false)
 else
 h false))
 (bif (k==2) then
 qA a0 a.1 a.2.1 a4 l fun O=>m (IntKind.i64.wrap ((IntKind.i64.wrap (a.2.1 - 1)) - (IntKind.i64.wrap (j - a.1)))) 1 O
 else
 m j k l))
 (bif (!a.2.2.2.1) then
 qj a0 a.1 a.2.1 a4 d fun P=>i (IntKind.i64.wrap (a.2.2.1 - 1)) P
 else
 i a.2.2.1 d)))) (a1,a2,a3,true,true,()) w):=okF iF Tryz.func122 (.seq .leaf (.seq .leaf (.blk (.loop [(1,(.int .i64)),(2,(.int .i64)),(3,(.int .i64)),(10,.bool),(11,.bool)] .leaf)))) (by kernel_rfl)
theorem La {a0 w K}:fF (kP a0 w K)
 (ng a0 w fun a b=>K a b):=okF iF Tryz.func123 .leaf (by kernel_rfl)
theorem Ip {a0 a1 w K}:fF (kN a0 a1 w K)
 (mM a0 w fun c d=>mM a1 d fun b a=>(bif c then
 (bif b then
 K 0 a
 else
 K (-1) a)
 else
 (bif b then
 K 1 a
 else
 (bif (decide (a0<a1)) then
 K (-1) a
 else
 (bif (decide (a0>a1)) then
 K 1 a
 else
 K 0 a))))):=okF iF Tryz.func125 .leaf (by kernel_rfl)
theorem Qp {a0 w K}:fF (rG a0 w K)
 (let a:Bool->Prop:=fun b=>(K b w)
 (bif (decide (a0>=16777216)) then
 (bif (decide (a0<3758096384)) then
 (16777216:Int)≠0/\
 a ((IntKind.i64.wrap (Int.tdiv a0 16777216)) !=127)
 else
 a false)
 else
 a false)):=okF iF Tryz.func126 .leaf (by kernel_rfl)
theorem Fq {a0 a1 w K}:fF (jS a0 a1 w K)
 (gY (Value.pointer a0)=true/\
 Al w (.cells ⟨[(Value.pointer a0)]⟩ 200) fun a n=>Ld .ptr n a fun v=>jD v n fun x j=>(bif (!x) then
 K false j
 else
 Ld .ptr j a fun y=>ig y a1 j fun o z h=>(bif (!z) then
 K false h
 else
 Ld .ptr h a fun A=>Pt A fun B=>Ld .slice h B fun C=>g_ C 3 o fun D=>lS [(Value.string (bs [])),(Value.int .i64 0),(Value.bool false)] h D 0 fun k=>Ld .ptr k a fun p=>Pt p fun E=>Ld (.int .i64) k (E.add 1) fun F=>Pt p fun G=>St k (G.add 1) (Value.int .i64 (IntKind.i64.wrap (F - 1))) fun i=>let q:List Nat->World->Prop:=fun H I=>(Ir H I fun J=>K true J)
 Ld .ptr i.drew a fun L=>Ld .ptr i.drew a fun M=>Pt M fun N=>Ld .slice i.drew N fun r=>(r.len:Int)≠0/\
 kM L (Int.tmod (IntKind.i64.wrap (o+1)) (r.len:Int)) i.drew fun O f=>EC Tryz.prog none [.one (.int .i64)] O f (fun b s c t=>c.heap[b]? =c.heap[b]? /\
 Ld .ptr (fB c b) a fun P=>Pt P fun Q=>Ld .slice (fB c b) Q fun R=>g_ R 3 s.1 fun l=>Ld .str (fB c b) (l.add 0) fun S=>Ld (.int .i64) (fB c b) (l.add 1) fun T=>Ld .bool (fB c b) (l.add 2) fun U=>Al (fB c b) (.cells ⟨[(Value.string (bs [])),(Value.int .i64 0),(Value.bool false)]⟩ 343) fun d V=>lS [(Value.string S),(Value.int .i64 T),(Value.bool U)] V d 0 fun g=>Ld .bool g (d.add 2) fun W=>(bif (!W) then
 t (.exit 0) g
 else
 Ld .ptr g a fun X=>Pt X fun Y=>Ld .slice g Y fun Z=>g_ Z 3 s.1 fun aa=>lS [(Value.string (bs [])),(Value.int .i64 0),(Value.bool false)] g aa 0 fun m=>Ld .ptr m a fun ab=>Ld .str m d fun ac=>ig ab ac m fun ad ao e=>Ld .ptr e.drew a fun ae=>Pt ae fun af=>Ld .slice e.drew af fun ag=>Ld .str e.drew (d.add 0) fun ah=>Ld (.int .i64) e.drew (d.add 1) fun ai=>Ld .bool e.drew (d.add 2) fun aj=>g_ ag 3 ad fun ak=>lS [(Value.string ah),(Value.int .i64 ai),(Value.bool aj)] e.drew ak 0 fun al=>t .normal al))
 (fun am=>q (f.heap.size::[]) am)
 (fun u=>u.heap[f.heap.size]? =some (.deferred (some []))/\
 K false (u.putObj f.heap.size (.deferred none)))
 [(0,(fun an=>q (f.heap.size::[]) an))]))):=okF iF Tryz.func144 (.seq .leaf (.seq .leaf (.seq .leaf (.seq .leaf (.seq .leaf (.seq .leaf (.seq .leaf (.seq (.seq .leaf (.blk (.rng [.one (.int .i64)] .leaf .leaf))) .leaf)))))))) (by kernel_rfl)
theorem PG {a0 a1 w K}:fF (pV a0 a1 w K)
 (Al w (.cells ⟨[(Value.int .i64 0),(Value.int .i64 0),(Value.int .i64 0),(Value.int .i64 0),(Value.int .i64 0),(Value.int .i64 0),(Value.int .i64 0),(Value.bool false)]⟩ 130) fun a f=>pU a0 a1 f fun g b=>(bif (!g) then
 lS [(Value.int .i64 0),(Value.int .i64 0),(Value.int .i64 0),(Value.int .i64 0),(Value.int .i64 0),(Value.int .i64 0),(Value.int .i64 0),(Value.bool false)] b a 0 fun c=>Ld (.int .i64) c (a.add 0) fun h=>Ld (.int .i64) c (a.add 1) fun i=>Ld (.int .i64) c (a.add 2) fun j=>Ld (.int .i64) c (a.add 3) fun k=>Ld (.int .i64) c (a.add 4) fun l=>Ld (.int .i64) c (a.add 5) fun m=>Ld (.int .i64) c (a.add 6) fun n=>Ld .bool c (a.add 7) fun o=>K h i j k l m n o false c
 else
 Pt a0 fun p=>Ld .slice b p fun q=>g_ q 9 a1 fun e=>Ld (.int .i64) b (e.add 0) fun r=>Ld (.int .i64) b (e.add 1) fun s=>Ld (.int .i64) b (e.add 2) fun t=>Ld (.int .i64) b (e.add 3) fun u=>Ld (.int .i64) b (e.add 4) fun v=>Ld (.int .i64) b (e.add 5) fun x=>Ld (.int .i64) b (e.add 6) fun y=>Ld .bool b (e.add 7) fun z=>lS [(Value.int .i64 r),(Value.int .i64 s),(Value.int .i64 t),(Value.int .i64 u),(Value.int .i64 v),(Value.int .i64 x),(Value.int .i64 y),(Value.bool z)] b a 0 fun d=>Ld (.int .i64) d (a.add 0) fun A=>Ld (.int .i64) d (a.add 1) fun B=>Ld (.int .i64) d (a.add 2) fun C=>Ld (.int .i64) d (a.add 3) fun D=>Ld (.int .i64) d (a.add 4) fun E=>Ld (.int .i64) d (a.add 5) fun F=>Ld (.int .i64) d (a.add 6) fun G=>Ld .bool d (a.add 7) fun H=>K A B C D E F G H true d)):=okF iF Tryz.func148 .leaf (by kernel_rfl)
theorem GH {a0 a1 w K}:fF (lM a0 a1 w K)
 (gY (Value.pointer a0)=true/\
 Al w (.cells ⟨[(Value.pointer a0)]⟩ 88) fun a b=>gY (Value.int .i64 a1)=true/\
 Al b (.cells ⟨[(Value.int .i64 a1)]⟩ 3) fun c d=>K (Value.func (.func 244) #[] #[(Value.pointer (some a)),(Value.pointer (some c))]) d):=okF iF Tryz.func149 .leaf (by kernel_rfl)
theorem Jg {a0 a1 w K}:fF (nN a0 a1 w K)
 (pU a0 a1 w fun m d=>(bif (!m) then
 K false d
 else
 Pt a0 fun n=>Ld .slice d n fun o=>g_ o 9 a1 fun p=>ace d p fun q r s t u v x y z=>Al d (.cells ⟨(OB 0 0 0 0 0 0 0 false false)⟩ 243) fun a A=>lS (OB q r s t u v x y z) A a 0 fun b=>Pt a0 fun e=>Ld .ptr b.drew (e.add 1) fun f=>Ld (.int .i64) b.drew (a.add 0) fun B=>Ld (.int .i64) b.drew (a.add 1) fun C=>Ld (.int .i64) b.drew (a.add 2) fun D=>Ld (.int .i64) b.drew (a.add 3) fun E=>kQ B C D E b.drew fun F g=>g.cell? (e.add 1)=some (Value.pointer f)/\
 jS f F g fun S c=>Pt a0 fun h=>Ld .ptr c.drew (h.add 2) fun i=>Ld (.int .i64) c.drew ((a.add 4).add 0) fun G=>Ld (.int .i64) c.drew ((a.add 4).add 1) fun H=>Ld (.int .i64) c.drew ((a.add 4).add 2) fun I=>kR G H I c.drew fun J j=>j.cell? (h.add 2)=some (Value.pointer i)/\
 jS i J j fun T k=>Pt a0 fun L=>Ld .slice k L fun M=>g_ M 9 a1 fun N=>lS (OB 0 0 0 0 0 0 0 false false) k N 0 fun l=>Pt a0 fun O=>Ld (.int .i64) l (O.add 3) fun P=>Pt a0 fun Q=>St l (Q.add 3) (Value.int .i64 (IntKind.i64.wrap (P - 1))) fun R=>K true R)):=okF iF Tryz.func150 .leaf (by kernel_rfl)
theorem Jb {a0 B0 B1 B2 w K}:fF (nS a0 B0 B1 B2 w K)
 (Al w (.cells ⟨[(Value.int .i64 B0),(Value.int .i64 B1),(Value.int .i64 B2)]⟩ 80) fun b e=>let d:Bool->World->Prop:=fun f c=>((bif f then
 K false c
 else
 Pt a0 fun g=>Ld .map c.drew (g.add 3) fun h=>Ld (.int .i64) c.drew (b.add 0) fun i=>Ld (.int .i64) c.drew (b.add 1) fun j=>Ld (.int .i64) c.drew (b.add 2) fun k=>Dl Tryz.prog 80 h (Value.agg ⟨[(Value.int .i64 i),(Value.int .i64 j),(Value.int .i64 k)]⟩) c.drew fun l=>K true l))
 jO a0 e.drew fun m a=>(bif (!m) then
 d true a
 else
 Pt a0 fun n=>Ld .map a (n.add 3) fun o=>Ld (.int .i64) a (b.add 0) fun p=>Ld (.int .i64) a (b.add 1) fun q=>Ld (.int .i64) a (b.add 2) fun r=>sH Tryz.prog 80 .bool o (Value.agg ⟨[(Value.int .i64 p),(Value.int .i64 q),(Value.int .i64 r)]⟩) (Value.bool false) a fun s=>d (!s) a)):=okF iF Tryz.func151 .leaf (by kernel_rfl)
theorem Gv {a0 a1 w K}:fF (lY a0 a1 w K)
 (jY a0 a1 w fun b c a=>(bif (c !=0) then
 K c a
 else
 Pt b fun d=>Ld (.int .i64) a d fun e=>(bif (e==0) then
 K 8 a
 else
 Pt b fun f=>Ld (.int .i64) a f fun g=>Pt b fun h=>St a h (Value.int .i64 (IntKind.i64.wrap (g - 1))) fun i=>K 0 i))):=okF iF Tryz.func152 .leaf (by kernel_rfl)
theorem I_ {A0 A1 A2 A3 A4 A5 A6 A7 A8 A9 A10 A11 A12 A13 A14 A15 w K}:fF (Ky A0 A1 A2 A3 A4 A5 A6 A7 A8 A9 A10 A11 A12 A13 A14 A15 w K)
 (Al w (.cells ⟨(iM A0 A1 A2 A3 A4 A5 A6 A7 A8 A9 A10 A11 A12 A13 A14 A15)⟩ 28) fun b a=>nY a b fun c d e f g h i j k l m n o p q r=>wI c d e f g h i j k l m n o p q r a fun s t=>K (!s) t):=okF iF Tryz.func159 .leaf (by kernel_rfl)
theorem UF {A0 A1 A2 A3 A4 A5 A6 A7 A8 A9 A10 A11 A12 A13 A14 A15 w K}:fF (wI A0 A1 A2 A3 A4 A5 A6 A7 A8 A9 A10 A11 A12 A13 A14 A15 w K)
 (Al w (.cells ⟨(iM A0 A1 A2 A3 A4 A5 A6 A7 A8 A9 A10 A11 A12 A13 A14 A15)⟩ 28) fun b d=>Al d (.cells ⟨(iM 0 0 0 0 0 0 0 0 0 0 0 0 0 0 0 0)⟩ 28) fun e a=>let c:Bool->Prop:=fun f=>(K f a)
 nY a b fun g h i j k l m n o p q r s t u v=>nY a e fun x y z A B C D E F G H I J L M N=>(bif (!((g==x) && ((h==y) && ((i==z) && ((j==A) && ((k==B) && ((l==C) && ((m==D) && ((n==E) && ((o==F) && ((p==G) && ((q==H) && ((r==I) && ((s==J) && ((t==L) && ((u==M) && ((v==N) && true))))))))))))))))) then
 (0:Int)<=0/\0<(16:Int)/\
 Ld (.int .u8) a (b.add (Int.toNat 0 * 1)) fun O=>c (O !=255)
 else
 c false)):=okF iF Tryz.func160 .leaf (by kernel_rfl)
theorem Ji {a0 w K}:fF (Kz a0 w K)
 (ny a0 w fun a b=>K (!a) b):=okF iF Tryz.func161 .leaf (by kernel_rfl)
theorem Jp {A0 A1 A2 A3 A4 A5 A6 f0 w K}:fF (Kv A0 A1 A2 A3 A4 A5 A6 f0 w K)
 (Al w (.cells ⟨[(Value.int .i64 A0),(Value.int .i64 A1),(Value.int .i64 A2),(Value.int .i64 A3),(Value.int .i64 A4),(Value.int .i64 A5),(Value.int .i64 A6)]⟩ 105) fun b a=>vF a f0 fun c d e f g h i j k l m n o p q r s t u v x y z A B C D E F G H I J L M N=>Ld (.int .i64) a (b.add 0) fun O=>Ld (.int .i64) a (b.add 1) fun P=>Ld (.int .i64) a (b.add 2) fun Q=>Ld (.int .i64) a (b.add 3) fun R=>Ld (.int .i64) a (b.add 4) fun S=>Ld (.int .i64) a (b.add 5) fun T=>Ld (.int .i64) a (b.add 6) fun U=>uG c d e f g h i j k l m n o p q r s t u v x y z A B C D E F G H I J L M N O P Q R S T U a fun V W=>K (!V) W):=okF iF Tryz.func162 .leaf (by kernel_rfl)
theorem OU {A0 A1 A2 A3 A4 A5 A6 A7 A8 A9 A10 A11 A12 A13 A14 A15 A16 A17 A18 A19 A20 A21 A22 A23 A24 A25 A26 A27 A28 A29 A30 A31 A32 A33 A34 A35 B0 B1 B2 B3 B4 B5 B6 w K}:fF (uG A0 A1 A2 A3 A4 A5 A6 A7 A8 A9 A10 A11 A12 A13 A14 A15 A16 A17 A18 A19 A20 A21 A22 A23 A24 A25 A26 A27 A28 A29 A30 A31 A32 A33 A34 A35 B0 B1 B2 B3 B4 B5 B6 w K)
 (Al w (.cells ⟨(jh A0 A1 A2 A3 A4 A5 A6 A7 A8 A9 A10 A11 A12 A13 A14 A15 A16 A17 A18 A19 A20 A21 A22 A23 A24 A25 A26 A27 A28 A29 A30 A31 A32 A33 A34 A35)⟩ 33) fun g n=>Al n (.cells ⟨[(Value.int .i64 B0),(Value.int .i64 B1),(Value.int .i64 B2),(Value.int .i64 B3),(Value.int .i64 B4),(Value.int .i64 B5),(Value.int .i64 B6)]⟩ 105) fun a h=>let i:Bool->World->Prop:=fun o j=>(let k:Bool->World->Prop:=fun p l=>(let m:Bool->World->Prop:=fun q b=>(let c:Bool->World->Prop:=fun r s=>(K r s)
 (bif o then
 (bif p then
 (bif q then
 Ld (.int .i64) b a fun t=>Ld .slice b (g.add 16) fun u=>iY t 0 (IntKind.i64.wrap ((u.len:Int) - 1)) b fun v x=>c v x
 else
 c false b)
 else
 c false b)
 else
 c false b))
 Ld (.int .i64) l (a.add 1) fun y=>qF y l fun z d=>(bif z then
 Ld (.int .i64) d (a.add 1) fun A=>Ld (.int .i64) d (a.add 4) fun B=>m (A==B) d
 else
 m false d))
 Ld (.int .i64) j (a.add 2) fun C=>ny C j fun D e=>(bif D then
 Ld .slice e (g.add 17) fun E=>Ld (.int .i64) e ((a.add 4).add 1) fun F=>gZ E F e fun G H=>k G H
 else
 k false e))
 Ld (.int .i64) h (a.add 3) fun I=>iY I 0 65535 h fun J f=>(bif J then
 Ld (.int .i64) f ((a.add 4).add 2) fun L=>iY L 0 65535 f fun M N=>i M N
 else
 i false f)):=okF iF Tryz.func163 .leaf (by kernel_rfl)
theorem qQ {a0 a1 w K}:fF (gX a0 a1 w K)
 (iq a0 a1 w fun a b=>K (decide (a>=0)) b):=okF iF Tryz.func164 .leaf (by kernel_rfl)
theorem wO {a0 a1 w K}:fF (iE a0 a1 w K)
 (iZ a0 a1 w fun a b=>K (decide (a>=0)) b):=okF iF Tryz.func165 .leaf (by kernel_rfl)
theorem nU {a0 a1 w K}:fF (f_ a0 a1 w K)
 (gI a0 a1 w fun a b=>K (decide (a>=0)) b):=okF iF Tryz.func166 .leaf (by kernel_rfl)
theorem vX {a0 w K}:fF (h_ a0 w K)
 ((bif (Option.isNone a0.a) then
 K ⟨none,0,0⟩ w
 else
 Al w (.cells ⟨[]⟩ 28) fun b c=>rY 28 16 16 (iM 0 0 0 0 0 0 0 0 0 0 0 0 0 0 0 0) ⟨(some b),0,0⟩ a0 c fun d e=>K d e)):=okF iF Tryz.func167 .leaf (by kernel_rfl)
theorem Gj {A0 A1 A2 A3 A4 A5 A6 w K}:fF (zC A0 A1 A2 A3 A4 A5 A6 w K)
 (Al w (.cells ⟨[(Value.int .i64 A0),(Value.int .i64 A1),(Value.int .i64 A2),(Value.int .i64 A3),(Value.int .i64 A4),(Value.int .i64 A5),(Value.int .i64 A6)]⟩ 105) fun d e=>Al e (.cells ⟨[(Value.int .i64 0),(Value.int .i64 0),(Value.int .i64 0),(Value.int .i64 0)]⟩ 78) fun a b=>Ld (.int .i64) b (d.add 0) fun f=>Ld (.int .i64) b (d.add 1) fun g=>Ld (.int .i64) b (d.add 2) fun h=>Ld (.int .i64) b (d.add 3) fun i=>lS [(Value.int .i64 f),(Value.int .i64 g),(Value.int .i64 h),(Value.int .i64 i)] b a 0 fun c=>Ld (.int .i64) c (a.add 0) fun j=>Ld (.int .i64) c (a.add 1) fun k=>Ld (.int .i64) c (a.add 2) fun l=>Ld (.int .i64) c (a.add 3) fun m=>K j k l m c):=okF iF Tryz.func168 .leaf (by kernel_rfl)
theorem Gn {A0 A1 A2 A3 A4 A5 A6 w K}:fF (zl A0 A1 A2 A3 A4 A5 A6 w K)
 (Al w (.cells ⟨[(Value.int .i64 A0),(Value.int .i64 A1),(Value.int .i64 A2),(Value.int .i64 A3),(Value.int .i64 A4),(Value.int .i64 A5),(Value.int .i64 A6)]⟩ 105) fun d e=>Al e (.cells ⟨[(Value.int .i64 0),(Value.int .i64 0),(Value.int .i64 0)]⟩ 80) fun a b=>Ld (.int .i64) b ((d.add 4).add 0) fun f=>Ld (.int .i64) b ((d.add 4).add 1) fun g=>Ld (.int .i64) b ((d.add 4).add 2) fun h=>lS [(Value.int .i64 f),(Value.int .i64 g),(Value.int .i64 h)] b a 0 fun c=>Ld (.int .i64) c (a.add 0) fun i=>Ld (.int .i64) c (a.add 1) fun j=>Ld (.int .i64) c (a.add 2) fun k=>K i j k c):=okF iF Tryz.func169 .leaf (by kernel_rfl)
theorem BI {a0 w K}:fF (jM a0 w K)
 (Al w (.cells ⟨[(Value.bool false)]⟩ 4) fun e j=>Al j (.map #[] 0) fun a5 m=>Al m (.cells ⟨[(Value.map none)]⟩ 348) fun f n=>St n f (Value.map (some j.heap.size)) fun d=>EC Tryz.prog none [.agg Nw] a0 d (fun b a k l=>Al k (.cells ⟨(iM 0 0 0 0 0 0 0 0 0 0 0 0 0 0 0 0)⟩ 28) fun g o=>lS (iM a.1.1 a.1.2.1 a.1.2.2.1 a.1.2.2.2.1 a.1.2.2.2.2.1 a.1.2.2.2.2.2.1 a.1.2.2.2.2.2.2.1 a.1.2.2.2.2.2.2.2.1 a.1.2.2.2.2.2.2.2.2.1 a.1.2.2.2.2.2.2.2.2.2.1 a.1.2.2.2.2.2.2.2.2.2.2.1 a.1.2.2.2.2.2.2.2.2.2.2.2.1 a.1.2.2.2.2.2.2.2.2.2.2.2.2.1 a.1.2.2.2.2.2.2.2.2.2.2.2.2.2.1 a.1.2.2.2.2.2.2.2.2.2.2.2.2.2.2.1 a.1.2.2.2.2.2.2.2.2.2.2.2.2.2.2.2.1) o g 0 fun c=>c.heap[b]? =k.heap[b]? /\
 Ld .map (fB c b) f fun p=>nY (fB c b) g fun q r s t u v x y z A B C D E F G=>sH Tryz.prog 28 .bool p (Value.agg ⟨iM q r s t u v x y z A B C D E F G⟩) (Value.bool false) (fB c b) fun H=>(bif H then
 St (fB c b) e (Value.bool true) fun I=>l .ret I
 else
 Ld .map (fB c b) f fun J=>nY (fB c b) g fun L M N O P Q R S T U V W X Y Z aa=>wJ Tryz.prog 28 J (Value.agg ⟨iM L M N O P Q R S T U V W X Y Z aa⟩) (Value.bool true) (fB c b) fun ab=>l .normal ab))
 (fun ac=>St ac e (Value.bool false) fun h=>h.heap[d.heap.size]? =some (.deferred (some []))/\
 Ld .bool (h.putObj d.heap.size (.deferred none)) e fun ad=>K ad (h.putObj d.heap.size (.deferred none)))
 (fun i=>i.heap[d.heap.size]? =some (.deferred (some []))/\
 Ld .bool (i.putObj d.heap.size (.deferred none)) e fun ae=>K ae (i.putObj d.heap.size (.deferred none)))
 []):=okF iF Tryz.func170 (.seq .leaf (.seq .leaf (.seq (.seq .leaf (.blk (.rng [.agg Nw] .leaf .leaf))) .leaf))) (by kernel_rfl)
theorem wR {a0 a1 w K}:fF (iO a0 a1 w K)
 (gY (Value.slice a0.a a0.len a0.cap)=true/\
 Al w (.cells ⟨[(Value.slice a0.a a0.len a0.cap)]⟩ 29) fun b c=>gY a1=true/\
 Al c (.cells ⟨[a1]⟩ 285) fun d e=>K (Value.func (.func 248) #[] #[(Value.pointer (some b)),(Value.pointer (some d))]) e):=okF iF Tryz.func171 .leaf (by kernel_rfl)
theorem AV {A0 A1 A2 A3 A4 A5 A6 A7 A8 A9 A10 A11 A12 A13 A14 A15 w K}:fF (uQ A0 A1 A2 A3 A4 A5 A6 A7 A8 A9 A10 A11 A12 A13 A14 A15 w K)
 (Al w (.cells ⟨(iM A0 A1 A2 A3 A4 A5 A6 A7 A8 A9 A10 A11 A12 A13 A14 A15)⟩ 28) fun d e=>Al e (.cells ⟨(iM 0 0 0 0 0 0 0 0 0 0 0 0 0 0 0 0)⟩ 28) fun a b=>nY b d fun f g h i j k l m n o p q r s t u=>lS (iM f g h i j k l m n o p q r s t u) b a 0 fun c=>nY c a fun v x y z A B C D E F G H I J L M=>K v x y z A B C D E F G H I J L M c):=okF iF Tryz.func172 .leaf (by kernel_rfl)
theorem Gg {a0 w K}:fF (mD a0 w K)
 (Al w (.cells ⟨[(Value.bool false)]⟩ 4) fun d h=>Al h (.map #[] 0) fun u k=>Al k (.cells ⟨[(Value.map none)]⟩ 349) fun e l=>St l e (Value.map (some h.heap.size)) fun a=>EC Tryz.prog none [.one (.int .i64)] a0 a (fun b i c j=>c.heap[b]? =c.heap[b]? /\
 Ld .map (fB c b) e fun m=>sH Tryz.prog 3 .bool m (Value.int .i64 i.1) (Value.bool false) (fB c b) fun n=>(bif n then
 St (fB c b) d (Value.bool true) fun o=>j .ret o
 else
 Ld .map (fB c b) e fun p=>wJ Tryz.prog 3 p (Value.int .i64 i.1) (Value.bool true) (fB c b) fun q=>j .normal q))
 (fun r=>St r d (Value.bool false) fun f=>f.heap[a.heap.size]? =some (.deferred (some []))/\
 Ld .bool (f.putObj a.heap.size (.deferred none)) d fun s=>K s (f.putObj a.heap.size (.deferred none)))
 (fun g=>g.heap[a.heap.size]? =some (.deferred (some []))/\
 Ld .bool (g.putObj a.heap.size (.deferred none)) d fun t=>K t (g.putObj a.heap.size (.deferred none)))
 []):=okF iF Tryz.func173 (.seq .leaf (.seq .leaf (.seq (.seq .leaf (.blk (.rng [.one (.int .i64)] .leaf .leaf))) .leaf))) (by kernel_rfl)
theorem Cm {a0 a1 w K}:fF (jW a0 a1 w K)
 (gY (Value.slice a0.a a0.len a0.cap)=true/\
 Al w (.cells ⟨[(Value.slice a0.a a0.len a0.cap)]⟩ 30) fun b c=>gY a1=true/\
 Al c (.cells ⟨[a1]⟩ 43) fun d e=>K (Value.func (.func 249) #[] #[(Value.pointer (some b)),(Value.pointer (some d))]) e):=okF iF Tryz.func174 .leaf (by kernel_rfl)
theorem Em {a0 w K}:fF (GK a0 w K)
 (K a0 w):=okF iF Tryz.func175 .leaf (by kernel_rfl)
theorem Ad {a0 w K}:fF (jo a0 w K)
 (Al w (.cells ⟨[(Value.bool false)]⟩ 4) fun e j=>Al j (.map #[] 0) fun G m=>Al m (.cells ⟨[(Value.map none)]⟩ 350) fun g n=>St n g (Value.map (some j.heap.size)) fun d=>EC Tryz.prog none [.agg [(.int .i64),(.int .i64),(.int .i64),(.int .i64)]] a0 d (fun a f k l=>Al k (.cells ⟨[(Value.int .i64 0),(Value.int .i64 0),(Value.int .i64 0),(Value.int .i64 0)]⟩ 78) fun c o=>lS [(Value.int .i64 f.1.1),(Value.int .i64 f.1.2.1),(Value.int .i64 f.1.2.2.1),(Value.int .i64 f.1.2.2.2.1)] o c 0 fun b=>b.heap[a]? =k.heap[a]? /\
 Ld .map (fB b a) g fun p=>Ld (.int .i64) (fB b a) (c.add 0) fun q=>Ld (.int .i64) (fB b a) (c.add 1) fun r=>Ld (.int .i64) (fB b a) (c.add 2) fun s=>Ld (.int .i64) (fB b a) (c.add 3) fun t=>sH Tryz.prog 78 .bool p (Value.agg ⟨[(Value.int .i64 q),(Value.int .i64 r),(Value.int .i64 s),(Value.int .i64 t)]⟩) (Value.bool false) (fB b a) fun u=>(bif u then
 St (fB b a) e (Value.bool true) fun v=>l .ret v
 else
 Ld .map (fB b a) g fun x=>Ld (.int .i64) (fB b a) (c.add 0) fun y=>Ld (.int .i64) (fB b a) (c.add 1) fun z=>Ld (.int .i64) (fB b a) (c.add 2) fun A=>Ld (.int .i64) (fB b a) (c.add 3) fun B=>wJ Tryz.prog 78 x (Value.agg ⟨[(Value.int .i64 y),(Value.int .i64 z),(Value.int .i64 A),(Value.int .i64 B)]⟩) (Value.bool true) (fB b a) fun C=>l .normal C))
 (fun D=>St D e (Value.bool false) fun h=>h.heap[d.heap.size]? =some (.deferred (some []))/\
 Ld .bool (h.putObj d.heap.size (.deferred none)) e fun E=>K E (h.putObj d.heap.size (.deferred none)))
 (fun i=>i.heap[d.heap.size]? =some (.deferred (some []))/\
 Ld .bool (i.putObj d.heap.size (.deferred none)) e fun F=>K F (i.putObj d.heap.size (.deferred none)))
 []):=okF iF Tryz.func176 (.seq .leaf (.seq .leaf (.seq (.seq .leaf (.blk (.rng [.agg [(.int .i64),(.int .i64),(.int .i64),(.int .i64)]] .leaf .leaf))) .leaf))) (by kernel_rfl)
theorem uj {a0 a1 w K}:fF (iC a0 a1 w K)
 (gY (Value.slice a0.a a0.len a0.cap)=true/\
 Al w (.cells ⟨[(Value.slice a0.a a0.len a0.cap)]⟩ 31) fun b c=>gY a1=true/\
 Al c (.cells ⟨[a1]⟩ 279) fun d e=>K (Value.func (.func 250) #[] #[(Value.pointer (some b)),(Value.pointer (some d))]) e):=okF iF Tryz.func177 .leaf (by kernel_rfl)
theorem zT {a0 w K}:fF (jq a0 w K)
 (Al w (.cells ⟨[(Value.bool false)]⟩ 4) fun e j=>Al j (.map #[] 0) fun E m=>Al m (.cells ⟨[(Value.map none)]⟩ 192) fun f n=>St n f (Value.map (some j.heap.size)) fun c=>EC Tryz.prog none [.agg [(.int .i64),(.int .i64),(.int .i64)]] a0 c (fun a g k l=>Al k (.cells ⟨[(Value.int .i64 0),(Value.int .i64 0),(Value.int .i64 0)]⟩ 80) fun d o=>lS [(Value.int .i64 g.1.1),(Value.int .i64 g.1.2.1),(Value.int .i64 g.1.2.2.1)] o d 0 fun b=>b.heap[a]? =k.heap[a]? /\
 Ld .map (fB b a) f fun p=>Ld (.int .i64) (fB b a) (d.add 0) fun q=>Ld (.int .i64) (fB b a) (d.add 1) fun r=>Ld (.int .i64) (fB b a) (d.add 2) fun s=>sH Tryz.prog 80 .bool p (Value.agg ⟨[(Value.int .i64 q),(Value.int .i64 r),(Value.int .i64 s)]⟩) (Value.bool false) (fB b a) fun t=>(bif t then
 St (fB b a) e (Value.bool true) fun u=>l .ret u
 else
 Ld .map (fB b a) f fun v=>Ld (.int .i64) (fB b a) (d.add 0) fun x=>Ld (.int .i64) (fB b a) (d.add 1) fun y=>Ld (.int .i64) (fB b a) (d.add 2) fun z=>wJ Tryz.prog 80 v (Value.agg ⟨[(Value.int .i64 x),(Value.int .i64 y),(Value.int .i64 z)]⟩) (Value.bool true) (fB b a) fun A=>l .normal A))
 (fun B=>St B e (Value.bool false) fun h=>h.heap[c.heap.size]? =some (.deferred (some []))/\
 Ld .bool (h.putObj c.heap.size (.deferred none)) e fun C=>K C (h.putObj c.heap.size (.deferred none)))
 (fun i=>i.heap[c.heap.size]? =some (.deferred (some []))/\
 Ld .bool (i.putObj c.heap.size (.deferred none)) e fun D=>K D (i.putObj c.heap.size (.deferred none)))
 []):=okF iF Tryz.func178 (.seq .leaf (.seq .leaf (.seq (.seq .leaf (.blk (.rng [.agg [(.int .i64),(.int .i64),(.int .i64)]] .leaf .leaf))) .leaf))) (by kernel_rfl)
theorem tX {a0 a1 w K}:fF (iy a0 a1 w K)
 (gY (Value.slice a0.a a0.len a0.cap)=true/\
 Al w (.cells ⟨[(Value.slice a0.a a0.len a0.cap)]⟩ 31) fun b c=>gY a1=true/\
 Al c (.cells ⟨[a1]⟩ 280) fun d e=>K (Value.func (.func 251) #[] #[(Value.pointer (some b)),(Value.pointer (some d))]) e):=okF iF Tryz.func179 .leaf (by kernel_rfl)
theorem GV {a0 f0 w K}:fF (Ig a0 f0 w K)
 (Ld (.int .i64) w (f0.add 20) fun a=>K (decide (a0>a)) w):=okF iF Tryz.func180 .leaf (by kernel_rfl)
theorem Qd {a0 w K}:fF (rD a0 w K)
 (let a:Bool->Prop:=fun b=>(K b w)
 (bif (decide (a0>=0)) then
 a (decide (a0<4294967296))
 else
 a false)):=okF iF Tryz.func181 .leaf (by kernel_rfl)
theorem Lj {a0 a1 w K}:fF (CJ a0 a1 w K)
 (iw (S:=Int×Unit) (fun b a g=>(bif (decide (b.1<(a1.len:Int))) then
 g_ a1 2 b.1 fun e=>Ld (.int .i64) a (e.add 0) fun h=>Ld (.int .i64) a (e.add 1) fun i=>Al a (.cells ⟨[(Value.int .i64 0),(Value.int .i64 0)]⟩ 300) fun c j=>lS [(Value.int .i64 h),(Value.int .i64 i)] j c 0 fun d=>Ld (.int .i64) d (c.add 0) fun k=>Ld (.int .i64) d (c.add 1) fun l=>oC k l a0 d fun m f=>(bif m then
 K true f
 else
 g ((IntKind.i64.wrap (b.1+1)),()) f)
 else
 K false a)) (0,()) w):=okF iF Tryz.func182 (.seq .leaf (.seq (.seq .leaf (.blk (.loop [(9,(.int .i64))] .leaf))) .leaf)) (by kernel_rfl)
theorem BJ {a0 a1 w K}:fF (jP a0 a1 w K)
 (iw (S:=Int×Unit) (fun a b c=>(bif (decide (a.1<(a0.len:Int))) then
 g_ a0 1 a.1 fun d=>Ld (.int .i64) b d fun e=>(bif (a1==e) then
 K a.1 b
 else
 c ((IntKind.i64.wrap (a.1+1)),()) b)
 else
 K (-1) b)) (0,()) w):=okF iF Tryz.func183 (.seq .leaf (.seq (.seq .leaf (.blk (.loop [(8,(.int .i64))] .leaf))) .leaf)) (by kernel_rfl)
theorem KT {a0 a1 w K}:fF (mQ a0 a1 w K)
 (let b:Bool->World->Prop:=fun c d=>(K c d)
 jO a0 w fun e a=>(bif e then
 Pt a0 fun f=>Ld .slice a (f.add 2) fun g=>gZ g a1 a fun h i=>b h i
 else
 b false a)):=okF iF Tryz.func184 .leaf (by kernel_rfl)
theorem Ti {a0 w K}:fF (uS a0 w K)
 (let a:Bool->Prop:=fun b=>(K b w)
 (bif (decide (a0>=0)) then
 a (decide (a0<=65535))
 else
 a false)):=okF iF Tryz.func185 .leaf (by kernel_rfl)
theorem BN {a0 a1 w K}:fF (jJ a0 a1 w K)
 (let a:Bool->Prop:=fun b=>(K b w)
 (bif (decide (a1>=0)) then
 Pt a0 fun c=>Ld .slice w ((c.add 5).add 16) fun d=>a (decide (a1<(d.len:Int)))
 else
 a false)):=okF iF Tryz.func186 .leaf (by kernel_rfl)
theorem IX {a0 a1 w K}:fF (lG a0 a1 w K)
 (jD a0 w fun c b=>(bif (!c) then
 K 0 false b
 else
 ig a0 a1 b fun d e a=>(bif (!e) then
 K 0 false a
 else
 Pt a0 fun f=>Ld .slice a f fun g=>g_ g 3 d fun h=>Ld (.int .i64) a (h.add 1) fun i=>K i true a))):=okF iF Tryz.func187 .leaf (by kernel_rfl)
theorem KI {A0 A1 A2 A3 w K}:fF (kQ A0 A1 A2 A3 w K)
 (Al w (.cells ⟨[(Value.int .i64 A0),(Value.int .i64 A1),(Value.int .i64 A2),(Value.int .i64 A3)]⟩ 78) fun b a=>Ld (.int .i64) a b fun c=>Ld (.int .i64) a (b.add 1) fun d=>Ld (.int .i64) a (b.add 2) fun e=>Ld (.int .i64) a (b.add 3) fun f=>Al a (.cells ⟨[(Value.int .i64 c),(Value.int .i64 d),(Value.int .i64 e),(Value.int .i64 f)]⟩ 3) fun g h=>wY ⟨(some g),4,4⟩ h fun i j=>K i j):=okF iF Tryz.func188 .leaf (by kernel_rfl)
theorem K_ {A0 A1 A2 w K}:fF (kR A0 A1 A2 w K)
 (Al w (.cells ⟨[(Value.int .i64 A0),(Value.int .i64 A1),(Value.int .i64 A2)]⟩ 80) fun b a=>Ld (.int .i64) a b fun c=>Ld (.int .i64) a (b.add 1) fun d=>Ld (.int .i64) a (b.add 2) fun e=>Al a (.cells ⟨[(Value.int .i64 c),(Value.int .i64 d),(Value.int .i64 e)]⟩ 3) fun f g=>wY ⟨(some f),3,3⟩ g fun h i=>K h i):=okF iF Tryz.func189 .leaf (by kernel_rfl)
theorem Jh {a0 a1 w K}:fF (jY a0 a1 w K)
 (let b:Bool->Prop:=fun d=>((bif d then
 K none 2 w
 else
 let c:Bool->Prop:=fun e=>((bif e then
 K none 1 w
 else
 Pt a0 fun f=>Ld .slice w f fun g=>g_ g 2 a1 fun h=>K (some h) 0 w))
 (bif (decide (a1<0)) then
 c true
 else
 Pt a0 fun i=>Ld .slice w i fun j=>c (decide (a1>=(j.len:Int))))))
 (bif (Option.isNone a0) then
 b true
 else
 Pt a0 fun k=>Ld .slice w k fun l=>b (Option.isNone l.a))):=okF iF Tryz.func190 .leaf (by kernel_rfl)
theorem Np {a0 w K}:fF (t_ a0 w K)
 (jd a0 w fun b a=>(bif (!b) then
 K 0 a
 else
 Pt a0 fun c=>Ld (.int .i64) a (c.add 3) fun d=>K d a)):=okF iF Tryz.func191 .leaf (by kernel_rfl)
theorem Gw {A0 A1 w K}:fF (lX A0 A1 w K)
 (Al w (.cells ⟨[(Value.int .i64 A0),(Value.int .i64 A1)]⟩ 199) fun b a=>Ld (.int .i64) a b fun c=>Ld (.int .i64) a (b.add 1) fun d=>K (decide (c>=d)) a):=okF iF Tryz.func192 .leaf (by kernel_rfl)
theorem Hr {a0 w K}:fF (jO a0 w K)
 (let a:Bool->Prop:=fun b=>(K b w)
 (bif (!(Option.isNone a0)) then
 Pt a0 fun c=>Ld .map w (c.add 3) fun d=>a (!(Option.isNone d))
 else
 a false)):=okF iF Tryz.func193 .leaf (by kernel_rfl)
theorem P9 {a0 w K}:fF (vH a0 w K)
 (let a:Bool->Prop:=fun b=>((bif b then
 K true w
 else
 K false w))
 (bif (a0==1) then
 a (a0==1)
 else
 (bif (a0==6) then
 a (a0==6)
 else
 a (a0==17)))):=okF iF Tryz.func194 .leaf (by kernel_rfl)
theorem Me {a0 w K}:fF (qR a0 w K)
 (Pt a0 fun c=>Ld .slice w c fun d=>iw (S:=Int×Unit) (fun b a e=>(bif (decide (b.1<(d.len:Int))) then
 Pt a0 fun f=>Ld .slice a f fun g=>g_ g 9 b.1 fun h=>Ld .bool a (h.add 8) fun i=>(bif (!i) then
 K b.1 true a
 else
 e ((IntKind.i64.wrap (b.1+1)),()) a)
 else
 K 0 false a)) (0,()) w):=okF iF Tryz.func195 (.seq .leaf (.seq (.seq .leaf (.blk (.loop [(10,(.int .i64))] .leaf))) .leaf)) (by kernel_rfl)
theorem JB {a0 a1 a2 w K}:fF (lD a0 a1 a2 w K)
 (jD a0 w fun e b=>(bif (!e) then
 K 2 b
 else
 ig a0 a1 b fun f g a=>(bif g then
 Pt a0 fun h=>Ld .slice a h fun i=>g_ i 3 f fun j=>St a (j.add 1) (Value.int .i64 a2) fun k=>K 0 k
 else
 Pt a0 fun l=>Ld (.int .i64) a.drew (l.add 1) fun m=>Pt a0 fun n=>Ld (.int .i64) a.drew (n.add 2) fun o=>(bif (decide (m>=o)) then
 K 7 a.drew
 else
 nC a0 a.drew fun p=>ig a0 a1 p fun q z c=>Pt a0 fun r=>Ld .slice c r fun s=>g_ s 3 q fun t=>lS [(Value.string a1),(Value.int .i64 a2),(Value.bool true)] c t 0 fun d=>Pt a0 fun u=>Ld (.int .i64) d (u.add 1) fun v=>Pt a0 fun x=>St d (x.add 1) (Value.int .i64 (IntKind.i64.wrap (v+1))) fun y=>K 0 y)))):=okF iF Tryz.func196 .leaf (by kernel_rfl)
theorem pz {a0 a1 w K}:fF (gK a0 a1 w K)
 (Al w (.cells ⟨[(Value.int .i64 0),(Value.int .i64 0),(Value.int .i64 0)]⟩ 237) fun d e=>(bif (decide ((a0.len:Int)<1)) then
 False
 else
 g_ a0 3 0 fun h=>Ld (.int .i64) e (h.add 0) fun m=>Ld (.int .i64) e (h.add 1) fun n=>Ld (.int .i64) e (h.add 2) fun o=>Al e (.cells ⟨[(Value.int .i64 0),(Value.int .i64 0),(Value.int .i64 0)]⟩ 237) fun b p=>lS [(Value.int .i64 m),(Value.int .i64 n),(Value.int .i64 o)] p b 0 fun q=>iw (S:=Int×Unit) (fun f a r=>(bif (decide (f.1<(a0.len:Int))) then
 let k:World->Prop:=fun s=>(r ((IntKind.i64.wrap (f.1+1)),()) s)
 g_ a0 3 f.1 fun i=>Ld (.int .i64) a.drew (i.add 0) fun t=>Ld (.int .i64) a.drew (i.add 1) fun u=>Ld (.int .i64) a.drew (i.add 2) fun v=>Ld (.int .i64) a.drew (b.add 0) fun x=>Ld (.int .i64) a.drew (b.add 1) fun y=>Ld (.int .i64) a.drew (b.add 2) fun z=>jI Tryz.prog [.one (.int .i64)] a1 [(Value.agg ⟨[(Value.int .i64 t),(Value.int .i64 u),(Value.int .i64 v)]⟩),(Value.agg ⟨[(Value.int .i64 x),(Value.int .i64 y),(Value.int .i64 z)]⟩)] a.drew fun A c=>∃l:Int,A=(Value.int .i64 l)/\
 (bif (decide (l<0)) then
 g_ a0 3 f.1 fun j=>Ld (.int .i64) c (j.add 0) fun B=>Ld (.int .i64) c (j.add 1) fun C=>Ld (.int .i64) c (j.add 2) fun D=>lS [(Value.int .i64 B),(Value.int .i64 C),(Value.int .i64 D)] c b 0 fun E=>k E
 else
 k c)
 else
 Ld (.int .i64) a (b.add 0) fun F=>Ld (.int .i64) a (b.add 1) fun G=>Ld (.int .i64) a (b.add 2) fun H=>lS [(Value.int .i64 F),(Value.int .i64 G),(Value.int .i64 H)] a d 0 fun g=>Ld (.int .i64) g (d.add 0) fun I=>Ld (.int .i64) g (d.add 1) fun J=>Ld (.int .i64) g (d.add 2) fun L=>K I J L g)) (1,()) q)):=okF iF Tryz.func197 (.seq .leaf (.seq .leaf (.seq .leaf (.seq (.seq .leaf (.blk (.loop [(6,(.int .i64))] .leaf))) .leaf)))) (by kernel_rfl)
theorem DK {A0 A1 A2 B0 B1 B2 w K}:fF (yg A0 A1 A2 B0 B1 B2 w K)
 (Al w (.cells ⟨[(Value.int .i64 A0),(Value.int .i64 A1),(Value.int .i64 A2)]⟩ 237) fun b c=>Al c (.cells ⟨[(Value.int .i64 B0),(Value.int .i64 B1),(Value.int .i64 B2)]⟩ 237) fun d a=>Ld (.int .i64) a (b.add 1) fun e=>Ld (.int .i64) a (d.add 1) fun f=>kN e f a fun g h=>K g h):=okF iF Tryz.func198 .leaf (by kernel_rfl)
theorem O7 {a0 a1 w K}:fF (pW a0 a1 w K)
 (iw (S:=Int×Int×Unit) (fun a b c=>(bif (decide (a.2.1>=64)) then
 0<=(6:Int)/\
 c ((IntKind.i64.wrap (a.1+1)),(jU .i64 a.2.1 6),()) b
 else
 K a.1 b)) (0,(WA .i64 a0 a1),()) w):=okF iF Tryz.func199 (.seq .leaf (.seq .leaf (.seq (.seq .leaf (.blk (.loop [(5,(.int .i64)),(6,(.int .i64))] .leaf))) .leaf))) (by kernel_rfl)
theorem GL {a0 a1 w K}:fF (jE a0 a1 w K)
 (Pt a0 fun b=>Ld (.int .i64) w (b.add 449) fun c=>pW c a1 w fun a d=>0<=(IntKind.i64.wrap (6 * a))/\
 Pt a0 fun e=>(0:Int)<=a/\a<(7:Int)/\
 (0:Int)<=(wG .i64 (jU .i64 a1 (IntKind.i64.wrap (6 * a))) 63)/\(wG .i64 (jU .i64 a1 (IntKind.i64.wrap (6 * a))) 63)<(64:Int)/\
 K (some ((e.add (Int.toNat a * 64)).add (Int.toNat (wG .i64 (jU .i64 a1 (IntKind.i64.wrap (6 * a))) 63) * 1))) d.drew):=okF iF Tryz.func200 .leaf (by kernel_rfl)
theorem nR {a0 a1 w K}:fF (fJ a0 a1 w K)
 (gq a0 a1 w fun f h=>(bif (f==(-1)) then
 K a0 h
 else
 iw (S:=Int×Int×Unit) (fun a c k=>(bif (decide (a.2.1<(a0.len:Int))) then
 let i:Int->World->Prop:=fun l m=>(k (l,(IntKind.i64.wrap (a.2.1+1)),()) m)
 g_ a0 3 a.2.1 fun g=>Ld (.int .i64) c (g.add 0) fun n=>Ld (.int .i64) c (g.add 1) fun o=>Ld (.int .i64) c (g.add 2) fun p=>Al c (.cells ⟨[(Value.int .i64 0),(Value.int .i64 0),(Value.int .i64 0)]⟩ 237) fun b q=>lS [(Value.int .i64 n),(Value.int .i64 o),(Value.int .i64 p)] q b 0 fun e=>Ld (.int .i64) e (b.add 0) fun r=>Ld (.int .i64) e (b.add 1) fun s=>Ld (.int .i64) e (b.add 2) fun t=>jI Tryz.prog [.one .bool] a1 [(Value.agg ⟨[(Value.int .i64 r),(Value.int .i64 s),(Value.int .i64 t)]⟩)] e fun u d=>∃j:Bool,u=(Value.bool j)/\
 (bif (!j) then
 Ld (.int .i64) d (b.add 0) fun v=>Ld (.int .i64) d (b.add 1) fun x=>Ld (.int .i64) d (b.add 2) fun y=>g_ a0 3 a.1 fun z=>lS [(Value.int .i64 v),(Value.int .i64 x),(Value.int .i64 y)] d z 0 fun A=>i (IntKind.i64.wrap (a.1+1)) A
 else
 i a.1 d)
 else
 EG a0 3 a.1 (a0.len:Int) fun B=>Nk [(Value.int .i64 0),(Value.int .i64 0),(Value.int .i64 0)] B c fun C=>EG a0 3 0 a.1 fun D=>K D C)) (f,(IntKind.i64.wrap (f+1)),()) h)):=okF iF Tryz.func201 (.seq .leaf (.seq .leaf (.seq .leaf (.seq (.seq .leaf (.blk (.loop [(5,(.int .i64)),(6,(.int .i64))] .leaf))) .leaf)))) (by kernel_rfl)
theorem qx {a0 w K}:fF (gV a0 w K)
 ((bif (Option.isNone a0.a) then
 K ⟨none,0,0⟩ w
 else
 Al w (.cells ⟨[]⟩ 237) fun b c=>rY 237 3 24 [(Value.int .i64 0),(Value.int .i64 0),(Value.int .i64 0)] ⟨(some b),0,0⟩ a0 c fun d e=>K d e)):=okF iF Tryz.func202 .leaf (by kernel_rfl)
theorem Eh {A0 A1 A2 f0 w K}:fF (yA A0 A1 A2 f0 w K)
 (Al w (.cells ⟨[(Value.int .i64 A0),(Value.int .i64 A1),(Value.int .i64 A2)]⟩ 237) fun b a=>Ld (.int .i64) a.drew (b.add 1) fun c=>Ld .ptr a.drew f0 fun d=>Pt d fun e=>Ld (.int .i64) a.drew (e.add 449) fun f=>K (c !=f) a.drew):=okF iF Tryz.func203 .leaf (by kernel_rfl)
theorem Ei {A0 A1 A2 f0 w K}:fF (yC A0 A1 A2 f0 w K)
 (Al w (.cells ⟨[(Value.int .i64 A0),(Value.int .i64 A1),(Value.int .i64 A2)]⟩ 237) fun b a=>Ld (.int .i64) a.drew (b.add 1) fun c=>Ld .ptr a.drew f0 fun d=>Pt d fun e=>Ld (.int .i64) a.drew (e.add 449) fun f=>K (c==f) a.drew):=okF iF Tryz.func204 .leaf (by kernel_rfl)
theorem oQ {a0 a1 w K}:fF (fQ a0 a1 w K)
 (kP (IntKind.u64.wrap (a0.len:Int)) w fun a b=>fV a0 0 (a0.len:Int) a a1 b fun c=>K c):=okF iF Tryz.func205 .leaf (by kernel_rfl)
theorem Ey {A0 A1 A2 B0 B1 B2 w K}:fF (r_ A0 A1 A2 B0 B1 B2 w K)
 (Al w (.cells ⟨[(Value.int .i64 A0),(Value.int .i64 A1),(Value.int .i64 A2)]⟩ 237) fun b c=>Al c (.cells ⟨[(Value.int .i64 B0),(Value.int .i64 B1),(Value.int .i64 B2)]⟩ 237) fun d a=>Ld (.int .i64) a (b.add 2) fun e=>Ld (.int .i64) a (d.add 2) fun f=>kN e f a fun g h=>K g h):=okF iF Tryz.func206 .leaf (by kernel_rfl)
theorem zZ {a0 w K}:fF (jv a0 w K)
 ((bif (Option.isNone a0.a) then
 K ⟨none,0,0⟩ w
 else
 Al w (.cells ⟨[]⟩ 5) fun b c=>rY 5 1 1 [(Value.int .u8 0)] ⟨(some b),0,0⟩ a0 c fun d e=>K d e)):=okF iF Tryz.func207 .leaf (by kernel_rfl)
theorem Wq {a0 a1 w K}:fF (yT a0 a1 w K)
 (let a:Bool->World->Prop:=fun c d=>(K c d)
 wP a1 w fun e b=>(bif e then
 (bif (decide (a0>=0)) then
 0<=(IntKind.i64.wrap (8 * a1))/\
 a ((jU .i64 a0 (IntKind.i64.wrap (8 * a1)))==0) b
 else
 a false b)
 else
 a false b)):=okF iF Tryz.func208 .leaf (by kernel_rfl)
theorem xZ {a0 a1 w K}:fF (iQ a0 a1 w K)
 (gY (Value.slice a0.a a0.len a0.cap)=true/\
 Al w (.cells ⟨[(Value.slice a0.a a0.len a0.cap)]⟩ 39) fun e b=>EC Tryz.prog none [.one (.int .u8)] a1 b (fun c i d j=>d.heap[c]? =d.heap[c]? /\
 Ld .slice (fB d c) e fun k=>Al (fB d c) (.cells ⟨[(Value.int .u8 i.1)]⟩ 5) fun l m=>rY 5 1 1 [(Value.int .u8 0)] k ⟨(some l),1,1⟩ m fun f n=>St n e (Value.slice f.a f.len f.cap) fun o=>j .normal o)
 (fun g=>Ld .slice g e fun p=>g.heap[b.heap.size]? =some (.deferred (some []))/\
 K p (g.putObj b.heap.size (.deferred none)))
 (fun h=>h.heap[b.heap.size]? =some (.deferred (some []))/\
 K ⟨none,0,0⟩ (h.putObj b.heap.size (.deferred none)))
 []):=okF iF Tryz.func209 (.seq .leaf (.seq (.seq .leaf (.blk (.rng [.one (.int .u8)] .leaf .leaf))) .leaf)) (by kernel_rfl)
theorem Rj {a0 a1 w K}:fF (xX a0 a1 w K)
 (gY (Value.int .i64 a0)=true/\
 Al w (.cells ⟨[(Value.int .i64 a0)]⟩ 3) fun a b=>gY (Value.int .i64 a1)=true/\
 Al b (.cells ⟨[(Value.int .i64 a1)]⟩ 3) fun c d=>K (Value.func (.func 257) #[] #[(Value.pointer (some c)),(Value.pointer (some a))]) d):=okF iF Tryz.func210 .leaf (by kernel_rfl)
theorem GY {a0 a1 a2 w K}:fF (jX a0 a1 a2 w K)
 (Pt a0 fun c=>Ld (.int .i64) w (c.add 4) fun d=>Pt a1 fun e=>St w (e.add 7) (Value.int .i64 (IntKind.i64.wrap (d+a2))) fun a=>Pt a0 fun f=>Ld .ptr a.drew (f.add 1) fun g=>Pt a1 fun h=>Ld (.int .i64) a.drew (h.add 8) fun i=>Pt a1 fun j=>Ld (.int .i64) a.drew (j.add 7) fun b=>kK g i (if (1099511627776:Int)<b then 1099511627776 else b) a.drew fun l k=>K k):=okF iF Tryz.func211 .leaf (by kernel_rfl)
theorem O4 {a0 w K}:fF (uD a0 w K)
 ((bif (a0==0) then
 K 0 w
 else
 (bif (a0==10) then
 K 8 w
 else
 (bif (a0==7) then
 K 4 w
 else
 (bif (a0==9) then
 K 11 w
 else
 K 3 w))))):=okF iF Tryz.func212 .leaf (by kernel_rfl)
theorem o8 {a0 a1 w K}:fF (gB a0 a1 w K)
 (gU a0 a1 w fun a b=>K (decide (a>=0)) b):=okF iF Tryz.func213 .leaf (by kernel_rfl)
theorem Tt {A0 A1 w K}:fF (Ux A0 A1 w K)
 (Al w (.cells ⟨[(Value.int .i64 A0),(Value.int .i64 A1)]⟩ 233) fun b a=>Ld (.int .i64) a b fun c=>Ld (.int .i64) a (b.add 1) fun d=>yT c d a fun e f=>K (!e) f):=okF iF Tryz.func214 .leaf (by kernel_rfl)
theorem DI {A0 A1 A2 f0 w K}:fF (xH A0 A1 A2 f0 w K)
 (Al w (.cells ⟨[(Value.int .i64 A0),(Value.int .i64 A1),(Value.int .i64 A2)]⟩ 237) fun b a=>Ld (.int .i64) a b fun c=>Ld (.int .i64) a f0 fun d=>K (c==d) a):=okF iF Tryz.func215 .leaf (by kernel_rfl)
theorem zY {a0 a1 w K}:fF (jr a0 a1 w K)
 ((bif ((a0.len:Int) !=(a1.len:Int)) then
 K false w
 else
 iw (S:=Int×Unit) (fun b a c=>(bif (decide (b.1<(a0.len:Int))) then
 g_ a0 1 b.1 fun d=>Ld (.int .u8) a.drew d fun e=>g_ a1 1 b.1 fun f=>Ld (.int .u8) a.drew f fun g=>(bif (e !=g) then
 K false a.drew
 else
 c ((IntKind.i64.wrap (b.1+1)),()) a.drew)
 else
 K true a)) (0,()) w)):=okF iF Tryz.func216 (.seq .leaf (.seq .leaf (.seq (.seq .leaf (.blk (.loop [(13,(.int .i64))] .leaf))) .leaf))) (by kernel_rfl)
theorem Ua {a0 w K}:fF (wP a0 w K)
 (let a:Bool->Prop:=fun b=>(K b w)
 (bif (decide (a0>=1)) then
 a (decide (a0<=4))
 else
 a false)):=okF iF Tryz.func217 .leaf (by kernel_rfl)
theorem UK {a0 a1 a2 w K}:fF (gG a0 a1 a2 w K)
 (let a:Bool->Prop:=fun b=>(K b w)
 (bif (decide (a0>=a1)) then
 a (decide (a0<=a2))
 else
 a false)):=okF iF Tryz.func218 .leaf (by kernel_rfl)
theorem PU {A0 A1 A2 A3 A4 A5 A6 A7 A8 A9 A10 A11 A12 A13 A14 A15 w K}:fF (rH A0 A1 A2 A3 A4 A5 A6 A7 A8 A9 A10 A11 A12 A13 A14 A15 w K)
 (Al w (.cells ⟨(iM A0 A1 A2 A3 A4 A5 A6 A7 A8 A9 A10 A11 A12 A13 A14 A15)⟩ 28) fun b a=>let c:Bool->Prop:=fun d=>(K d a)
 nY a b fun e f g h i j k l m n o p q r s t=>(bif (!((e==0) && ((f==0) && ((g==0) && ((h==0) && ((i==0) && ((j==0) && ((k==0) && ((l==0) && ((m==0) && ((n==0) && ((o==0) && ((p==0) && ((q==0) && ((r==0) && ((s==0) && ((t==0) && true))))))))))))))))) then
 (0:Int)<=0/\0<(16:Int)/\
 Ld (.int .u8) a (b.add (Int.toNat 0 * 1)) fun u=>c (u !=255)
 else
 c false)):=okF iF Tryz.func219 .leaf (by kernel_rfl)
theorem Mc {A0 A1 A2 A3 A4 A5 A6 A7 A8 A9 A10 A11 A12 A13 A14 A15 A16 A17 A18 A19 A20 A21 A22 A23 A24 A25 A26 A27 A28 A29 A30 A31 A32 A33 A34 A35 B0 B1 B2 B3 B4 B5 B6 w K}:fF (qU A0 A1 A2 A3 A4 A5 A6 A7 A8 A9 A10 A11 A12 A13 A14 A15 A16 A17 A18 A19 A20 A21 A22 A23 A24 A25 A26 A27 A28 A29 A30 A31 A32 A33 A34 A35 B0 B1 B2 B3 B4 B5 B6 w K)
 (Al w (.cells ⟨(jh A0 A1 A2 A3 A4 A5 A6 A7 A8 A9 A10 A11 A12 A13 A14 A15 A16 A17 A18 A19 A20 A21 A22 A23 A24 A25 A26 A27 A28 A29 A30 A31 A32 A33 A34 A35)⟩ 33) fun i k=>Al k (.cells ⟨[(Value.int .i64 B0),(Value.int .i64 B1),(Value.int .i64 B2),(Value.int .i64 B3),(Value.int .i64 B4),(Value.int .i64 B5),(Value.int .i64 B6)]⟩ 105) fun a d=>let f:Bool->Prop:=fun l=>(let j:Bool->World->Prop:=fun m b=>(let c:Bool->World->Prop:=fun n o=>(K n o)
 (bif l then
 (bif m then
 Ld (.int .i64) b (a.add 4) fun p=>Ld (.int .i64) b (a.add 1) fun q=>(bif (p==q) then
 Ld (.int .i64) b a fun r=>Ld .slice b (i.add 16) fun s=>gG r 0 (IntKind.i64.wrap ((s.len:Int) - 1)) b fun t g=>(bif t then
 Ld (.int .i64) g (a.add 2) fun u=>rG u g fun v e=>(bif v then
 vF e i fun x y z A B C D E F G H I J L M N O P Q R S T U V W X Y Z aa ab ac ad ae af ag ah=>Ld (.int .i64) e ((a.add 4).add 1) fun ai=>vT x y z A B C D E F G H I J L M N O P Q R S T U V W X Y Z aa ab ac ad ae af ag ah ai e fun aj ak=>c aj ak
 else
 c false e)
 else
 c false g)
 else
 c false b)
 else
 c false b)
 else
 c false b))
 Ld (.int .i64) d (a.add 3) fun al=>gG al 0 65535 d fun am h=>(bif am then
 Ld (.int .i64) h ((a.add 4).add 2) fun an=>gG an 0 65535 h fun ao ap=>j ao ap
 else
 j false h))
 Ld (.int .i64) d (a.add 1) fun aq=>(bif (aq==1) then
 f true
 else
 Ld (.int .i64) d (a.add 1) fun ar=>(bif (ar==6) then
 f true
 else
 Ld (.int .i64) d (a.add 1) fun au=>f (au==17)))):=okF iF Tryz.func220 .leaf (by kernel_rfl)
theorem pF {a0 a1 a2 a3 w K}:fF (gJ a0 a1 a2 a3 w K)
 (iw (S:=Int×Unit) (fun d e h=>(bif (decide (d.1<a2)) then
 iw (S:=Int×Unit) (fun a b i=>let f:Bool->World->Prop:=fun j c=>((bif j then
 g_ a0 1 (IntKind.i64.wrap (a.1 - 1)) fun k=>Ld .ptr c.drew k fun l=>g_ a0 1 a.1 fun m=>Ld .ptr c.drew m fun n=>g_ a0 1 a.1 fun o=>St c.drew o (Value.pointer l) fun p=>g_ a0 1 (IntKind.i64.wrap (a.1 - 1)) fun q=>St p q (Value.pointer n) fun r=>i ((IntKind.i64.wrap (a.1 - 1)),()) r
 else
 h ((IntKind.i64.wrap (d.1+1)),()) c))
 (bif (decide (a.1>a1)) then
 g_ a0 1 a.1 fun s=>Ld .ptr b.drew s fun t=>g_ a0 1 (IntKind.i64.wrap (a.1 - 1)) fun u=>Ld .ptr b.drew u fun v=>jI Tryz.prog [.one (.int .i64)] a3 [(Value.pointer t),(Value.pointer v)] b.drew fun x y=>∃g:Int,x=(Value.int .i64 g)/\
 f (decide (g<0)) y
 else
 f false b.drew)) (d.1,()) e
 else
 K e)) ((IntKind.i64.wrap (a1+1)),()) w):=okF iF Tryz.func221 (.seq .leaf (.blk (.loop [(8,(.int .i64))] (.seq .leaf (.seq (.blk (.seq .leaf (.blk (.loop [(9,(.int .i64))] .leaf)))) .leaf))))) (by kernel_rfl)
theorem Io {a0 w K}:fF (ng a0 w K)
 (let c:Int->Int->Prop:=fun a d=>(let e:Int->Int->Prop:=fun b f=>(let g:Int->Int->Prop:=fun h i=>(aaG (bs [0,1,2,2,3,3,3,3,4,4,4,4,4,4,4,4,5,5,5,5,5,5,5,5,5,5,5,5,5,5,5,5,6,6,6,6,6,6,6,6,6,6,6,6,6,6,6,6,6,6,6,6,6,6,6,6,6,6,6,6,6,6,6,6,7,7,7,7,7,7,7,7,7,7,7,7,7,7,7,7,7,7,7,7,7,7,7,7,7,7,7,7,7,7,7,7,7,7,7,7,7,7,7,7,7,7,7,7,7,7,7,7,7,7,7,7,7,7,7,7,7,7,7,7,7,7,7,7,8,8,8,8,8,8,8,8,8,8,8,8,8,8,8,8,8,8,8,8,8,8,8,8,8,8,8,8,8,8,8,8,8,8,8,8,8,8,8,8,8,8,8,8,8,8,8,8,8,8,8,8,8,8,8,8,8,8,8,8,8,8,8,8,8,8,8,8,8,8,8,8,8,8,8,8,8,8,8,8,8,8,8,8,8,8,8,8,8,8,8,8,8,8,8,8,8,8,8,8,8,8,8,8,8,8,8,8,8,8,8,8,8,8,8,8,8,8,8,8,8,8,8,8,8,8,8,8]) (IntKind.u8.wrap h) fun j=>K (IntKind.i64.wrap (i+(IntKind.i64.wrap j))) w)
 (bif (decide (b>=256)) then
 0<=(8:Int)/\
 g (jU .u64 b 8) (IntKind.i64.wrap (f+8))
 else
 g b f))
 (bif (decide (a>=65536)) then
 0<=(16:Int)/\
 e (jU .u64 a 16) (IntKind.i64.wrap (d+16))
 else
 e a d))
 (bif (decide (a0>=4294967296)) then
 0<=(32:Int)/\
 c (jU .u64 a0 32) 32
 else
 c a0 0)):=okF iF Tryz.func230 .leaf (by kernel_rfl)
theorem J_ {a0 w K}:fF (mM a0 w K)
 (K (a0 !=a0) w):=okF iF Tryz.func231 .leaf (by kernel_rfl)
theorem FZ {a0 w K}:fF (jD a0 w K)
 (let a:Bool->Prop:=fun b=>(K b w)
 (bif (!(Option.isNone a0)) then
 Pt a0 fun c=>Ld .bool w (c.add 3) fun d=>a d
 else
 a false)):=okF iF Tryz.func239 .leaf (by kernel_rfl)
theorem zM {a0 a1 w K}:fF (ig a0 a1 w K)
 (gY (Value.pointer a0)=true/\
 Al w (.cells ⟨[(Value.pointer a0)]⟩ 200) fun h s=>gY (Value.string a1)=true/\
 Al s (.cells ⟨[(Value.string a1)]⟩ 9) fun p t=>Al t (.cells ⟨[(Value.int .i64 0)]⟩ 3) fun e u=>Al u (.cells ⟨[(Value.bool false)]⟩ 4) fun f b=>Ld .ptr b h fun v=>Pt v fun x=>Ld .slice b x fun y=>(bif ((y.len:Int)==0) then
 St b e (Value.int .i64 0) fun z=>St z f (Value.bool false) fun k=>Ld (.int .i64) k e fun A=>Ld .bool k f fun B=>K A B k
 else
 Ld .ptr b.drew h fun q=>Ld .str b.drew p fun C=>Ld .ptr b.drew h fun D=>Pt D fun E=>Ld .slice b.drew E fun F=>xQ C (F.len:Int) b.drew fun G r=>r.cell? h=some (Value.pointer q)/\
 kM q G r fun H a=>EC Tryz.prog none [.one (.int .i64)] H a (fun c l d m=>d.heap[c]? =d.heap[c]? /\
 Ld .ptr (fB d c) h fun I=>Pt I fun J=>Ld .slice (fB d c) J fun L=>g_ L 3 l.1 fun n=>Ld .str (fB d c) (n.add 0) fun M=>Ld (.int .i64) (fB d c) (n.add 1) fun N=>Ld .bool (fB d c) (n.add 2) fun O=>Al (fB d c) (.cells ⟨[(Value.string (bs [])),(Value.int .i64 0),(Value.bool false)]⟩ 343) fun o P=>lS [(Value.string M),(Value.int .i64 N),(Value.bool O)] P o 0 fun g=>Ld .bool g (o.add 2) fun Q=>(bif (!Q) then
 St g e (Value.int .i64 l.1) fun R=>St R f (Value.bool false) fun S=>m .ret S
 else
 Ld .str g o fun T=>Ld .str g p fun U=>(bif (strEq T U) then
 St g e (Value.int .i64 l.1) fun V=>St V f (Value.bool true) fun W=>m .ret W
 else
 m .normal g)))
 (fun X=>St X e (Value.int .i64 0) fun Y=>St Y f (Value.bool false) fun i=>i.heap[a.heap.size]? =some (.deferred (some []))/\
 Ld (.int .i64) (i.putObj a.heap.size (.deferred none)) e fun Z=>Ld .bool (i.putObj a.heap.size (.deferred none)) f fun aa=>K Z aa (i.putObj a.heap.size (.deferred none)))
 (fun j=>j.heap[a.heap.size]? =some (.deferred (some []))/\
 Ld (.int .i64) (j.putObj a.heap.size (.deferred none)) e fun ab=>Ld .bool (j.putObj a.heap.size (.deferred none)) f fun ac=>K ab ac (j.putObj a.heap.size (.deferred none)))
 [])):=okF iF Tryz.func240 (.seq .leaf (.seq .leaf (.seq (.seq .leaf (.blk (.rng [.one (.int .i64)] .leaf .leaf))) .leaf))) (by kernel_rfl)
theorem H7 {a0 a1 w K}:fF (kM a0 a1 w K)
 (gY (Value.pointer a0)=true/\
 Al w (.cells ⟨[(Value.pointer a0)]⟩ 200) fun a b=>gY (Value.int .i64 a1)=true/\
 Al b (.cells ⟨[(Value.int .i64 a1)]⟩ 3) fun c d=>K (Value.func (.func 267) #[] #[(Value.pointer (some a)),(Value.pointer (some c))]) d):=okF iF Tryz.func241 .leaf (by kernel_rfl)
theorem yG {a0 a1 w K}:fF (iZ a0 a1 w K)
 (iw (S:=Int×Unit) (fun a b e=>(bif (decide (a.1<(a0.len:Int))) then
 g_ a0 1 a.1 fun f=>Ld (.int .i64) b f fun g=>jI Tryz.prog [.one .bool] a1 [(Value.int .i64 g)] b fun h c=>∃d:Bool,h=(Value.bool d)/\
 (bif d then
 K a.1 c
 else
 e ((IntKind.i64.wrap (a.1+1)),()) c)
 else
 K (-1) b)) (0,()) w):=okF iF Tryz.func242 (.seq .leaf (.seq (.seq .leaf (.blk (.loop [(8,(.int .i64))] .leaf))) .leaf)) (by kernel_rfl)
theorem OX {a0 a1 w K}:fF (pU a0 a1 w K)
 (let b:Bool->World->Prop:=fun c d=>(K c d)
 jd a0 w fun e a=>(bif e then
 (bif (decide (a1>=0)) then
 Pt a0 fun f=>Ld .slice a f fun g=>(bif (decide (a1<(g.len:Int))) then
 Pt a0 fun h=>Ld .slice a h fun i=>g_ i 9 a1 fun j=>Ld .bool a (j.add 8) fun k=>b k a
 else
 b false a)
 else
 b false a)
 else
 b false a)):=okF iF Tryz.func243 .leaf (by kernel_rfl)
theorem DL {a0 f0 f1 w K}:fF (EJ a0 f0 f1 w K)
 (Ld .ptr w f0 fun i=>jk i w fun j b=>(bif (!j) then
 K b
 else
 Ld .ptr b.drew f0 fun k=>Pt k fun l=>Ld .map b.drew (l.add 2) fun m=>Ld (.int .i64) b.drew f1 fun n=>sH Tryz.prog 3 .slice m (Value.int .i64 n) (Value.slice none 0 0) b.drew fun o=>jf o b.drew fun e p=>iw (S:=Int×Unit) (fun d a q=>(bif (decide (d.1<(e.len:Int))) then
 g_ e 1 d.1 fun r=>Ld (.int .i64) a r fun f=>Ld .ptr a f0 fun s=>Pt s fun t=>Ld .slice a t fun u=>g_ u 6 f fun c=>Ld (.int .i64) a (c.add 0) fun v=>Ld (.int .i64) a (c.add 1) fun x=>Ld (.int .i64) a (c.add 2) fun y=>Ld (.int .i64) a (c.add 3) fun z=>Ld (.int .i64) a (c.add 4) fun A=>jI Tryz.prog [.one .bool] a0 [(Value.int .i64 f),(Value.agg ⟨[(Value.int .i64 v),(Value.int .i64 x),(Value.int .i64 y),(Value.int .i64 z),(Value.int .i64 A)]⟩)] a fun B g=>∃h:Bool,B=(Value.bool h)/\
 (bif (!h) then
 K g
 else
 q ((IntKind.i64.wrap (d.1+1)),()) g)
 else
 K a)) (0,()) p)):=okF iF Tryz.func244 (.seq .leaf (.seq .leaf (.blk (.loop [(17,(.int .i64))] .leaf)))) (by kernel_rfl)
theorem MQ {a0 w K}:fF (qF a0 w K)
 (Al w (.cells ⟨[(Value.int .i64 1),(Value.int .i64 6),(Value.int .i64 17)]⟩ 3) fun a b=>gZ ⟨(some a),3,3⟩ a0 b fun c d=>K c d):=okF iF Tryz.func245 .leaf (by kernel_rfl)
theorem tV {a0 a1 w K}:fF (iq a0 a1 w K)
 (iw (S:=Int×Unit) (fun a b e=>(bif (decide (a.1<(a0.len:Int))) then
 g_ a0 16 a.1 fun f=>nY b f fun g h i j k l m n o p q r s t u v=>jI Tryz.prog [.one .bool] a1 [(Value.agg ⟨iM g h i j k l m n o p q r s t u v⟩)] b fun x c=>∃d:Bool,x=(Value.bool d)/\
 (bif d then
 K a.1 c
 else
 e ((IntKind.i64.wrap (a.1+1)),()) c)
 else
 K (-1) b)) (0,()) w):=okF iF Tryz.func246 (.seq .leaf (.seq (.seq .leaf (.blk (.loop [(8,(.int .i64))] .leaf))) .leaf)) (by kernel_rfl)
theorem pJ {a0 a1 w K}:fF (gI a0 a1 w K)
 (iw (S:=Int×Unit) (fun c a f=>(bif (decide (c.1<(a0.len:Int))) then
 g_ a0 7 c.1 fun b=>Ld (.int .i64) a (b.add 0) fun g=>Ld (.int .i64) a (b.add 1) fun h=>Ld (.int .i64) a (b.add 2) fun i=>Ld (.int .i64) a (b.add 3) fun j=>Ld (.int .i64) a (b.add 4) fun k=>Ld (.int .i64) a (b.add 5) fun l=>Ld (.int .i64) a (b.add 6) fun m=>jI Tryz.prog [.one .bool] a1 [(Value.agg ⟨[(Value.int .i64 g),(Value.int .i64 h),(Value.int .i64 i),(Value.int .i64 j),(Value.int .i64 k),(Value.int .i64 l),(Value.int .i64 m)]⟩)] a fun n d=>∃e:Bool,n=(Value.bool e)/\
 (bif e then
 K c.1 d
 else
 f ((IntKind.i64.wrap (c.1+1)),()) d)
 else
 K (-1) a)) (0,()) w):=okF iF Tryz.func247 (.seq .leaf (.seq (.seq .leaf (.blk (.loop [(8,(.int .i64))] .leaf))) .leaf)) (by kernel_rfl)
theorem vW {a0 f0 f1 w K}:fF (vZ a0 f0 f1 w K)
 (Ld .slice w f0 fun d=>iw (S:=Int×Unit) (fun a b y=>(bif (decide (a.1<(d.len:Int))) then
 g_ d 16 a.1 fun z=>nY b z fun A B C D E F G H I J L M N O P Q=>Al b (.cells ⟨(iM 0 0 0 0 0 0 0 0 0 0 0 0 0 0 0 0)⟩ 28) fun e R=>lS (iM A B C D E F G H I J L M N O P Q) R e 0 fun c=>Ld .any c f1 fun T=>nY c e fun U V W X Y Z aa ab ac ad ae af ag ah ai aj=>jI Tryz.prog [.agg Nw] T [(Value.agg ⟨iM U V W X Y Z aa ab ac ad ae af ag ah ai aj⟩)] c fun ak al=>∃f:Int,∃g:Int,∃h:Int,∃i:Int,∃j:Int,∃k:Int,∃l:Int,∃m:Int,∃n:Int,∃o:Int,∃p:Int,∃q:Int,∃r:Int,∃s:Int,∃t:Int,∃u:Int,ak=(Value.agg ⟨iM f g h i j k l m n o p q r s t u⟩)/\
 jI Tryz.prog [.one .bool] a0 [(Value.agg ⟨iM f g h i j k l m n o p q r s t u⟩)] al fun am v=>∃x:Bool,am=(Value.bool x)/\
 (bif (!x) then
 K v
 else
 y ((IntKind.i64.wrap (a.1+1)),()) v)
 else
 K b)) (0,()) w):=okF iF Tryz.func248 (.seq .leaf (.blk (.loop [(8,(.int .i64))] .leaf))) (by kernel_rfl)
theorem AO {a0 f0 f1 w K}:fF (Bo a0 f0 f1 w K)
 (Ld .slice w f0 fun c=>iw (S:=Int×Unit) (fun b a g=>(bif (decide (b.1<(c.len:Int))) then
 g_ c 1 b.1 fun h=>Ld (.int .i64) a h fun i=>Ld .any a f1 fun j=>jI Tryz.prog [.one (.int .i64)] j [(Value.int .i64 i)] a fun k l=>∃d:Int,k=(Value.int .i64 d)/\
 jI Tryz.prog [.one .bool] a0 [(Value.int .i64 d)] l fun m e=>∃f:Bool,m=(Value.bool f)/\
 (bif (!f) then
 K e
 else
 g ((IntKind.i64.wrap (b.1+1)),()) e)
 else
 K a)) (0,()) w):=okF iF Tryz.func249 (.seq .leaf (.blk (.loop [(8,(.int .i64))] .leaf))) (by kernel_rfl)
theorem qZ {a0 f0 f1 w K}:fF (sW a0 f0 f1 w K)
 (Ld .slice w f0 fun f=>iw (S:=Int×Unit) (fun e a m=>(bif (decide (e.1<(f.len:Int))) then
 g_ f 7 e.1 fun d=>Ld (.int .i64) a (d.add 0) fun n=>Ld (.int .i64) a (d.add 1) fun o=>Ld (.int .i64) a (d.add 2) fun p=>Ld (.int .i64) a (d.add 3) fun q=>Ld (.int .i64) a (d.add 4) fun r=>Ld (.int .i64) a (d.add 5) fun s=>Ld (.int .i64) a (d.add 6) fun t=>Al a (.cells ⟨[(Value.int .i64 0),(Value.int .i64 0),(Value.int .i64 0),(Value.int .i64 0),(Value.int .i64 0),(Value.int .i64 0),(Value.int .i64 0)]⟩ 105) fun c u=>lS [(Value.int .i64 n),(Value.int .i64 o),(Value.int .i64 p),(Value.int .i64 q),(Value.int .i64 r),(Value.int .i64 s),(Value.int .i64 t)] u c 0 fun b=>Ld .any b f1 fun v=>Ld (.int .i64) b (c.add 0) fun x=>Ld (.int .i64) b (c.add 1) fun y=>Ld (.int .i64) b (c.add 2) fun z=>Ld (.int .i64) b (c.add 3) fun A=>Ld (.int .i64) b (c.add 4) fun B=>Ld (.int .i64) b (c.add 5) fun C=>Ld (.int .i64) b (c.add 6) fun D=>jI Tryz.prog [.agg [(.int .i64),(.int .i64),(.int .i64),(.int .i64)]] v [(Value.agg ⟨[(Value.int .i64 x),(Value.int .i64 y),(Value.int .i64 z),(Value.int .i64 A),(Value.int .i64 B),(Value.int .i64 C),(Value.int .i64 D)]⟩)] b fun E F=>∃g:Int,∃h:Int,∃i:Int,∃j:Int,E=(Value.agg ⟨[(Value.int .i64 g),(Value.int .i64 h),(Value.int .i64 i),(Value.int .i64 j)]⟩)/\
 jI Tryz.prog [.one .bool] a0 [(Value.agg ⟨[(Value.int .i64 g),(Value.int .i64 h),(Value.int .i64 i),(Value.int .i64 j)]⟩)] F fun G k=>∃l:Bool,G=(Value.bool l)/\
 (bif (!l) then
 K k
 else
 m ((IntKind.i64.wrap (e.1+1)),()) k)
 else
 K a)) (0,()) w):=okF iF Tryz.func250 (.seq .leaf (.blk (.loop [(8,(.int .i64))] .leaf))) (by kernel_rfl)
theorem rJ {a0 f0 f1 w K}:fF (sF a0 f0 f1 w K)
 (Ld .slice w f0 fun f=>iw (S:=Int×Unit) (fun e a l=>(bif (decide (e.1<(f.len:Int))) then
 g_ f 7 e.1 fun d=>Ld (.int .i64) a (d.add 0) fun m=>Ld (.int .i64) a (d.add 1) fun n=>Ld (.int .i64) a (d.add 2) fun o=>Ld (.int .i64) a (d.add 3) fun p=>Ld (.int .i64) a (d.add 4) fun q=>Ld (.int .i64) a (d.add 5) fun r=>Ld (.int .i64) a (d.add 6) fun s=>Al a (.cells ⟨[(Value.int .i64 0),(Value.int .i64 0),(Value.int .i64 0),(Value.int .i64 0),(Value.int .i64 0),(Value.int .i64 0),(Value.int .i64 0)]⟩ 105) fun c t=>lS [(Value.int .i64 m),(Value.int .i64 n),(Value.int .i64 o),(Value.int .i64 p),(Value.int .i64 q),(Value.int .i64 r),(Value.int .i64 s)] t c 0 fun b=>Ld .any b f1 fun u=>Ld (.int .i64) b (c.add 0) fun v=>Ld (.int .i64) b (c.add 1) fun x=>Ld (.int .i64) b (c.add 2) fun y=>Ld (.int .i64) b (c.add 3) fun z=>Ld (.int .i64) b (c.add 4) fun A=>Ld (.int .i64) b (c.add 5) fun B=>Ld (.int .i64) b (c.add 6) fun C=>jI Tryz.prog [.agg [(.int .i64),(.int .i64),(.int .i64)]] u [(Value.agg ⟨[(Value.int .i64 v),(Value.int .i64 x),(Value.int .i64 y),(Value.int .i64 z),(Value.int .i64 A),(Value.int .i64 B),(Value.int .i64 C)]⟩)] b fun D E=>∃g:Int,∃h:Int,∃i:Int,D=(Value.agg ⟨[(Value.int .i64 g),(Value.int .i64 h),(Value.int .i64 i)]⟩)/\
 jI Tryz.prog [.one .bool] a0 [(Value.agg ⟨[(Value.int .i64 g),(Value.int .i64 h),(Value.int .i64 i)]⟩)] E fun F j=>∃k:Bool,F=(Value.bool k)/\
 (bif (!k) then
 K j
 else
 l ((IntKind.i64.wrap (e.1+1)),()) j)
 else
 K a)) (0,()) w):=okF iF Tryz.func251 (.seq .leaf (.blk (.loop [(8,(.int .i64))] .leaf))) (by kernel_rfl)
theorem JX {A0 A1 a1 w K}:fF (oC A0 A1 a1 w K)
 (Al w (.cells ⟨[(Value.int .i64 A0),(Value.int .i64 A1)]⟩ 300) fun c d=>Ld (.int .i64) d (c.add 1) fun a=>let e:Bool->World->Prop:=fun f g=>(K f g)
 rD a1 d.drew fun h b=>(bif h then
 0<=(IntKind.i64.wrap (32 - a))/\
 Ld (.int .i64) b c fun i=>0<=(IntKind.i64.wrap (32 - a))/\
 e ((jU .i64 a1 (IntKind.i64.wrap (32 - a)))==(jU .i64 i (IntKind.i64.wrap (32 - a)))) b
 else
 e false b)):=okF iF Tryz.func252 .leaf (by kernel_rfl)
theorem TV {a0 w K}:fF (wY a0 w K)
 (iw (S:=b_×Int×Unit) (fun a b d=>(bif (decide (a.2.1<(a0.len:Int))) then
 g_ a0 1 a.2.1 fun e=>Ld (.int .i64) b e fun c=>0<=(32:Int)/\
 yc a.1 (wG .i64 (jU .i64 c 32) 4294967295) 4 b fun f g=>yc f (wG .i64 c 4294967295) 4 g fun h i=>d (h,(IntKind.i64.wrap (a.2.1+1)),()) i
 else
 Jy b a.1 fun j=>K j b)) (⟨none,0,0⟩,0,()) w):=okF iF Tryz.func253 (.seq .leaf (.seq .leaf (.seq (.seq .leaf (.blk (.loop [(3,.slice),(8,(.int .i64))] .leaf))) .leaf))) (by kernel_rfl)
theorem II {a0 w K}:fF (nC a0 w K)
 (Pt a0 fun k=>Ld (.int .i64) w.drew (k.add 1) fun l=>Pt a0 fun m=>Ld .slice w.drew m fun n=>(bif (decide ((IntKind.i64.wrap (2 * (IntKind.i64.wrap (l+1))))<=(n.len:Int))) then
 K w.drew
 else
 Pt a0 fun o=>Ld .slice w.drew o fun b=>TW 343 3 32 [(Value.string (bs [])),(Value.int .i64 0),(Value.bool false)] (if (IntKind.i64.wrap (2 * (b.len:Int)))>8 then (IntKind.i64.wrap (2 * (b.len:Int))) else 8) (if (IntKind.i64.wrap (2 * (b.len:Int)))>8 then (IntKind.i64.wrap (2 * (b.len:Int))) else 8) w.drew fun g p=>Pt a0 fun q=>St p q (Value.slice g.a g.len g.cap) fun r=>iw (S:=Int×Unit) (fun h d s=>(bif (decide (h.1<(b.len:Int))) then
 let j:World->Prop:=fun t=>(s ((IntKind.i64.wrap (h.1+1)),()) t)
 g_ b 3 h.1 fun i=>Ld .str d (i.add 0) fun u=>Ld (.int .i64) d (i.add 1) fun v=>Ld .bool d (i.add 2) fun x=>Al d (.cells ⟨[(Value.string (bs [])),(Value.int .i64 0),(Value.bool false)]⟩ 343) fun c y=>lS [(Value.string u),(Value.int .i64 v),(Value.bool x)] y c 0 fun f=>Ld .bool f (c.add 2) fun z=>(bif z then
 Ld .str f c fun A=>ig a0 A f fun B J e=>Pt a0 fun C=>Ld .slice e.drew C fun D=>Ld .str e.drew (c.add 0) fun E=>Ld (.int .i64) e.drew (c.add 1) fun F=>Ld .bool e.drew (c.add 2) fun G=>g_ D 3 B fun H=>lS [(Value.string E),(Value.int .i64 F),(Value.bool G)] e.drew H 0 fun I=>j I
 else
 j f)
 else
 K d)) (0,()) r)):=okF iF Tryz.func254 (.seq .leaf (.seq .leaf (.seq .leaf (.seq .leaf (.blk (.loop [(33,(.int .i64))] .leaf)))))) (by kernel_rfl)
theorem oH {a0 a1 w K}:fF (gq a0 a1 w K)
 (iw (S:=Int×Unit) (fun b a f=>(bif (decide (b.1<(a0.len:Int))) then
 g_ a0 3 b.1 fun c=>Ld (.int .i64) a (c.add 0) fun g=>Ld (.int .i64) a (c.add 1) fun h=>Ld (.int .i64) a (c.add 2) fun i=>jI Tryz.prog [.one .bool] a1 [(Value.agg ⟨[(Value.int .i64 g),(Value.int .i64 h),(Value.int .i64 i)]⟩)] a fun j d=>∃e:Bool,j=(Value.bool e)/\
 (bif e then
 K b.1 d
 else
 f ((IntKind.i64.wrap (b.1+1)),()) d)
 else
 K (-1) a)) (0,()) w):=okF iF Tryz.func255 (.seq .leaf (.seq (.seq .leaf (.blk (.loop [(8,(.int .i64))] .leaf))) .leaf)) (by kernel_rfl)
theorem tq {a0 a1 a2 a3 a4 w K}:fF (fV a0 a1 a2 a3 a4 w K)
 (iw (S:=Int×Int×Int×Bool×Bool×Unit) (fun a e f=>(bif (decide ((IntKind.i64.wrap (a.2.1 - a.1))<=12)) then
 gy a0 a.1 a.2.1 a4 e fun y=>K y
 else
 (bif (a.2.2.1==0) then
 sO a0 a.1 a.2.1 a4 e fun z=>K z
 else
 let k:Int->World->Prop:=fun d A=>(qy a0 a.1 a.2.1 a4 A fun l m n=>let o:Int->Int->World->Prop:=fun g B p=>(let q:World->Prop:=fun b=>(let r:Bool->World->Prop:=fun C s=>((bif C then
 oP a0 a.1 a.2.1 g a4 s fun D E=>f (D,a.2.1,d,a.2.2.2.1,a.2.2.2.2.1,()) E
 else
 rV a0 a.1 a.2.1 g a4 s fun c t u=>(8:Int)≠0/\
 (bif (decide ((IntKind.i64.wrap (c - a.1))<(IntKind.i64.wrap (a.2.1 - c)))) then
 fV a0 a.1 c d a4 u fun F=>f ((IntKind.i64.wrap (c+1)),a.2.1,d,(decide ((IntKind.i64.wrap (c - a.1))>=(IntKind.i64.wrap (Int.tdiv (IntKind.i64.wrap (a.2.1 - a.1)) 8)))),t,()) F
 else
 fV a0 (IntKind.i64.wrap (c+1)) a.2.1 d a4 u fun G=>f (a.1,c,d,(decide ((IntKind.i64.wrap (a.2.1 - c))>=(IntKind.i64.wrap (Int.tdiv (IntKind.i64.wrap (a.2.1 - a.1)) 8)))),t,()) G)))
 (bif (decide (a.1>0)) then
 g_ a0 3 (IntKind.i64.wrap (a.1 - 1)) fun h=>Ld (.int .i64) b.drew (h.add 0) fun H=>Ld (.int .i64) b.drew (h.add 1) fun I=>Ld (.int .i64) b.drew (h.add 2) fun J=>g_ a0 3 g fun i=>Ld (.int .i64) b.drew (i.add 0) fun L=>Ld (.int .i64) b.drew (i.add 1) fun M=>Ld (.int .i64) b.drew (i.add 2) fun N=>jI Tryz.prog [.one (.int .i64)] a4 [(Value.agg ⟨[(Value.int .i64 H),(Value.int .i64 I),(Value.int .i64 J)]⟩),(Value.agg ⟨[(Value.int .i64 L),(Value.int .i64 M),(Value.int .i64 N)]⟩)] b.drew fun O P=>∃v:Int,O=(Value.int .i64 v)/\
 r (!(decide (v<0))) P
 else
 r false b.drew))
 let j:Bool->Prop:=fun Q=>((bif Q then
 mJ a0 a.1 a.2.1 a4 p fun R x=>(bif R then
 K x
 else
 q x)
 else
 q p))
 (bif a.2.2.2.1 then
 (bif a.2.2.2.2.1 then
 j (B==1)
 else
 j false)
 else
 j false))
 (bif (m==2) then
 pY a0 a.1 a.2.1 a4 n fun T=>o (IntKind.i64.wrap ((IntKind.i64.wrap (a.2.1 - 1)) - (IntKind.i64.wrap (l - a.1)))) 1 T
 else
 o l m n))
 (bif (!a.2.2.2.1) then
 pO a0 a.1 a.2.1 a4 e fun U=>k (IntKind.i64.wrap (a.2.2.1 - 1)) U
 else
 k a.2.2.1 e)))) (a1,a2,a3,true,true,()) w):=okF iF Tryz.func256 (.seq .leaf (.seq .leaf (.blk (.loop [(1,(.int .i64)),(2,(.int .i64)),(3,(.int .i64)),(10,.bool),(11,.bool)] .leaf)))) (by kernel_rfl)
theorem NR {a0 f0 f1 w K}:fF (Qh a0 f0 f1 w K)
 (Ld (.int .i64) w f0 fun e=>iw (S:=Int×Unit) (fun a b f=>(bif (decide (a.1>=0)) then
 Ld (.int .i64) b f1 fun g=>0<=(IntKind.i64.wrap (8 * a.1))/\
 jI Tryz.prog [.one .bool] a0 [(Value.int .u8 (IntKind.u8.wrap (jU .i64 g (IntKind.i64.wrap (8 * a.1)))))] b fun h c=>∃d:Bool,h=(Value.bool d)/\
 (bif (!d) then
 K c
 else
 f ((IntKind.i64.wrap (a.1 - 1)),()) c)
 else
 K b)) ((IntKind.i64.wrap (e - 1)),()) w):=okF iF Tryz.func257 (.seq .leaf (.blk (.loop [(4,(.int .i64))] .leaf))) (by kernel_rfl)
theorem qC {a0 a1 w K}:fF (gU a0 a1 w K)
 (iw (S:=Int×Unit) (fun a b f=>(bif (decide (a.1<(a0.len:Int))) then
 g_ a0 2 a.1 fun c=>Ld (.int .i64) b (c.add 0) fun g=>Ld (.int .i64) b (c.add 1) fun h=>jI Tryz.prog [.one .bool] a1 [(Value.agg ⟨[(Value.int .i64 g),(Value.int .i64 h)]⟩)] b fun i d=>∃e:Bool,i=(Value.bool e)/\
 (bif e then
 K a.1 d
 else
 f ((IntKind.i64.wrap (a.1+1)),()) d)
 else
 K (-1) b)) (0,()) w):=okF iF Tryz.func258 (.seq .leaf (.seq (.seq .leaf (.blk (.loop [(8,(.int .i64))] .leaf))) .leaf)) (by kernel_rfl)
theorem Qe {A0 A1 A2 A3 A4 A5 A6 A7 A8 A9 A10 A11 A12 A13 A14 A15 A16 A17 A18 A19 A20 A21 A22 A23 A24 A25 A26 A27 A28 A29 A30 A31 A32 A33 A34 A35 a1 w K}:fF (vT A0 A1 A2 A3 A4 A5 A6 A7 A8 A9 A10 A11 A12 A13 A14 A15 A16 A17 A18 A19 A20 A21 A22 A23 A24 A25 A26 A27 A28 A29 A30 A31 A32 A33 A34 A35 a1 w K)
 (Al w (.cells ⟨(jh A0 A1 A2 A3 A4 A5 A6 A7 A8 A9 A10 A11 A12 A13 A14 A15 A16 A17 A18 A19 A20 A21 A22 A23 A24 A25 A26 A27 A28 A29 A30 A31 A32 A33 A34 A35)⟩ 33) fun c d=>iw (S:=Int×Unit) (fun b a e=>Ld .slice a (c.add 17) fun f=>(bif (decide (b.1<(f.len:Int))) then
 Ld .slice a (c.add 17) fun g=>g_ g 1 b.1 fun h=>Ld (.int .i64) a h fun i=>(bif (i==a1) then
 K true a
 else
 e ((IntKind.i64.wrap (b.1+1)),()) a)
 else
 K false a)) (0,()) d):=okF iF Tryz.func259 (.seq .leaf (.seq (.seq .leaf (.blk (.loop [(5,(.int .i64))] .leaf))) .leaf)) (by kernel_rfl)
theorem TF {a0 a1 w K}:fF (xQ a0 a1 w K)
 (iw (S:=Int×Int×Unit) (fun a b c=>(bif (decide (a.2.1<(a0.size:Int))) then
 aaG a0 a.2.1 fun d=>c ((IntKind.u32.wrap ((WA .u32 a.1 (IntKind.u32.wrap d)) * 16777619)),(IntKind.i64.wrap (a.2.1+1)),()) b
 else
 (IntKind.u32.wrap a1)≠0/\
 K (IntKind.i64.wrap (Int.tmod a.1 (IntKind.u32.wrap a1))) b)) (2166136261,0,()) w):=okF iF Tryz.func266 (.seq .leaf (.seq .leaf (.seq (.seq .leaf (.blk (.loop [(5,(.int .u32)),(9,(.int .i64))] .leaf))) .leaf))) (by kernel_rfl)
theorem Ee {a0 f0 f1 w K}:fF (GX a0 f0 f1 w K)
 (Ld .ptr w f0 fun f=>Pt f fun g=>Ld .slice w g fun h=>iw (S:=Int×Unit) (fun b a i=>(bif (decide (b.1<(h.len:Int))) then
 Ld (.int .i64) a.drew f1 fun j=>Ld .ptr a.drew f0 fun k=>Pt k fun l=>Ld .slice a.drew l fun c=>(c.len:Int)≠0/\
 jI Tryz.prog [.one .bool] a0 [(Value.int .i64 (Int.tmod (IntKind.i64.wrap (j+b.1)) (c.len:Int)))] a.drew fun m d=>∃e:Bool,m=(Value.bool e)/\
 (bif (!e) then
 K d
 else
 i ((IntKind.i64.wrap (b.1+1)),()) d)
 else
 K a)) (0,()) w):=okF iF Tryz.func267 (.seq .leaf (.blk (.loop [(10,(.int .i64))] .leaf))) (by kernel_rfl)
theorem oO {a0 a1 a2 a3 w K}:fF (gy a0 a1 a2 a3 w K)
 (iw (S:=Int×Unit) (fun d i l=>(bif (decide (d.1<a2)) then
 iw (S:=Int×Unit) (fun a b m=>let j:Bool->World->Prop:=fun n c=>((bif n then
 g_ a0 3 (IntKind.i64.wrap (a.1 - 1)) fun e=>Ld (.int .i64) c.drew (e.add 0) fun o=>Ld (.int .i64) c.drew (e.add 1) fun p=>Ld (.int .i64) c.drew (e.add 2) fun q=>g_ a0 3 a.1 fun f=>Ld (.int .i64) c.drew (f.add 0) fun r=>Ld (.int .i64) c.drew (f.add 1) fun s=>Ld (.int .i64) c.drew (f.add 2) fun t=>g_ a0 3 a.1 fun u=>lS [(Value.int .i64 o),(Value.int .i64 p),(Value.int .i64 q)] c.drew u 0 fun v=>g_ a0 3 (IntKind.i64.wrap (a.1 - 1)) fun x=>lS [(Value.int .i64 r),(Value.int .i64 s),(Value.int .i64 t)] v x 0 fun y=>m ((IntKind.i64.wrap (a.1 - 1)),()) y
 else
 l ((IntKind.i64.wrap (d.1+1)),()) c))
 (bif (decide (a.1>a1)) then
 g_ a0 3 a.1 fun g=>Ld (.int .i64) b.drew (g.add 0) fun z=>Ld (.int .i64) b.drew (g.add 1) fun A=>Ld (.int .i64) b.drew (g.add 2) fun B=>g_ a0 3 (IntKind.i64.wrap (a.1 - 1)) fun h=>Ld (.int .i64) b.drew (h.add 0) fun C=>Ld (.int .i64) b.drew (h.add 1) fun D=>Ld (.int .i64) b.drew (h.add 2) fun E=>jI Tryz.prog [.one (.int .i64)] a3 [(Value.agg ⟨[(Value.int .i64 z),(Value.int .i64 A),(Value.int .i64 B)]⟩),(Value.agg ⟨[(Value.int .i64 C),(Value.int .i64 D),(Value.int .i64 E)]⟩)] b.drew fun F G=>∃k:Int,F=(Value.int .i64 k)/\
 j (decide (k<0)) G
 else
 j false b.drew)) (d.1,()) i
 else
 K i)) ((IntKind.i64.wrap (a1+1)),()) w):=okF iF Tryz.func268 (.seq .leaf (.blk (.loop [(8,(.int .i64))] (.seq .leaf (.seq (.blk (.seq .leaf (.blk (.loop [(9,(.int .i64))] .leaf)))) .leaf))))) (by kernel_rfl)
end Go.Proofs
