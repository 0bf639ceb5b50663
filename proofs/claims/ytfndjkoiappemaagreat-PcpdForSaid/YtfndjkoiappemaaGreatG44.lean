import Derived.Test.YtfndjkoiappemaaGreatW4
import Derived.Test.YtfndjkoiappemaaGreatProg
import Derived.KernelRfl
namespace Go.Proofs
open Gp
set_option maxRecDepth 100000
set_option maxHeartbeats 4000000
theorem cZ : OU Tryz.prog := OU.abg (by kernel_rfl) (by kernel_rfl)
abbrev aci : List Kind := (.int .i64) :: (.int .i64) :: (.int .i64) :: (.int .u8) :: (.int .u8) :: (.int .u8) :: (.int .u8) :: (.int .u8) :: (.int .u8) :: (.int .u8) :: (.int .u8) :: (.int .u8) :: (.int .u8) :: (.int .u8) :: (.int .u8) :: (.int .u8) :: (.int .u8) :: (.int .u8) :: (.int .u8) :: (.int .u8) :: (.int .u8) :: (.int .u8) :: (.int .u8) :: (.int .u8) :: (.int .u8) :: (.int .u8) :: (.int .u8) :: (.int .u8) :: (.int .u8) :: (.int .u8) :: (.int .u8) :: (.int .i64) :: (.int .i64) :: (.int .i64) :: (.int .i64) :: []
@[reducible] def AZ (x0 x1 x2 x3 x4 x5 x6 x7 x8 x9 x10 x11 x12 x13 x14 x15 x16 x17 x18 x19 x20 x21 x22 x23 x24 x25 x26 x27 x28 x29 x30 x31 x32 x33 x34 : Int) : List Value := .int .i64 x0 :: .int .i64 x1 :: .int .i64 x2 :: .int .u8 x3 :: .int .u8 x4 :: .int .u8 x5 :: .int .u8 x6 :: .int .u8 x7 :: .int .u8 x8 :: .int .u8 x9 :: .int .u8 x10 :: .int .u8 x11 :: .int .u8 x12 :: .int .u8 x13 :: .int .u8 x14 :: .int .u8 x15 :: .int .u8 x16 :: .int .u8 x17 :: .int .u8 x18 :: .int .u8 x19 :: .int .u8 x20 :: .int .u8 x21 :: .int .u8 x22 :: .int .u8 x23 :: .int .u8 x24 :: .int .u8 x25 :: .int .u8 x26 :: .int .u8 x27 :: .int .u8 x28 :: .int .u8 x29 :: .int .u8 x30 :: .int .i64 x31 :: .int .i64 x32 :: .int .i64 x33 :: .int .i64 x34 :: []
@[reducible] def aaw (w : World) (a : Addr) (K : Int -> Int -> Int -> Int -> Int -> Int -> Int -> Int -> Int -> Int -> Int -> Int -> Int -> Int -> Int -> Int -> Int -> Int -> Int -> Int -> Int -> Int -> Int -> Int -> Int -> Int -> Int -> Int -> Int -> Int -> Int -> Int -> Int -> Int -> Int -> Prop) : Prop := Ld (.int .i64) w (a.add 0) fun x0 => Ld (.int .i64) w (a.add 1) fun x1 => Ld (.int .i64) w (a.add 2) fun x2 => Ld (.int .u8) w (a.add 3) fun x3 => Ld (.int .u8) w (a.add 4) fun x4 => Ld (.int .u8) w (a.add 5) fun x5 => Ld (.int .u8) w (a.add 6) fun x6 => Ld (.int .u8) w (a.add 7) fun x7 => Ld (.int .u8) w (a.add 8) fun x8 => Ld (.int .u8) w (a.add 9) fun x9 => Ld (.int .u8) w (a.add 10) fun x10 => Ld (.int .u8) w (a.add 11) fun x11 => Ld (.int .u8) w (a.add 12) fun x12 => Ld (.int .u8) w (a.add 13) fun x13 => Ld (.int .u8) w (a.add 14) fun x14 => Ld (.int .u8) w (a.add 15) fun x15 => Ld (.int .u8) w (a.add 16) fun x16 => Ld (.int .u8) w (a.add 17) fun x17 => Ld (.int .u8) w (a.add 18) fun x18 => Ld (.int .u8) w (a.add 19) fun x19 => Ld (.int .u8) w (a.add 20) fun x20 => Ld (.int .u8) w (a.add 21) fun x21 => Ld (.int .u8) w (a.add 22) fun x22 => Ld (.int .u8) w (a.add 23) fun x23 => Ld (.int .u8) w (a.add 24) fun x24 => Ld (.int .u8) w (a.add 25) fun x25 => Ld (.int .u8) w (a.add 26) fun x26 => Ld (.int .u8) w (a.add 27) fun x27 => Ld (.int .u8) w (a.add 28) fun x28 => Ld (.int .u8) w (a.add 29) fun x29 => Ld (.int .u8) w (a.add 30) fun x30 => Ld (.int .i64) w (a.add 31) fun x31 => Ld (.int .i64) w (a.add 32) fun x32 => Ld (.int .i64) w (a.add 33) fun x33 => Ld (.int .i64) w (a.add 34) fun x34 => K x0 x1 x2 x3 x4 x5 x6 x7 x8 x9 x10 x11 x12 x13 x14 x15 x16 x17 x18 x19 x20 x21 x22 x23 x24 x25 x26 x27 x28 x29 x30 x31 x32 x33 x34
abbrev abZ : List Kind := (.int .u8) :: (.int .u8) :: (.int .u8) :: (.int .u8) :: (.int .u8) :: (.int .u8) :: (.int .u8) :: (.int .u8) :: (.int .u8) :: (.int .u8) :: (.int .u8) :: (.int .u8) :: (.int .u8) :: (.int .u8) :: (.int .u8) :: (.int .u8) :: .slice :: .slice :: (.int .i64) :: (.int .i64) :: (.int .i64) :: (.int .i64) :: (.int .i64) :: (.int .i64) :: (.int .i64) :: (.int .i64) :: (.int .i64) :: (.int .i64) :: (.int .i64) :: (.int .i64) :: (.int .i64) :: (.int .i64) :: (.int .i64) :: (.int .i64) :: (.int .i64) :: .slice :: []
@[reducible] def fG (x0 x1 x2 x3 x4 x5 x6 x7 x8 x9 x10 x11 x12 x13 x14 x15 : Int) (x16 x17 : ah) (x18 x19 x20 x21 x22 x23 x24 x25 x26 x27 x28 x29 x30 x31 x32 x33 x34 : Int) (x35 : ah) : List Value := .int .u8 x0 :: .int .u8 x1 :: .int .u8 x2 :: .int .u8 x3 :: .int .u8 x4 :: .int .u8 x5 :: .int .u8 x6 :: .int .u8 x7 :: .int .u8 x8 :: .int .u8 x9 :: .int .u8 x10 :: .int .u8 x11 :: .int .u8 x12 :: .int .u8 x13 :: .int .u8 x14 :: .int .u8 x15 :: .slice x16.a x16.len x16.cap :: .slice x17.a x17.len x17.cap :: .int .i64 x18 :: .int .i64 x19 :: .int .i64 x20 :: .int .i64 x21 :: .int .i64 x22 :: .int .i64 x23 :: .int .i64 x24 :: .int .i64 x25 :: .int .i64 x26 :: .int .i64 x27 :: .int .i64 x28 :: .int .i64 x29 :: .int .i64 x30 :: .int .i64 x31 :: .int .i64 x32 :: .int .i64 x33 :: .int .i64 x34 :: .slice x35.a x35.len x35.cap :: []
@[reducible] def uT (w : World) (a : Addr) (K : Int -> Int -> Int -> Int -> Int -> Int -> Int -> Int -> Int -> Int -> Int -> Int -> Int -> Int -> Int -> Int -> ah -> ah -> Int -> Int -> Int -> Int -> Int -> Int -> Int -> Int -> Int -> Int -> Int -> Int -> Int -> Int -> Int -> Int -> Int -> ah -> Prop) : Prop := Ld (.int .u8) w (a.add 0) fun x0 => Ld (.int .u8) w (a.add 1) fun x1 => Ld (.int .u8) w (a.add 2) fun x2 => Ld (.int .u8) w (a.add 3) fun x3 => Ld (.int .u8) w (a.add 4) fun x4 => Ld (.int .u8) w (a.add 5) fun x5 => Ld (.int .u8) w (a.add 6) fun x6 => Ld (.int .u8) w (a.add 7) fun x7 => Ld (.int .u8) w (a.add 8) fun x8 => Ld (.int .u8) w (a.add 9) fun x9 => Ld (.int .u8) w (a.add 10) fun x10 => Ld (.int .u8) w (a.add 11) fun x11 => Ld (.int .u8) w (a.add 12) fun x12 => Ld (.int .u8) w (a.add 13) fun x13 => Ld (.int .u8) w (a.add 14) fun x14 => Ld (.int .u8) w (a.add 15) fun x15 => Ld .slice w (a.add 16) fun x16 => Ld .slice w (a.add 17) fun x17 => Ld (.int .i64) w (a.add 18) fun x18 => Ld (.int .i64) w (a.add 19) fun x19 => Ld (.int .i64) w (a.add 20) fun x20 => Ld (.int .i64) w (a.add 21) fun x21 => Ld (.int .i64) w (a.add 22) fun x22 => Ld (.int .i64) w (a.add 23) fun x23 => Ld (.int .i64) w (a.add 24) fun x24 => Ld (.int .i64) w (a.add 25) fun x25 => Ld (.int .i64) w (a.add 26) fun x26 => Ld (.int .i64) w (a.add 27) fun x27 => Ld (.int .i64) w (a.add 28) fun x28 => Ld (.int .i64) w (a.add 29) fun x29 => Ld (.int .i64) w (a.add 30) fun x30 => Ld (.int .i64) w (a.add 31) fun x31 => Ld (.int .i64) w (a.add 32) fun x32 => Ld (.int .i64) w (a.add 33) fun x33 => Ld (.int .i64) w (a.add 34) fun x34 => Ld .slice w (a.add 35) fun x35 => K x0 x1 x2 x3 x4 x5 x6 x7 x8 x9 x10 x11 x12 x13 x14 x15 x16 x17 x18 x19 x20 x21 x22 x23 x24 x25 x26 x27 x28 x29 x30 x31 x32 x33 x34 x35
@[reducible] def abO (x0 x1 x2 x3 x4 : Option Addr) (x5 x6 x7 x8 x9 x10 x11 x12 x13 x14 x15 x16 x17 x18 x19 x20 : Int) (x21 x22 : ah) (x23 x24 x25 x26 x27 x28 x29 x30 x31 x32 x33 x34 x35 x36 x37 x38 x39 : Int) (x40 : ah) (x41 : Int) : List Value := .pointer x0 :: .pointer x1 :: .pointer x2 :: .pointer x3 :: .pointer x4 :: .int .u8 x5 :: .int .u8 x6 :: .int .u8 x7 :: .int .u8 x8 :: .int .u8 x9 :: .int .u8 x10 :: .int .u8 x11 :: .int .u8 x12 :: .int .u8 x13 :: .int .u8 x14 :: .int .u8 x15 :: .int .u8 x16 :: .int .u8 x17 :: .int .u8 x18 :: .int .u8 x19 :: .int .u8 x20 :: .slice x21.a x21.len x21.cap :: .slice x22.a x22.len x22.cap :: .int .i64 x23 :: .int .i64 x24 :: .int .i64 x25 :: .int .i64 x26 :: .int .i64 x27 :: .int .i64 x28 :: .int .i64 x29 :: .int .i64 x30 :: .int .i64 x31 :: .int .i64 x32 :: .int .i64 x33 :: .int .i64 x34 :: .int .i64 x35 :: .int .i64 x36 :: .int .i64 x37 :: .int .i64 x38 :: .int .i64 x39 :: .slice x40.a x40.len x40.cap :: .int .i64 x41 :: []
@[reducible] def abM (x0 x1 x2 x3 x4 x5 x6 x7 x8 x9 x10 x11 x12 x13 x14 x15 x16 x17 x18 x19 x20 x21 x22 x23 x24 x25 x26 x27 x28 x29 x30 x31 : Int) : List Value := .int .u8 x0 :: .int .u8 x1 :: .int .u8 x2 :: .int .u8 x3 :: .int .u8 x4 :: .int .u8 x5 :: .int .u8 x6 :: .int .u8 x7 :: .int .u8 x8 :: .int .u8 x9 :: .int .u8 x10 :: .int .u8 x11 :: .int .u8 x12 :: .int .u8 x13 :: .int .u8 x14 :: .int .u8 x15 :: .int .u8 x16 :: .int .u8 x17 :: .int .u8 x18 :: .int .u8 x19 :: .int .u8 x20 :: .int .u8 x21 :: .int .u8 x22 :: .int .u8 x23 :: .int .u8 x24 :: .int .u8 x25 :: .int .u8 x26 :: .int .u8 x27 :: .int .u8 x28 :: .int .u8 x29 :: .int .u8 x30 :: .int .u8 x31 :: []
abbrev SE : List Kind := (.int .i64) :: (.int .u8) :: (.int .u8) :: (.int .u8) :: (.int .u8) :: (.int .u8) :: (.int .u8) :: (.int .u8) :: (.int .u8) :: (.int .u8) :: (.int .u8) :: (.int .u8) :: (.int .u8) :: (.int .u8) :: (.int .u8) :: (.int .u8) :: (.int .u8) :: (.int .u8) :: (.int .u8) :: (.int .u8) :: (.int .u8) :: (.int .u8) :: (.int .u8) :: (.int .u8) :: (.int .u8) :: (.int .u8) :: (.int .u8) :: (.int .u8) :: (.int .u8) :: (.int .i64) :: (.int .i64) :: (.int .i64) :: (.int .i64) :: []
@[reducible] def dw (x0 x1 x2 x3 x4 x5 x6 x7 x8 x9 x10 x11 x12 x13 x14 x15 x16 x17 x18 x19 x20 x21 x22 x23 x24 x25 x26 x27 x28 x29 x30 x31 x32 : Int) : List Value := .int .i64 x0 :: .int .u8 x1 :: .int .u8 x2 :: .int .u8 x3 :: .int .u8 x4 :: .int .u8 x5 :: .int .u8 x6 :: .int .u8 x7 :: .int .u8 x8 :: .int .u8 x9 :: .int .u8 x10 :: .int .u8 x11 :: .int .u8 x12 :: .int .u8 x13 :: .int .u8 x14 :: .int .u8 x15 :: .int .u8 x16 :: .int .u8 x17 :: .int .u8 x18 :: .int .u8 x19 :: .int .u8 x20 :: .int .u8 x21 :: .int .u8 x22 :: .int .u8 x23 :: .int .u8 x24 :: .int .u8 x25 :: .int .u8 x26 :: .int .u8 x27 :: .int .u8 x28 :: .int .i64 x29 :: .int .i64 x30 :: .int .i64 x31 :: .int .i64 x32 :: []
@[reducible] def fH (w : World) (a : Addr) (K : Int -> Int -> Int -> Int -> Int -> Int -> Int -> Int -> Int -> Int -> Int -> Int -> Int -> Int -> Int -> Int -> Int -> Int -> Int -> Int -> Int -> Int -> Int -> Int -> Int -> Int -> Int -> Int -> Int -> Int -> Int -> Int -> Int -> Prop) : Prop := Ld (.int .i64) w (a.add 0) fun x0 => Ld (.int .u8) w (a.add 1) fun x1 => Ld (.int .u8) w (a.add 2) fun x2 => Ld (.int .u8) w (a.add 3) fun x3 => Ld (.int .u8) w (a.add 4) fun x4 => Ld (.int .u8) w (a.add 5) fun x5 => Ld (.int .u8) w (a.add 6) fun x6 => Ld (.int .u8) w (a.add 7) fun x7 => Ld (.int .u8) w (a.add 8) fun x8 => Ld (.int .u8) w (a.add 9) fun x9 => Ld (.int .u8) w (a.add 10) fun x10 => Ld (.int .u8) w (a.add 11) fun x11 => Ld (.int .u8) w (a.add 12) fun x12 => Ld (.int .u8) w (a.add 13) fun x13 => Ld (.int .u8) w (a.add 14) fun x14 => Ld (.int .u8) w (a.add 15) fun x15 => Ld (.int .u8) w (a.add 16) fun x16 => Ld (.int .u8) w (a.add 17) fun x17 => Ld (.int .u8) w (a.add 18) fun x18 => Ld (.int .u8) w (a.add 19) fun x19 => Ld (.int .u8) w (a.add 20) fun x20 => Ld (.int .u8) w (a.add 21) fun x21 => Ld (.int .u8) w (a.add 22) fun x22 => Ld (.int .u8) w (a.add 23) fun x23 => Ld (.int .u8) w (a.add 24) fun x24 => Ld (.int .u8) w (a.add 25) fun x25 => Ld (.int .u8) w (a.add 26) fun x26 => Ld (.int .u8) w (a.add 27) fun x27 => Ld (.int .u8) w (a.add 28) fun x28 => Ld (.int .i64) w (a.add 29) fun x29 => Ld (.int .i64) w (a.add 30) fun x30 => Ld (.int .i64) w (a.add 31) fun x31 => Ld (.int .i64) w (a.add 32) fun x32 => K x0 x1 x2 x3 x4 x5 x6 x7 x8 x9 x10 x11 x12 x13 x14 x15 x16 x17 x18 x19 x20 x21 x22 x23 x24 x25 x26 x27 x28 x29 x30 x31 x32
abbrev La : List Kind := (.int .u8) :: (.int .u8) :: (.int .u8) :: (.int .u8) :: (.int .u8) :: (.int .u8) :: (.int .u8) :: (.int .u8) :: (.int .u8) :: (.int .u8) :: (.int .u8) :: (.int .u8) :: (.int .u8) :: (.int .u8) :: (.int .u8) :: (.int .u8) :: []
@[reducible] def dF (x0 x1 x2 x3 x4 x5 x6 x7 x8 x9 x10 x11 x12 x13 x14 x15 : Int) : List Value := .int .u8 x0 :: .int .u8 x1 :: .int .u8 x2 :: .int .u8 x3 :: .int .u8 x4 :: .int .u8 x5 :: .int .u8 x6 :: .int .u8 x7 :: .int .u8 x8 :: .int .u8 x9 :: .int .u8 x10 :: .int .u8 x11 :: .int .u8 x12 :: .int .u8 x13 :: .int .u8 x14 :: .int .u8 x15 :: []
@[reducible] def ku (w : World) (a : Addr) (K : Int -> Int -> Int -> Int -> Int -> Int -> Int -> Int -> Int -> Int -> Int -> Int -> Int -> Int -> Int -> Int -> Prop) : Prop := Ld (.int .u8) w (a.add 0) fun x0 => Ld (.int .u8) w (a.add 1) fun x1 => Ld (.int .u8) w (a.add 2) fun x2 => Ld (.int .u8) w (a.add 3) fun x3 => Ld (.int .u8) w (a.add 4) fun x4 => Ld (.int .u8) w (a.add 5) fun x5 => Ld (.int .u8) w (a.add 6) fun x6 => Ld (.int .u8) w (a.add 7) fun x7 => Ld (.int .u8) w (a.add 8) fun x8 => Ld (.int .u8) w (a.add 9) fun x9 => Ld (.int .u8) w (a.add 10) fun x10 => Ld (.int .u8) w (a.add 11) fun x11 => Ld (.int .u8) w (a.add 12) fun x12 => Ld (.int .u8) w (a.add 13) fun x13 => Ld (.int .u8) w (a.add 14) fun x14 => Ld (.int .u8) w (a.add 15) fun x15 => K x0 x1 x2 x3 x4 x5 x6 x7 x8 x9 x10 x11 x12 x13 x14 x15
@[reducible] def MX (x0 x1 x2 x3 x4 x5 x6 : Int) (x7 x8 : Bool) : List Value := .int .i64 x0 :: .int .i64 x1 :: .int .i64 x2 :: .int .i64 x3 :: .int .i64 x4 :: .int .i64 x5 :: .int .i64 x6 :: .bool x7 :: .bool x8 :: []
@[reducible] def aay (w : World) (a : Addr) (K : Int -> Int -> Int -> Int -> Int -> Int -> Int -> Bool -> Bool -> Prop) : Prop := Ld (.int .i64) w (a.add 0) fun x0 => Ld (.int .i64) w (a.add 1) fun x1 => Ld (.int .i64) w (a.add 2) fun x2 => Ld (.int .i64) w (a.add 3) fun x3 => Ld (.int .i64) w (a.add 4) fun x4 => Ld (.int .i64) w (a.add 5) fun x5 => Ld (.int .i64) w (a.add 6) fun x6 => Ld .bool w (a.add 7) fun x7 => Ld .bool w (a.add 8) fun x8 => K x0 x1 x2 x3 x4 x5 x6 x7 x8
@[reducible] def aaD (x0 x1 x2 x3 x4 x5 x6 x7 x8 x9 : Int) : List Value := .int .i64 x0 :: .int .i64 x1 :: .int .i64 x2 :: .int .i64 x3 :: .int .i64 x4 :: .int .i64 x5 :: .int .i64 x6 :: .int .i64 x7 :: .int .i64 x8 :: .int .i64 x9 :: []
@[reducible] def abY (x0 x1 x2 x3 x4 x5 x6 x7 x8 x9 x10 x11 x12 x13 x14 x15 x16 x17 x18 x19 x20 x21 x22 x23 x24 x25 x26 x27 x28 x29 x30 x31 x32 x33 x34 x35 x36 x37 x38 x39 x40 x41 x42 x43 x44 x45 x46 x47 x48 x49 x50 x51 x52 x53 x54 x55 x56 : Int) : List Value := .int .i64 x0 :: .int .i64 x1 :: .int .i64 x2 :: .int .i64 x3 :: .int .i64 x4 :: .int .i64 x5 :: .int .i64 x6 :: .int .i64 x7 :: .int .i64 x8 :: .int .i64 x9 :: .int .i64 x10 :: .int .i64 x11 :: .int .i64 x12 :: .int .i64 x13 :: .int .i64 x14 :: .int .i64 x15 :: .int .i64 x16 :: .int .i64 x17 :: .int .i64 x18 :: .int .i64 x19 :: .int .i64 x20 :: .int .i64 x21 :: .int .i64 x22 :: .int .i64 x23 :: .int .i64 x24 :: .int .i64 x25 :: .int .i64 x26 :: .int .i64 x27 :: .int .i64 x28 :: .int .i64 x29 :: .int .i64 x30 :: .int .i64 x31 :: .int .i64 x32 :: .int .i64 x33 :: .int .i64 x34 :: .int .i64 x35 :: .int .i64 x36 :: .int .i64 x37 :: .int .i64 x38 :: .int .i64 x39 :: .int .i64 x40 :: .int .i64 x41 :: .int .i64 x42 :: .int .i64 x43 :: .int .i64 x44 :: .int .i64 x45 :: .int .i64 x46 :: .int .i64 x47 :: .int .i64 x48 :: .int .i64 x49 :: .int .i64 x50 :: .int .i64 x51 :: .int .i64 x52 :: .int .i64 x53 :: .int .i64 x54 :: .int .i64 x55 :: .int .i64 x56 :: []
@[reducible] def abG (x0 x1 x2 x3 x4 x5 x6 x7 x8 : Int) : List Value := .int .i64 x0 :: .int .i64 x1 :: .int .i64 x2 :: .int .i64 x3 :: .int .i64 x4 :: .int .i64 x5 :: .int .i64 x6 :: .int .i64 x7 :: .int .i64 x8 :: []
def Am (a0 a1 a2 : Int) (w : World) (K : Bool -> World -> Prop) : Prop :=
 ak Tryz.prog 3 [.int .u16 a0, .int .u16 a1, .int .u16 a2] [.one .bool] w K
def wu (A0 A1 A2 A3 A4 A5 A6 A7 A8 A9 A10 A11 A12 A13 A14 A15 : Int) (A16 A17 : ah) (A18 A19 A20 A21 A22 A23 A24 A25 A26 A27 A28 A29 A30 A31 A32 A33 A34 : Int) (A35 : ah) (w : World) (K : (Option Addr) -> Int -> World -> Prop) : Prop :=
 ak Tryz.prog 6 [.agg ⟨fG A0 A1 A2 A3 A4 A5 A6 A7 A8 A9 A10 A11 A12 A13 A14 A15 A16 A17 A18 A19 A20 A21 A22 A23 A24 A25 A26 A27 A28 A29 A30 A31 A32 A33 A34 A35⟩] [.one .ptr, .one (.int .i64)] w K
def kV  (w : World) (K : Int -> Int -> Int -> Int -> Int -> Int -> Int -> Int -> Int -> Int -> Int -> Int -> Int -> Int -> Int -> Int -> ah -> ah -> Int -> Int -> Int -> Int -> Int -> Int -> Int -> Int -> Int -> Int -> Int -> Int -> Int -> Int -> Int -> Int -> Int -> ah -> World -> Prop) : Prop :=
 ak Tryz.prog 7 [] [.agg abZ] w K
theorem N8 { w K K'} : kV  w K -> (∀ x0 x1 x2 x3 x4 x5 x6 x7 x8 x9 x10 x11 x12 x13 x14 x15 x16 x17 x18 x19 x20 x21 x22 x23 x24 x25 x26 x27 x28 x29 x30 x31 x32 x33 x34 x35 w, K x0 x1 x2 x3 x4 x5 x6 x7 x8 x9 x10 x11 x12 x13 x14 x15 x16 x17 x18 x19 x20 x21 x22 x23 x24 x25 x26 x27 x28 x29 x30 x31 x32 x33 x34 x35 w -> K' x0 x1 x2 x3 x4 x5 x6 x7 x8 x9 x10 x11 x12 x13 x14 x15 x16 x17 x18 x19 x20 x21 x22 x23 x24 x25 x26 x27 x28 x29 x30 x31 x32 x33 x34 x35 w) -> kV  w K' := ak.mono
def qC (a0 : Option Addr) (a1 : Int) (w : World) (K : (Option Addr) -> Int -> World -> Prop) : Prop :=
 ak Tryz.prog 8 [.pointer a0, .int .i64 a1] [.one .ptr, .one (.int .i64)] w K
theorem Rn {a0 a1 w K K'} : qC a0 a1 w K -> (∀ x0 x1 w, K x0 x1 w -> K' x0 x1 w) -> qC a0 a1 w K' := ak.mono
def lK  (w : World) (K : Bool -> World -> Prop) : Prop :=
 ak Tryz.prog 9 [] [.one .bool] w K
theorem AV { w K K'} : lK  w K -> (∀ x0 w, K x0 w -> K' x0 w) -> lK  w K' := ak.mono
def dW (a0 : Option Addr) (a1 a2 : Int) (a3 : ah) (w : World) (K : ah -> Int -> World -> Prop) : Prop :=
 ak Tryz.prog 10 [.pointer a0, .int .i64 a1, .int .i64 a2, .slice a3.a a3.len a3.cap] [.one .slice, .one (.int .i64)] w K
def mW (a0 a1 a2 a3 a4 : Int) (w : World) (K : ah -> World -> Prop) : Prop :=
 ak Tryz.prog 11 [.int .i64 a0, .int .i64 a1, .int .i64 a2, .int .i64 a3, .int .i64 a4] [.one .slice] w K
theorem zD {a0 a1 a2 a3 a4 w K K'} : mW a0 a1 a2 a3 a4 w K -> (∀ x0 w, K x0 w -> K' x0 w) -> mW a0 a1 a2 a3 a4 w K' := ak.mono
def bY (a0 : Option Addr) (a1 : Int) (w : World) (K : Int -> World -> Prop) : Prop :=
 ak Tryz.prog 12 [.pointer a0, .int .i64 a1] [.one (.int .i64)] w K
theorem zT {a0 a1 w K K'} : bY a0 a1 w K -> (∀ x0 w, K x0 w -> K' x0 w) -> bY a0 a1 w K' := ak.mono
def fC (a0 : Option Addr) (w : World) (K : Int -> ah -> ah -> Int -> Int -> Int -> ah -> World -> Prop) : Prop :=
 ak Tryz.prog 13 [.pointer a0] [.agg [(.int .i64), .slice, .slice, (.int .i64), (.int .i64), (.int .i64), .slice]] w K
def sJ (a0 : ah) (w : World) (K : Int -> Int -> Int -> Int -> Int -> Int -> Int -> Int -> Int -> Int -> Int -> Int -> Int -> Int -> Int -> Int -> Int -> Int -> Int -> Int -> Int -> Int -> Int -> Int -> Int -> Int -> Int -> Int -> Int -> Int -> Int -> Int -> Int -> Int -> Int -> Int -> World -> Prop) : Prop :=
 ak Tryz.prog 14 [.slice a0.a a0.len a0.cap] [.agg aci, .one (.int .i64)] w K
def EF (A0 A1 A2 A3 A4 A5 A6 A7 A8 A9 A10 A11 A12 A13 A14 A15 : Int) (A16 A17 : ah) (A18 A19 A20 A21 A22 A23 A24 A25 A26 A27 A28 A29 A30 A31 A32 A33 A34 : Int) (A35 : ah) (w : World) (K : Bool -> World -> Prop) : Prop :=
 ak Tryz.prog 15 [.agg ⟨fG A0 A1 A2 A3 A4 A5 A6 A7 A8 A9 A10 A11 A12 A13 A14 A15 A16 A17 A18 A19 A20 A21 A22 A23 A24 A25 A26 A27 A28 A29 A30 A31 A32 A33 A34 A35⟩] [.one .bool] w K
def ni (A0 A1 A2 A3 A4 A5 A6 A7 A8 A9 A10 A11 A12 A13 A14 A15 : Int) (A16 A17 : ah) (A18 A19 A20 A21 A22 A23 A24 A25 A26 A27 A28 A29 A30 A31 A32 A33 A34 : Int) (A35 : ah) (w : World) (K : Int -> World -> Prop) : Prop :=
 ak Tryz.prog 29 [.agg ⟨fG A0 A1 A2 A3 A4 A5 A6 A7 A8 A9 A10 A11 A12 A13 A14 A15 A16 A17 A18 A19 A20 A21 A22 A23 A24 A25 A26 A27 A28 A29 A30 A31 A32 A33 A34 A35⟩] [.one (.int .i64)] w K
theorem JM {A0 A1 A2 A3 A4 A5 A6 A7 A8 A9 A10 A11 A12 A13 A14 A15 A16 A17 A18 A19 A20 A21 A22 A23 A24 A25 A26 A27 A28 A29 A30 A31 A32 A33 A34 A35 w K K'} : ni A0 A1 A2 A3 A4 A5 A6 A7 A8 A9 A10 A11 A12 A13 A14 A15 A16 A17 A18 A19 A20 A21 A22 A23 A24 A25 A26 A27 A28 A29 A30 A31 A32 A33 A34 A35 w K -> (∀ x0 w, K x0 w -> K' x0 w) -> ni A0 A1 A2 A3 A4 A5 A6 A7 A8 A9 A10 A11 A12 A13 A14 A15 A16 A17 A18 A19 A20 A21 A22 A23 A24 A25 A26 A27 A28 A29 A30 A31 A32 A33 A34 A35 w K' := ak.mono
def wC (a0 : ah) (a1 a2 : Int) (w : World) (K : (Option Addr) -> Int -> World -> Prop) : Prop :=
 ak Tryz.prog 30 [.slice a0.a a0.len a0.cap, .int .i64 a1, .int .i64 a2] [.one .ptr, .one (.int .i64)] w K
theorem Tc {a0 a1 a2 w K K'} : wC a0 a1 a2 w K -> (∀ x0 x1 w, K x0 x1 w -> K' x0 x1 w) -> wC a0 a1 a2 w K' := ak.mono
def um (a0 a1 : Int) (w : World) (K : (Option Addr) -> Int -> World -> Prop) : Prop :=
 ak Tryz.prog 31 [.int .i64 a0, .int .i64 a1] [.one .ptr, .one (.int .i64)] w K
theorem PD {a0 a1 w K K'} : um a0 a1 w K -> (∀ x0 x1 w, K x0 x1 w -> K' x0 x1 w) -> um a0 a1 w K' := ak.mono
def wK (a0 : Int) (w : World) (K : (Option Addr) -> Int -> World -> Prop) : Prop :=
 ak Tryz.prog 32 [.int .i64 a0] [.one .ptr, .one (.int .i64)] w K
theorem Ry {a0 w K K'} : wK a0 w K -> (∀ x0 x1 w, K x0 x1 w -> K' x0 x1 w) -> wK a0 w K' := ak.mono
def pz (a0 : Int) (w : World) (K : (Option Addr) -> Int -> World -> Prop) : Prop :=
 ak Tryz.prog 33 [.int .i64 a0] [.one .ptr, .one (.int .i64)] w K
theorem Nw {a0 w K K'} : pz a0 w K -> (∀ x0 x1 w, K x0 x1 w -> K' x0 x1 w) -> pz a0 w K' := ak.mono
def qI (a0 : Int) (w : World) (K : (Option Addr) -> Int -> World -> Prop) : Prop :=
 ak Tryz.prog 34 [.int .i64 a0] [.one .ptr, .one (.int .i64)] w K
theorem Hg {a0 w K K'} : qI a0 w K -> (∀ x0 x1 w, K x0 x1 w -> K' x0 x1 w) -> qI a0 w K' := ak.mono
def iw (a0 : Option Addr) (B0 B1 B2 B3 B4 B5 B6 : Int) (w : World) (K : Int -> World -> Prop) : Prop :=
 ak Tryz.prog 35 [.pointer a0, (.agg ⟨[.int .i64 B0, .int .i64 B1, .int .i64 B2, .int .i64 B3, .int .i64 B4, .int .i64 B5, .int .i64 B6]⟩)] [.one (.int .i64)] w K
theorem wF {a0 B0 B1 B2 B3 B4 B5 B6 w K K'} : iw a0 B0 B1 B2 B3 B4 B5 B6 w K -> (∀ x0 w, K x0 w -> K' x0 w) -> iw a0 B0 B1 B2 B3 B4 B5 B6 w K' := ak.mono
def qy (a0 : ah) (w : World) (K : Int -> Int -> Int -> Int -> Int -> Int -> Int -> Int -> Int -> Int -> Int -> Int -> Int -> Int -> Int -> Int -> World -> Prop) : Prop :=
 ak Tryz.prog 36 [.slice a0.a a0.len a0.cap] [.agg La] w K
theorem Bo {a0 w K K'} : qy a0 w K -> (∀ x0 x1 x2 x3 x4 x5 x6 x7 x8 x9 x10 x11 x12 x13 x14 x15 w, K x0 x1 x2 x3 x4 x5 x6 x7 x8 x9 x10 x11 x12 x13 x14 x15 w -> K' x0 x1 x2 x3 x4 x5 x6 x7 x8 x9 x10 x11 x12 x13 x14 x15 w) -> qy a0 w K' := ak.mono
def jJ (a0 : Option Addr) (w : World) (K : Int -> World -> Prop) : Prop :=
 ak Tryz.prog 37 [.pointer a0] [.one (.int .i64)] w K
theorem Fv {a0 w K K'} : jJ a0 w K -> (∀ x0 w, K x0 w -> K' x0 w) -> jJ a0 w K' := ak.mono
def dY (a0 : Option Addr) (a1 : Int) (w : World) (K : ah -> World -> Prop) : Prop :=
 ak Tryz.prog 38 [.pointer a0, .int .i64 a1] [.one .slice] w K
theorem qX {a0 a1 w K K'} : dY a0 a1 w K -> (∀ x0 w, K x0 w -> K' x0 w) -> dY a0 a1 w K' := ak.mono
def gq (a0 : Option Addr) (w : World) (K : Bool -> World -> Prop) : Prop :=
 ak Tryz.prog 39 [.pointer a0] [.one .bool] w K
theorem uo {a0 w K K'} : gq a0 w K -> (∀ x0 w, K x0 w -> K' x0 w) -> gq a0 w K' := ak.mono
def BR (a0 : ah) (w : World) (K : Int -> Int -> Int -> Int -> Int -> Int -> Int -> Int -> Int -> Int -> Int -> Int -> Int -> Int -> Int -> Int -> Int -> Int -> Int -> Int -> Int -> Int -> Int -> Int -> Int -> Int -> Int -> Int -> Int -> Int -> Int -> Int -> Int -> Int -> World -> Prop) : Prop :=
 ak Tryz.prog 40 [.slice a0.a a0.len a0.cap] [.agg SE, .one (.int .i64)] w K
def ru (a0 : Int) (w : World) (K : Int -> Int -> Int -> Int -> Int -> Int -> Int -> Int -> Int -> Int -> Int -> Int -> Int -> Int -> Int -> Int -> World -> Prop) : Prop :=
 ak Tryz.prog 41 [.int .i64 a0] [.agg La] w K
def rM (a0 : Option Addr) (B0 B1 B2 B3 C0 C1 C2 C3 C4 C5 C6 C7 C8 C9 C10 C11 C12 C13 C14 C15 C16 C17 C18 C19 C20 C21 C22 C23 C24 C25 C26 C27 C28 C29 C30 C31 C32 : Int) (w : World) (K : Int -> Int -> Int -> Int -> Int -> Int -> Int -> Int -> Int -> Int -> Int -> Int -> Int -> Int -> Int -> Int -> Int -> Int -> Int -> Int -> Int -> Int -> Int -> Int -> Int -> Int -> Int -> Int -> Int -> Int -> Int -> Int -> Int -> Int -> World -> Prop) : Prop :=
 ak Tryz.prog 42 [.pointer a0, (.agg ⟨[.int .i64 B0, .int .i64 B1, .int .i64 B2, .int .i64 B3]⟩), .agg ⟨dw C0 C1 C2 C3 C4 C5 C6 C7 C8 C9 C10 C11 C12 C13 C14 C15 C16 C17 C18 C19 C20 C21 C22 C23 C24 C25 C26 C27 C28 C29 C30 C31 C32⟩] [.one (.int .i64), .agg SE] w K
def n_ (A0 A1 A2 A3 A4 A5 A6 A7 A8 A9 A10 A11 A12 A13 A14 A15 A16 A17 A18 A19 A20 A21 A22 A23 A24 A25 A26 A27 A28 A29 A30 A31 A32 A33 A34 : Int) (w : World) (K : ah -> Int -> World -> Prop) : Prop :=
 ak Tryz.prog 43 [.agg ⟨AZ A0 A1 A2 A3 A4 A5 A6 A7 A8 A9 A10 A11 A12 A13 A14 A15 A16 A17 A18 A19 A20 A21 A22 A23 A24 A25 A26 A27 A28 A29 A30 A31 A32 A33 A34⟩] [.one .slice, .one (.int .i64)] w K
theorem Oj {A0 A1 A2 A3 A4 A5 A6 A7 A8 A9 A10 A11 A12 A13 A14 A15 A16 A17 A18 A19 A20 A21 A22 A23 A24 A25 A26 A27 A28 A29 A30 A31 A32 A33 A34 w K K'} : n_ A0 A1 A2 A3 A4 A5 A6 A7 A8 A9 A10 A11 A12 A13 A14 A15 A16 A17 A18 A19 A20 A21 A22 A23 A24 A25 A26 A27 A28 A29 A30 A31 A32 A33 A34 w K -> (∀ x0 x1 w, K x0 x1 w -> K' x0 x1 w) -> n_ A0 A1 A2 A3 A4 A5 A6 A7 A8 A9 A10 A11 A12 A13 A14 A15 A16 A17 A18 A19 A20 A21 A22 A23 A24 A25 A26 A27 A28 A29 A30 A31 A32 A33 A34 w K' := ak.mono
def uJ (A0 A1 A2 A3 A4 A5 A6 A7 A8 A9 A10 A11 A12 A13 A14 A15 A16 A17 A18 A19 A20 A21 A22 A23 A24 A25 A26 A27 A28 A29 A30 A31 A32 : Int) (w : World) (K : ah -> Int -> World -> Prop) : Prop :=
 ak Tryz.prog 44 [.agg ⟨dw A0 A1 A2 A3 A4 A5 A6 A7 A8 A9 A10 A11 A12 A13 A14 A15 A16 A17 A18 A19 A20 A21 A22 A23 A24 A25 A26 A27 A28 A29 A30 A31 A32⟩] [.one .slice, .one (.int .i64)] w K
theorem Qd {A0 A1 A2 A3 A4 A5 A6 A7 A8 A9 A10 A11 A12 A13 A14 A15 A16 A17 A18 A19 A20 A21 A22 A23 A24 A25 A26 A27 A28 A29 A30 A31 A32 w K K'} : uJ A0 A1 A2 A3 A4 A5 A6 A7 A8 A9 A10 A11 A12 A13 A14 A15 A16 A17 A18 A19 A20 A21 A22 A23 A24 A25 A26 A27 A28 A29 A30 A31 A32 w K -> (∀ x0 x1 w, K x0 x1 w -> K' x0 x1 w) -> uJ A0 A1 A2 A3 A4 A5 A6 A7 A8 A9 A10 A11 A12 A13 A14 A15 A16 A17 A18 A19 A20 A21 A22 A23 A24 A25 A26 A27 A28 A29 A30 A31 A32 w K' := ak.mono
def g_ (a0 : Option Addr) (a1 a2 : Int) (w : World) (K : Int -> World -> Prop) : Prop :=
 ak Tryz.prog 45 [.pointer a0, .int .i64 a1, .int .i64 a2] [.one (.int .i64)] w K
theorem ET {a0 a1 a2 w K K'} : g_ a0 a1 a2 w K -> (∀ x0 w, K x0 w -> K' x0 w) -> g_ a0 a1 a2 w K' := ak.mono
def gV (a0 a1 : Option Addr) (w : World) (K : World -> Prop) : Prop :=
 ak Tryz.prog 46 [.pointer a0, .pointer a1] [] w K
theorem uY {a0 a1 w K K'} : gV a0 a1 w K -> (∀ w, K w -> K' w) -> gV a0 a1 w K' := ak.mono
def dJ (a0 : Option Addr) (w : World) (K : Bool -> World -> Prop) : Prop :=
 ak Tryz.prog 47 [.pointer a0] [.one .bool] w K
theorem jD {a0 w K K'} : dJ a0 w K -> (∀ x0 w, K x0 w -> K' x0 w) -> dJ a0 w K' := ak.mono
def fK (a0 : Option Addr) (w : World) (K : Int -> World -> Prop) : Prop :=
 ak Tryz.prog 48 [.pointer a0] [.one (.int .i64)] w K
theorem vW {a0 w K K'} : fK a0 w K -> (∀ x0 w, K x0 w -> K' x0 w) -> fK a0 w K' := ak.mono
def xR (a0 : Option Addr) (w : World) (K : Value -> World -> Prop) : Prop :=
 ak Tryz.prog 49 [.pointer a0] [.one .any] w K
def oD (a0 : Option Addr) (w : World) (K : Value -> World -> Prop) : Prop :=
 ak Tryz.prog 50 [.pointer a0] [.one .any] w K
def zI (a0 : ah) (a1 : Int) (w : World) (K : Int -> Int -> Int -> Int -> Int -> Int -> Int -> Int -> Int -> Int -> Int -> Int -> Int -> Int -> Int -> Int -> Int -> Int -> Int -> Int -> Int -> Int -> Int -> Int -> Int -> Int -> Int -> Int -> Int -> Int -> Int -> Int -> Int -> Int -> World -> Prop) : Prop :=
 ak Tryz.prog 51 [.slice a0.a a0.len a0.cap, .int .u8 a1] [.agg SE, .one (.int .i64)] w K
def wQ (a0 : ah) (a1 a2 : Int) (w : World) (K : Int -> Int -> World -> Prop) : Prop :=
 ak Tryz.prog 52 [.slice a0.a a0.len a0.cap, .int .i64 a1, .int .i64 a2] [.one (.int .i64), .one (.int .i64)] w K
theorem IQ {a0 a1 a2 w K K'} : wQ a0 a1 a2 w K -> (∀ x0 x1 w, K x0 x1 w -> K' x0 x1 w) -> wQ a0 a1 a2 w K' := ak.mono
def o_ (A0 A1 A2 A3 A4 A5 A6 A7 A8 A9 A10 A11 A12 A13 A14 A15 : Int) (A16 A17 : ah) (A18 A19 A20 A21 A22 A23 A24 A25 A26 A27 A28 A29 A30 A31 A32 A33 A34 : Int) (A35 : ah) (w : World) (K : Bool -> World -> Prop) : Prop :=
 ak Tryz.prog 53 [.agg ⟨fG A0 A1 A2 A3 A4 A5 A6 A7 A8 A9 A10 A11 A12 A13 A14 A15 A16 A17 A18 A19 A20 A21 A22 A23 A24 A25 A26 A27 A28 A29 A30 A31 A32 A33 A34 A35⟩] [.one .bool] w K
theorem Nk {A0 A1 A2 A3 A4 A5 A6 A7 A8 A9 A10 A11 A12 A13 A14 A15 A16 A17 A18 A19 A20 A21 A22 A23 A24 A25 A26 A27 A28 A29 A30 A31 A32 A33 A34 A35 w K K'} : o_ A0 A1 A2 A3 A4 A5 A6 A7 A8 A9 A10 A11 A12 A13 A14 A15 A16 A17 A18 A19 A20 A21 A22 A23 A24 A25 A26 A27 A28 A29 A30 A31 A32 A33 A34 A35 w K -> (∀ x0 w, K x0 w -> K' x0 w) -> o_ A0 A1 A2 A3 A4 A5 A6 A7 A8 A9 A10 A11 A12 A13 A14 A15 A16 A17 A18 A19 A20 A21 A22 A23 A24 A25 A26 A27 A28 A29 A30 A31 A32 A33 A34 A35 w K' := ak.mono
def qh (A0 A1 A2 A3 A4 A5 A6 A7 A8 A9 A10 A11 A12 A13 A14 A15 : Int) (A16 A17 : ah) (A18 A19 A20 A21 A22 A23 A24 A25 A26 A27 A28 A29 A30 A31 A32 A33 A34 : Int) (A35 : ah) (w : World) (K : Int -> World -> Prop) : Prop :=
 ak Tryz.prog 54 [.agg ⟨fG A0 A1 A2 A3 A4 A5 A6 A7 A8 A9 A10 A11 A12 A13 A14 A15 A16 A17 A18 A19 A20 A21 A22 A23 A24 A25 A26 A27 A28 A29 A30 A31 A32 A33 A34 A35⟩] [.one (.int .i64)] w K
theorem Nz {A0 A1 A2 A3 A4 A5 A6 A7 A8 A9 A10 A11 A12 A13 A14 A15 A16 A17 A18 A19 A20 A21 A22 A23 A24 A25 A26 A27 A28 A29 A30 A31 A32 A33 A34 A35 w K K'} : qh A0 A1 A2 A3 A4 A5 A6 A7 A8 A9 A10 A11 A12 A13 A14 A15 A16 A17 A18 A19 A20 A21 A22 A23 A24 A25 A26 A27 A28 A29 A30 A31 A32 A33 A34 A35 w K -> (∀ x0 w, K x0 w -> K' x0 w) -> qh A0 A1 A2 A3 A4 A5 A6 A7 A8 A9 A10 A11 A12 A13 A14 A15 A16 A17 A18 A19 A20 A21 A22 A23 A24 A25 A26 A27 A28 A29 A30 A31 A32 A33 A34 A35 w K' := ak.mono
def gJ (a0 : Option Addr) (a1 : Int) (w : World) (K : World -> Prop) : Prop :=
 ak Tryz.prog 71 [.pointer a0, .int .i64 a1] [] w K
theorem zO {a0 a1 w K K'} : gJ a0 a1 w K -> (∀ w, K w -> K' w) -> gJ a0 a1 w K' := ak.mono
def iH (a0 : Option Addr) (a1 : Int) (w : World) (K : World -> Prop) : Prop :=
 ak Tryz.prog 76 [.pointer a0, .int .i64 a1] [] w K
theorem Bd {a0 a1 w K K'} : iH a0 a1 w K -> (∀ w, K w -> K' w) -> iH a0 a1 w K' := ak.mono
def lg (A0 A1 A2 A3 A4 A5 A6 A7 A8 A9 A10 A11 A12 A13 A14 A15 : Int) (A16 A17 : ah) (A18 A19 A20 A21 A22 A23 A24 A25 A26 A27 A28 A29 A30 A31 A32 A33 A34 : Int) (A35 : ah) (w : World) (K : ah -> World -> Prop) : Prop :=
 ak Tryz.prog 79 [.agg ⟨fG A0 A1 A2 A3 A4 A5 A6 A7 A8 A9 A10 A11 A12 A13 A14 A15 A16 A17 A18 A19 A20 A21 A22 A23 A24 A25 A26 A27 A28 A29 A30 A31 A32 A33 A34 A35⟩] [.one .slice] w K
theorem Ip {A0 A1 A2 A3 A4 A5 A6 A7 A8 A9 A10 A11 A12 A13 A14 A15 A16 A17 A18 A19 A20 A21 A22 A23 A24 A25 A26 A27 A28 A29 A30 A31 A32 A33 A34 A35 w K K'} : lg A0 A1 A2 A3 A4 A5 A6 A7 A8 A9 A10 A11 A12 A13 A14 A15 A16 A17 A18 A19 A20 A21 A22 A23 A24 A25 A26 A27 A28 A29 A30 A31 A32 A33 A34 A35 w K -> (∀ x0 w, K x0 w -> K' x0 w) -> lg A0 A1 A2 A3 A4 A5 A6 A7 A8 A9 A10 A11 A12 A13 A14 A15 A16 A17 A18 A19 A20 A21 A22 A23 A24 A25 A26 A27 A28 A29 A30 A31 A32 A33 A34 A35 w K' := ak.mono
def dM (A0 A1 A2 : Int) (w : World) (K : Bool -> World -> Prop) : Prop :=
 ak Tryz.prog 80 [(.agg ⟨[.int .i64 A0, .int .i64 A1, .int .i64 A2]⟩)] [.one .bool] w K
theorem iY {A0 A1 A2 w K K'} : dM A0 A1 A2 w K -> (∀ x0 w, K x0 w -> K' x0 w) -> dM A0 A1 A2 w K' := ak.mono
def nG (a0 : Int) (w : World) (K : Bool -> World -> Prop) : Prop :=
 ak Tryz.prog 81 [.int .i64 a0] [.one .bool] w K
theorem JC {a0 w K K'} : nG a0 w K -> (∀ x0 w, K x0 w -> K' x0 w) -> nG a0 w K' := ak.mono
def nH (A0 A1 A2 A3 A4 A5 A6 A7 A8 A9 A10 A11 A12 A13 A14 A15 : Int) (A16 A17 : ah) (A18 A19 A20 A21 A22 A23 A24 A25 A26 A27 A28 A29 A30 A31 A32 A33 A34 : Int) (A35 : ah) (w : World) (K : Bool -> World -> Prop) : Prop :=
 ak Tryz.prog 82 [.agg ⟨fG A0 A1 A2 A3 A4 A5 A6 A7 A8 A9 A10 A11 A12 A13 A14 A15 A16 A17 A18 A19 A20 A21 A22 A23 A24 A25 A26 A27 A28 A29 A30 A31 A32 A33 A34 A35⟩] [.one .bool] w K
theorem JH {A0 A1 A2 A3 A4 A5 A6 A7 A8 A9 A10 A11 A12 A13 A14 A15 A16 A17 A18 A19 A20 A21 A22 A23 A24 A25 A26 A27 A28 A29 A30 A31 A32 A33 A34 A35 w K K'} : nH A0 A1 A2 A3 A4 A5 A6 A7 A8 A9 A10 A11 A12 A13 A14 A15 A16 A17 A18 A19 A20 A21 A22 A23 A24 A25 A26 A27 A28 A29 A30 A31 A32 A33 A34 A35 w K -> (∀ x0 w, K x0 w -> K' x0 w) -> nH A0 A1 A2 A3 A4 A5 A6 A7 A8 A9 A10 A11 A12 A13 A14 A15 A16 A17 A18 A19 A20 A21 A22 A23 A24 A25 A26 A27 A28 A29 A30 A31 A32 A33 A34 A35 w K' := ak.mono
def j_ (A0 A1 A2 A3 A4 A5 A6 A7 A8 A9 A10 A11 A12 A13 A14 A15 : Int) (A16 A17 : ah) (A18 A19 A20 A21 A22 A23 A24 A25 A26 A27 A28 A29 A30 A31 A32 A33 A34 : Int) (A35 : ah) (w : World) (K : Bool -> World -> Prop) : Prop :=
 ak Tryz.prog 83 [.agg ⟨fG A0 A1 A2 A3 A4 A5 A6 A7 A8 A9 A10 A11 A12 A13 A14 A15 A16 A17 A18 A19 A20 A21 A22 A23 A24 A25 A26 A27 A28 A29 A30 A31 A32 A33 A34 A35⟩] [.one .bool] w K
theorem Hz {A0 A1 A2 A3 A4 A5 A6 A7 A8 A9 A10 A11 A12 A13 A14 A15 A16 A17 A18 A19 A20 A21 A22 A23 A24 A25 A26 A27 A28 A29 A30 A31 A32 A33 A34 A35 w K K'} : j_ A0 A1 A2 A3 A4 A5 A6 A7 A8 A9 A10 A11 A12 A13 A14 A15 A16 A17 A18 A19 A20 A21 A22 A23 A24 A25 A26 A27 A28 A29 A30 A31 A32 A33 A34 A35 w K -> (∀ x0 w, K x0 w -> K' x0 w) -> j_ A0 A1 A2 A3 A4 A5 A6 A7 A8 A9 A10 A11 A12 A13 A14 A15 A16 A17 A18 A19 A20 A21 A22 A23 A24 A25 A26 A27 A28 A29 A30 A31 A32 A33 A34 A35 w K' := ak.mono
def jH (a0 : Int) (w : World) (K : Bool -> World -> Prop) : Prop :=
 ak Tryz.prog 84 [.int .i64 a0] [.one .bool] w K
theorem rJ {a0 w K K'} : jH a0 w K -> (∀ x0 w, K x0 w -> K' x0 w) -> jH a0 w K' := ak.mono
def bJ (a0 : ah) (a1 : Int) (w : World) (K : Bool -> World -> Prop) : Prop :=
 ak Tryz.prog 85 [.slice a0.a a0.len a0.cap, .int .i64 a1] [.one .bool] w K
theorem fP {a0 a1 w K K'} : bJ a0 a1 w K -> (∀ x0 w, K x0 w -> K' x0 w) -> bJ a0 a1 w K' := ak.mono
def dR (a0 : ah) (w : World) (K : ah -> World -> Prop) : Prop :=
 ak Tryz.prog 86 [.slice a0.a a0.len a0.cap] [.one .slice] w K
theorem qO {a0 w K K'} : dR a0 w K -> (∀ x0 w, K x0 w -> K' x0 w) -> dR a0 w K' := ak.mono
def qF (a0 : Int) (w : World) (K : (Option Addr) -> Int -> World -> Prop) : Prop :=
 ak Tryz.prog 87 [.int .i64 a0] [.one .ptr, .one (.int .i64)] w K
theorem BJ {a0 w K K'} : qF a0 w K -> (∀ x0 x1 w, K x0 x1 w -> K' x0 x1 w) -> qF a0 w K' := ak.mono
def jE (a0 : Option Addr) (B0 B1 B2 B3 B4 B5 B6 : Int) (w : World) (K : Bool -> World -> Prop) : Prop :=
 ak Tryz.prog 88 [.pointer a0, (.agg ⟨[.int .i64 B0, .int .i64 B1, .int .i64 B2, .int .i64 B3, .int .i64 B4, .int .i64 B5, .int .i64 B6]⟩)] [.one .bool] w K
theorem FH {a0 B0 B1 B2 B3 B4 B5 B6 w K K'} : jE a0 B0 B1 B2 B3 B4 B5 B6 w K -> (∀ x0 w, K x0 w -> K' x0 w) -> jE a0 B0 B1 B2 B3 B4 B5 B6 w K' := ak.mono
def jg (a0 : Option Addr) (B0 B1 B2 B3 : Int) (w : World) (K : Int -> Bool -> World -> Prop) : Prop :=
 ak Tryz.prog 89 [.pointer a0, (.agg ⟨[.int .i64 B0, .int .i64 B1, .int .i64 B2, .int .i64 B3]⟩)] [.one (.int .i64), .one .bool] w K
theorem uS {a0 B0 B1 B2 B3 w K K'} : jg a0 B0 B1 B2 B3 w K -> (∀ x0 x1 w, K x0 x1 w -> K' x0 x1 w) -> jg a0 B0 B1 B2 B3 w K' := ak.mono
def kC (a0 : Option Addr) (B0 B1 B2 : Int) (w : World) (K : Int -> Bool -> World -> Prop) : Prop :=
 ak Tryz.prog 90 [.pointer a0, (.agg ⟨[.int .i64 B0, .int .i64 B1, .int .i64 B2]⟩)] [.one (.int .i64), .one .bool] w K
theorem Ak {a0 B0 B1 B2 w K K'} : kC a0 B0 B1 B2 w K -> (∀ x0 x1 w, K x0 x1 w -> K' x0 x1 w) -> kC a0 B0 B1 B2 w K' := ak.mono
def iK (a0 : Option Addr) (a1 : Int) (w : World) (K : Int -> World -> Prop) : Prop :=
 ak Tryz.prog 91 [.pointer a0, .int .i64 a1] [.one (.int .i64)] w K
theorem BH {a0 a1 w K K'} : iK a0 a1 w K -> (∀ x0 w, K x0 w -> K' x0 w) -> iK a0 a1 w K' := ak.mono
def iV (a0 : Option Addr) (w : World) (K : Bool -> World -> Prop) : Prop :=
 ak Tryz.prog 92 [.pointer a0] [.one .bool] w K
theorem Ec {a0 w K K'} : iV a0 w K -> (∀ x0 w, K x0 w -> K' x0 w) -> iV a0 w K' := ak.mono
def jh (a0 : Option Addr) (a1 : Int) (w : World) (K : Int -> World -> Prop) : Prop :=
 ak Tryz.prog 93 [.pointer a0, .int .i64 a1] [.one (.int .i64)] w K
theorem DV {a0 a1 w K K'} : jh a0 a1 w K -> (∀ x0 w, K x0 w -> K' x0 w) -> jh a0 a1 w K' := ak.mono
def jP (a0 : Option Addr) (B0 B1 B2 : Int) (w : World) (K : Int -> World -> Prop) : Prop :=
 ak Tryz.prog 94 [.pointer a0, (.agg ⟨[.int .i64 B0, .int .i64 B1, .int .i64 B2]⟩)] [.one (.int .i64)] w K
theorem G6 {a0 B0 B1 B2 w K K'} : jP a0 B0 B1 B2 w K -> (∀ x0 w, K x0 w -> K' x0 w) -> jP a0 B0 B1 B2 w K' := ak.mono
def pJ (a0 : Option Addr) (B0 B1 B2 B3 B4 B5 B6 : Int) (B7 : Bool) (w : World) (K : Int -> Int -> World -> Prop) : Prop :=
 ak Tryz.prog 95 [.pointer a0, (.agg ⟨[.int .i64 B0, .int .i64 B1, .int .i64 B2, .int .i64 B3, .int .i64 B4, .int .i64 B5, .int .i64 B6, .bool B7]⟩)] [.one (.int .i64), .one (.int .i64)] w K
theorem Lh {a0 B0 B1 B2 B3 B4 B5 B6 B7 w K K'} : pJ a0 B0 B1 B2 B3 B4 B5 B6 B7 w K -> (∀ x0 x1 w, K x0 x1 w -> K' x0 x1 w) -> pJ a0 B0 B1 B2 B3 B4 B5 B6 B7 w K' := ak.mono
def dL (a0 : Option Addr) (w : World) (K : Bool -> World -> Prop) : Prop :=
 ak Tryz.prog 96 [.pointer a0] [.one .bool] w K
theorem gZ {a0 w K K'} : dL a0 w K -> (∀ x0 w, K x0 w -> K' x0 w) -> dL a0 w K' := ak.mono
def jf (a0 : Option Addr) (w : World) (K : Int -> Bool -> World -> Prop) : Prop :=
 ak Tryz.prog 97 [.pointer a0] [.one (.int .i64), .one .bool] w K
theorem DK {a0 w K K'} : jf a0 w K -> (∀ x0 x1 w, K x0 x1 w -> K' x0 x1 w) -> jf a0 w K' := ak.mono
def fF (a0 : Option Addr) (a1 : Int) (w : World) (K : World -> Prop) : Prop :=
 ak Tryz.prog 98 [.pointer a0, .int .i64 a1] [] w K
theorem r_ {a0 a1 w K K'} : fF a0 a1 w K -> (∀ w, K w -> K' w) -> fF a0 a1 w K' := ak.mono
def jB (a0 : Option Addr) (w : World) (K : ah -> World -> Prop) : Prop :=
 ak Tryz.prog 99 [.pointer a0] [.one .slice] w K
theorem Fh {a0 w K K'} : jB a0 w K -> (∀ x0 w, K x0 w -> K' x0 w) -> jB a0 w K' := ak.mono
def vH  (w : World) (K : Int -> Int -> Int -> Int -> Int -> Int -> Int -> Int -> Int -> Int -> Int -> Int -> Int -> Int -> Int -> Int -> World -> Prop) : Prop :=
 ak Tryz.prog 100 [] [.agg La] w K
def uh (a0 : ah) (a1 a2 : Int) (w : World) (K : ah -> World -> Prop) : Prop :=
 ak Tryz.prog 101 [.slice a0.a a0.len a0.cap, .int .i64 a1, .int .i64 a2] [.one .slice] w K
theorem Du {a0 a1 a2 w K K'} : uh a0 a1 a2 w K -> (∀ x0 w, K x0 w -> K' x0 w) -> uh a0 a1 a2 w K' := ak.mono
def oZ (a0 a1 : Option Addr) (C0 C1 C2 D0 D1 D2 D3 D4 D5 D6 D7 D8 D9 D10 D11 D12 D13 D14 D15 D16 D17 D18 D19 D20 D21 D22 D23 D24 D25 D26 D27 D28 D29 D30 D31 D32 : Int) (w : World) (K : Int -> Int -> Int -> Int -> Int -> Int -> Int -> Int -> Int -> Int -> Int -> Int -> Int -> Int -> Int -> Int -> Int -> Int -> Int -> Int -> Int -> Int -> Int -> Int -> Int -> Int -> Int -> Int -> Int -> Int -> Int -> Int -> Int -> Int -> World -> Prop) : Prop :=
 ak Tryz.prog 102 [.pointer a0, .pointer a1, (.agg ⟨[.int .i64 C0, .int .i64 C1, .int .i64 C2]⟩), .agg ⟨dw D0 D1 D2 D3 D4 D5 D6 D7 D8 D9 D10 D11 D12 D13 D14 D15 D16 D17 D18 D19 D20 D21 D22 D23 D24 D25 D26 D27 D28 D29 D30 D31 D32⟩] [.one (.int .i64), .agg SE] w K
def oW (a0 : Option Addr) (B0 B1 B2 B3 C0 C1 C2 D0 D1 D2 D3 D4 D5 D6 D7 D8 D9 D10 D11 D12 D13 D14 D15 D16 D17 D18 D19 D20 D21 D22 D23 D24 D25 D26 D27 D28 D29 D30 D31 D32 : Int) (w : World) (K : Int -> Int -> Int -> Int -> Int -> Int -> Int -> Int -> Int -> Int -> Int -> Int -> Int -> Int -> Int -> Int -> Int -> Int -> Int -> Int -> Int -> Int -> Int -> Int -> Int -> Int -> Int -> Int -> Int -> Int -> Int -> Int -> Int -> Int -> World -> Prop) : Prop :=
 ak Tryz.prog 103 [.pointer a0, (.agg ⟨[.int .i64 B0, .int .i64 B1, .int .i64 B2, .int .i64 B3]⟩), (.agg ⟨[.int .i64 C0, .int .i64 C1, .int .i64 C2]⟩), .agg ⟨dw D0 D1 D2 D3 D4 D5 D6 D7 D8 D9 D10 D11 D12 D13 D14 D15 D16 D17 D18 D19 D20 D21 D22 D23 D24 D25 D26 D27 D28 D29 D30 D31 D32⟩] [.one (.int .i64), .agg SE] w K
def lM (A0 A1 A2 A3 A4 A5 A6 A7 A8 A9 A10 A11 A12 A13 A14 A15 A16 A17 A18 A19 A20 A21 A22 A23 A24 A25 A26 A27 A28 A29 A30 A31 A32 : Int) (w : World) (K : Bool -> World -> Prop) : Prop :=
 ak Tryz.prog 104 [.agg ⟨dw A0 A1 A2 A3 A4 A5 A6 A7 A8 A9 A10 A11 A12 A13 A14 A15 A16 A17 A18 A19 A20 A21 A22 A23 A24 A25 A26 A27 A28 A29 A30 A31 A32⟩] [.one .bool] w K
theorem Ci {A0 A1 A2 A3 A4 A5 A6 A7 A8 A9 A10 A11 A12 A13 A14 A15 A16 A17 A18 A19 A20 A21 A22 A23 A24 A25 A26 A27 A28 A29 A30 A31 A32 w K K'} : lM A0 A1 A2 A3 A4 A5 A6 A7 A8 A9 A10 A11 A12 A13 A14 A15 A16 A17 A18 A19 A20 A21 A22 A23 A24 A25 A26 A27 A28 A29 A30 A31 A32 w K -> (∀ x0 w, K x0 w -> K' x0 w) -> lM A0 A1 A2 A3 A4 A5 A6 A7 A8 A9 A10 A11 A12 A13 A14 A15 A16 A17 A18 A19 A20 A21 A22 A23 A24 A25 A26 A27 A28 A29 A30 A31 A32 w K' := ak.mono
def vP (a0 : ah) (w : World) (K : Bool -> World -> Prop) : Prop :=
 ak Tryz.prog 105 [.slice a0.a a0.len a0.cap] [.one .bool] w K
theorem KC {a0 w K K'} : vP a0 w K -> (∀ x0 w, K x0 w -> K' x0 w) -> vP a0 w K' := ak.mono
def og (a0 a1 : ah) (w : World) (K : ah -> World -> Prop) : Prop :=
 ak Tryz.prog 106 [.slice a0.a a0.len a0.cap, .slice a1.a a1.len a1.cap] [.one .slice] w K
theorem wL {a0 a1 w K K'} : og a0 a1 w K -> (∀ x0 w, K x0 w -> K' x0 w) -> og a0 a1 w K' := ak.mono
def jR (A0 A1 A2 A3 A4 A5 A6 A7 A8 A9 A10 A11 A12 A13 A14 A15 A16 A17 A18 A19 A20 A21 A22 A23 A24 A25 A26 A27 A28 A29 A30 A31 A32 : Int) (a1 : ah) (w : World) (K : ah -> World -> Prop) : Prop :=
 ak Tryz.prog 107 [.agg ⟨dw A0 A1 A2 A3 A4 A5 A6 A7 A8 A9 A10 A11 A12 A13 A14 A15 A16 A17 A18 A19 A20 A21 A22 A23 A24 A25 A26 A27 A28 A29 A30 A31 A32⟩, .slice a1.a a1.len a1.cap] [.one .slice] w K
theorem Ap {A0 A1 A2 A3 A4 A5 A6 A7 A8 A9 A10 A11 A12 A13 A14 A15 A16 A17 A18 A19 A20 A21 A22 A23 A24 A25 A26 A27 A28 A29 A30 A31 A32 a1 w K K'} : jR A0 A1 A2 A3 A4 A5 A6 A7 A8 A9 A10 A11 A12 A13 A14 A15 A16 A17 A18 A19 A20 A21 A22 A23 A24 A25 A26 A27 A28 A29 A30 A31 A32 a1 w K -> (∀ x0 w, K x0 w -> K' x0 w) -> jR A0 A1 A2 A3 A4 A5 A6 A7 A8 A9 A10 A11 A12 A13 A14 A15 A16 A17 A18 A19 A20 A21 A22 A23 A24 A25 A26 A27 A28 A29 A30 A31 A32 a1 w K' := ak.mono
def gK (a0 : Option Addr) (B0 B1 B2 : Int) (w : World) (K : World -> Prop) : Prop :=
 ak Tryz.prog 108 [.pointer a0, (.agg ⟨[.int .i64 B0, .int .i64 B1, .int .i64 B2]⟩)] [] w K
theorem uV {a0 B0 B1 B2 w K K'} : gK a0 B0 B1 B2 w K -> (∀ w, K w -> K' w) -> gK a0 B0 B1 B2 w K' := ak.mono
def iq (a0 : Option Addr) (B0 B1 B2 : Int) (w : World) (K : World -> Prop) : Prop :=
 ak Tryz.prog 109 [.pointer a0, (.agg ⟨[.int .i64 B0, .int .i64 B1, .int .i64 B2]⟩)] [] w K
theorem wO {a0 B0 B1 B2 w K K'} : iq a0 B0 B1 B2 w K -> (∀ w, K w -> K' w) -> iq a0 B0 B1 B2 w K' := ak.mono
def iI (a0 : Option Addr) (B0 B1 B2 B3 : Int) (w : World) (K : Int -> World -> Prop) : Prop :=
 ak Tryz.prog 110 [.pointer a0, (.agg ⟨[.int .i64 B0, .int .i64 B1, .int .i64 B2, .int .i64 B3]⟩)] [.one (.int .i64)] w K
theorem CY {a0 B0 B1 B2 B3 w K K'} : iI a0 B0 B1 B2 B3 w K -> (∀ x0 w, K x0 w -> K' x0 w) -> iI a0 B0 B1 B2 B3 w K' := ak.mono
def fE (a0 : Option Addr) (a1 : Int) (w : World) (K : Bool -> World -> Prop) : Prop :=
 ak Tryz.prog 111 [.pointer a0, .int .i64 a1] [.one .bool] w K
theorem rY {a0 a1 w K K'} : fE a0 a1 w K -> (∀ x0 w, K x0 w -> K' x0 w) -> fE a0 a1 w K' := ak.mono
abbrev Ah : FuncId := 112
def JQ (a0 : Value) (f0 : Addr) (w : World) (K : World -> Prop) : Prop :=
 ak Tryz.prog 112 [a0, (.pointer (some f0))] [] w K
def dQ (a0 : Option Addr) (w : World) (K : Bool -> World -> Prop) : Prop :=
 ak Tryz.prog 113 [.pointer a0] [.one .bool] w K
theorem iO {a0 w K K'} : dQ a0 w K -> (∀ x0 w, K x0 w -> K' x0 w) -> dQ a0 w K' := ak.mono
abbrev rX : FuncId := 114
def Az (a0 : Value) (f0 : Addr) (w : World) (K : World -> Prop) : Prop :=
 ak Tryz.prog 114 [a0, (.pointer (some f0))] [] w K
def dZ (a0 : Option Addr) (w : World) (K : Bool -> World -> Prop) : Prop :=
 ak Tryz.prog 115 [.pointer a0] [.one .bool] w K
theorem rC {a0 w K K'} : dZ a0 w K -> (∀ x0 w, K x0 w -> K' x0 w) -> dZ a0 w K' := ak.mono
def BN (A0 A1 A2 A3 A4 A5 A6 A7 A8 A9 A10 A11 A12 A13 A14 A15 : Int) (w : World) (K : Int -> Bool -> World -> Prop) : Prop :=
 ak Tryz.prog 116 [.agg ⟨dF A0 A1 A2 A3 A4 A5 A6 A7 A8 A9 A10 A11 A12 A13 A14 A15⟩] [.one (.int .i64), .one .bool] w K
abbrev PY : FuncId := 117
def O8 (a0 a1 : Int) (f0 : Addr) (w : World) (K : Int -> World -> Prop) : Prop :=
 ak Tryz.prog 117 [.int .i64 a0, .int .i64 a1, (.pointer (some f0))] [.one (.int .i64)] w K
def uN (a0 : ah) (a1 a2 : Int) (w : World) (K : ah -> Int -> World -> Prop) : Prop :=
 ak Tryz.prog 118 [.slice a0.a a0.len a0.cap, .int .i64 a1, .int .i64 a2] [.one .slice, .one (.int .i64)] w K
theorem O_ {a0 a1 a2 w K K'} : uN a0 a1 a2 w K -> (∀ x0 x1 w, K x0 x1 w -> K' x0 x1 w) -> uN a0 a1 a2 w K' := ak.mono
def kZ (A0 A1 A2 A3 A4 A5 A6 A7 A8 A9 A10 A11 A12 A13 A14 A15 : Int) (A16 A17 : ah) (A18 A19 A20 A21 A22 A23 A24 A25 A26 A27 A28 A29 A30 A31 A32 A33 A34 : Int) (A35 : ah) (w : World) (K : Bool -> World -> Prop) : Prop :=
 ak Tryz.prog 119 [.agg ⟨fG A0 A1 A2 A3 A4 A5 A6 A7 A8 A9 A10 A11 A12 A13 A14 A15 A16 A17 A18 A19 A20 A21 A22 A23 A24 A25 A26 A27 A28 A29 A30 A31 A32 A33 A34 A35⟩] [.one .bool] w K
theorem IL {A0 A1 A2 A3 A4 A5 A6 A7 A8 A9 A10 A11 A12 A13 A14 A15 A16 A17 A18 A19 A20 A21 A22 A23 A24 A25 A26 A27 A28 A29 A30 A31 A32 A33 A34 A35 w K K'} : kZ A0 A1 A2 A3 A4 A5 A6 A7 A8 A9 A10 A11 A12 A13 A14 A15 A16 A17 A18 A19 A20 A21 A22 A23 A24 A25 A26 A27 A28 A29 A30 A31 A32 A33 A34 A35 w K -> (∀ x0 w, K x0 w -> K' x0 w) -> kZ A0 A1 A2 A3 A4 A5 A6 A7 A8 A9 A10 A11 A12 A13 A14 A15 A16 A17 A18 A19 A20 A21 A22 A23 A24 A25 A26 A27 A28 A29 A30 A31 A32 A33 A34 A35 w K' := ak.mono
def pI (A0 A1 A2 A3 A4 A5 A6 A7 A8 A9 A10 A11 A12 A13 A14 A15 : Int) (A16 A17 : ah) (A18 A19 A20 A21 A22 A23 A24 A25 A26 A27 A28 A29 A30 A31 A32 A33 A34 : Int) (A35 : ah) (w : World) (K : Bool -> World -> Prop) : Prop :=
 ak Tryz.prog 120 [.agg ⟨fG A0 A1 A2 A3 A4 A5 A6 A7 A8 A9 A10 A11 A12 A13 A14 A15 A16 A17 A18 A19 A20 A21 A22 A23 A24 A25 A26 A27 A28 A29 A30 A31 A32 A33 A34 A35⟩] [.one .bool] w K
theorem KD {A0 A1 A2 A3 A4 A5 A6 A7 A8 A9 A10 A11 A12 A13 A14 A15 A16 A17 A18 A19 A20 A21 A22 A23 A24 A25 A26 A27 A28 A29 A30 A31 A32 A33 A34 A35 w K K'} : pI A0 A1 A2 A3 A4 A5 A6 A7 A8 A9 A10 A11 A12 A13 A14 A15 A16 A17 A18 A19 A20 A21 A22 A23 A24 A25 A26 A27 A28 A29 A30 A31 A32 A33 A34 A35 w K -> (∀ x0 w, K x0 w -> K' x0 w) -> pI A0 A1 A2 A3 A4 A5 A6 A7 A8 A9 A10 A11 A12 A13 A14 A15 A16 A17 A18 A19 A20 A21 A22 A23 A24 A25 A26 A27 A28 A29 A30 A31 A32 A33 A34 A35 w K' := ak.mono
def pO (A0 A1 A2 A3 A4 A5 A6 A7 A8 A9 A10 A11 A12 A13 A14 A15 : Int) (A16 A17 : ah) (A18 A19 A20 A21 A22 A23 A24 A25 A26 A27 A28 A29 A30 A31 A32 A33 A34 : Int) (A35 : ah) (w : World) (K : Bool -> World -> Prop) : Prop :=
 ak Tryz.prog 121 [.agg ⟨fG A0 A1 A2 A3 A4 A5 A6 A7 A8 A9 A10 A11 A12 A13 A14 A15 A16 A17 A18 A19 A20 A21 A22 A23 A24 A25 A26 A27 A28 A29 A30 A31 A32 A33 A34 A35⟩] [.one .bool] w K
theorem LG {A0 A1 A2 A3 A4 A5 A6 A7 A8 A9 A10 A11 A12 A13 A14 A15 A16 A17 A18 A19 A20 A21 A22 A23 A24 A25 A26 A27 A28 A29 A30 A31 A32 A33 A34 A35 w K K'} : pO A0 A1 A2 A3 A4 A5 A6 A7 A8 A9 A10 A11 A12 A13 A14 A15 A16 A17 A18 A19 A20 A21 A22 A23 A24 A25 A26 A27 A28 A29 A30 A31 A32 A33 A34 A35 w K -> (∀ x0 w, K x0 w -> K' x0 w) -> pO A0 A1 A2 A3 A4 A5 A6 A7 A8 A9 A10 A11 A12 A13 A14 A15 A16 A17 A18 A19 A20 A21 A22 A23 A24 A25 A26 A27 A28 A29 A30 A31 A32 A33 A34 A35 w K' := ak.mono
def dG (a0 : ah) (a1 a2 a3 : Int) (a4 : Value) (w : World) (K : World -> Prop) : Prop :=
 ak Tryz.prog 122 [.slice a0.a a0.len a0.cap, .int .i64 a1, .int .i64 a2, .int .i64 a3, a4] [] w K
def jA (a0 : Int) (w : World) (K : Int -> World -> Prop) : Prop :=
 ak Tryz.prog 123 [.int .u64 a0] [.one (.int .i64)] w K
theorem IE {a0 w K K'} : jA a0 w K -> (∀ x0 w, K x0 w -> K' x0 w) -> jA a0 w K' := ak.mono
def ig (a0 a1 : Int) (w : World) (K : Int -> World -> Prop) : Prop :=
 ak Tryz.prog 125 [.int .i64 a0, .int .i64 a1] [.one (.int .i64)] w K
theorem wB {a0 a1 w K K'} : ig a0 a1 w K -> (∀ x0 w, K x0 w -> K' x0 w) -> ig a0 a1 w K' := ak.mono
def nR (a0 : Int) (w : World) (K : Bool -> World -> Prop) : Prop :=
 ak Tryz.prog 126 [.int .i64 a0] [.one .bool] w K
theorem Ez {a0 w K K'} : nR a0 w K -> (∀ x0 w, K x0 w -> K' x0 w) -> nR a0 w K' := ak.mono
def gu (a0 : Option Addr) (a1 : ByteArray) (w : World) (K : Bool -> World -> Prop) : Prop :=
 ak Tryz.prog 144 [.pointer a0, .string a1] [.one .bool] w K
theorem uj {a0 a1 w K K'} : gu a0 a1 w K -> (∀ x0 w, K x0 w -> K' x0 w) -> gu a0 a1 w K' := ak.mono
def lS (a0 : Option Addr) (a1 : Int) (w : World) (K : Int -> Int -> Int -> Int -> Int -> Int -> Int -> Bool -> Bool -> World -> Prop) : Prop :=
 ak Tryz.prog 148 [.pointer a0, .int .i64 a1] [.agg [(.int .i64), (.int .i64), (.int .i64), (.int .i64), (.int .i64), (.int .i64), (.int .i64), .bool], .one .bool] w K
theorem BP {a0 a1 w K K'} : lS a0 a1 w K -> (∀ x0 x1 x2 x3 x4 x5 x6 x7 x8 w, K x0 x1 x2 x3 x4 x5 x6 x7 x8 w -> K' x0 x1 x2 x3 x4 x5 x6 x7 x8 w) -> lS a0 a1 w K' := ak.mono
def iZ (a0 : Option Addr) (a1 : Int) (w : World) (K : Value -> World -> Prop) : Prop :=
 ak Tryz.prog 149 [.pointer a0, .int .i64 a1] [.one .any] w K
theorem En {a0 a1 w K K'} : iZ a0 a1 w K -> (∀ x0 w, K x0 w -> K' x0 w) -> iZ a0 a1 w K' := ak.mono
def jX (a0 : Option Addr) (a1 : Int) (w : World) (K : Bool -> World -> Prop) : Prop :=
 ak Tryz.prog 150 [.pointer a0, .int .i64 a1] [.one .bool] w K
theorem GL {a0 a1 w K K'} : jX a0 a1 w K -> (∀ x0 w, K x0 w -> K' x0 w) -> jX a0 a1 w K' := ak.mono
def jS (a0 : Option Addr) (B0 B1 B2 : Int) (w : World) (K : Bool -> World -> Prop) : Prop :=
 ak Tryz.prog 151 [.pointer a0, (.agg ⟨[.int .i64 B0, .int .i64 B1, .int .i64 B2]⟩)] [.one .bool] w K
theorem Gl {a0 B0 B1 B2 w K K'} : jS a0 B0 B1 B2 w K -> (∀ x0 w, K x0 w -> K' x0 w) -> jS a0 B0 B1 B2 w K' := ak.mono
def iW (a0 : Option Addr) (a1 : Int) (w : World) (K : Int -> World -> Prop) : Prop :=
 ak Tryz.prog 152 [.pointer a0, .int .i64 a1] [.one (.int .i64)] w K
theorem Ey {a0 a1 w K K'} : iW a0 a1 w K -> (∀ x0 w, K x0 w -> K' x0 w) -> iW a0 a1 w K' := ak.mono
def CB (a0 : Option Addr) (a1 : Int) (w : World) (K : World -> Prop) : Prop :=
 ak Tryz.prog 158 [.pointer a0, .int .i64 a1] [] w K
abbrev IV : FuncId := 159
def II (A0 A1 A2 A3 A4 A5 A6 A7 A8 A9 A10 A11 A12 A13 A14 A15 : Int) (w : World) (K : Bool -> World -> Prop) : Prop :=
 ak Tryz.prog 159 [.agg ⟨dF A0 A1 A2 A3 A4 A5 A6 A7 A8 A9 A10 A11 A12 A13 A14 A15⟩] [.one .bool] w K
def sQ (A0 A1 A2 A3 A4 A5 A6 A7 A8 A9 A10 A11 A12 A13 A14 A15 : Int) (w : World) (K : Bool -> World -> Prop) : Prop :=
 ak Tryz.prog 160 [.agg ⟨dF A0 A1 A2 A3 A4 A5 A6 A7 A8 A9 A10 A11 A12 A13 A14 A15⟩] [.one .bool] w K
theorem Jv {A0 A1 A2 A3 A4 A5 A6 A7 A8 A9 A10 A11 A12 A13 A14 A15 w K K'} : sQ A0 A1 A2 A3 A4 A5 A6 A7 A8 A9 A10 A11 A12 A13 A14 A15 w K -> (∀ x0 w, K x0 w -> K' x0 w) -> sQ A0 A1 A2 A3 A4 A5 A6 A7 A8 A9 A10 A11 A12 A13 A14 A15 w K' := ak.mono
abbrev IB : FuncId := 161
def Ih (a0 : Int) (w : World) (K : Bool -> World -> Prop) : Prop :=
 ak Tryz.prog 161 [.int .i64 a0] [.one .bool] w K
abbrev Iu : FuncId := 162
def I_ (A0 A1 A2 A3 A4 A5 A6 : Int) (f0 : Addr) (w : World) (K : Bool -> World -> Prop) : Prop :=
 ak Tryz.prog 162 [(.agg ⟨[.int .i64 A0, .int .i64 A1, .int .i64 A2, .int .i64 A3, .int .i64 A4, .int .i64 A5, .int .i64 A6]⟩), (.pointer (some f0))] [.one .bool] w K
def pR (A0 A1 A2 A3 A4 A5 A6 A7 A8 A9 A10 A11 A12 A13 A14 A15 : Int) (A16 A17 : ah) (A18 A19 A20 A21 A22 A23 A24 A25 A26 A27 A28 A29 A30 A31 A32 A33 A34 : Int) (A35 : ah) (B0 B1 B2 B3 B4 B5 B6 : Int) (w : World) (K : Bool -> World -> Prop) : Prop :=
 ak Tryz.prog 163 [.agg ⟨fG A0 A1 A2 A3 A4 A5 A6 A7 A8 A9 A10 A11 A12 A13 A14 A15 A16 A17 A18 A19 A20 A21 A22 A23 A24 A25 A26 A27 A28 A29 A30 A31 A32 A33 A34 A35⟩, (.agg ⟨[.int .i64 B0, .int .i64 B1, .int .i64 B2, .int .i64 B3, .int .i64 B4, .int .i64 B5, .int .i64 B6]⟩)] [.one .bool] w K
theorem LU {A0 A1 A2 A3 A4 A5 A6 A7 A8 A9 A10 A11 A12 A13 A14 A15 A16 A17 A18 A19 A20 A21 A22 A23 A24 A25 A26 A27 A28 A29 A30 A31 A32 A33 A34 A35 B0 B1 B2 B3 B4 B5 B6 w K K'} : pR A0 A1 A2 A3 A4 A5 A6 A7 A8 A9 A10 A11 A12 A13 A14 A15 A16 A17 A18 A19 A20 A21 A22 A23 A24 A25 A26 A27 A28 A29 A30 A31 A32 A33 A34 A35 B0 B1 B2 B3 B4 B5 B6 w K -> (∀ x0 w, K x0 w -> K' x0 w) -> pR A0 A1 A2 A3 A4 A5 A6 A7 A8 A9 A10 A11 A12 A13 A14 A15 A16 A17 A18 A19 A20 A21 A22 A23 A24 A25 A26 A27 A28 A29 A30 A31 A32 A33 A34 A35 B0 B1 B2 B3 B4 B5 B6 w K' := ak.mono
def bI (a0 : ah) (a1 : Value) (w : World) (K : Bool -> World -> Prop) : Prop :=
 ak Tryz.prog 164 [.slice a0.a a0.len a0.cap, a1] [.one .bool] w K
theorem mV {a0 a1 w K K'} : bI a0 a1 w K -> (∀ x0 w, K x0 w -> K' x0 w) -> bI a0 a1 w K' := ak.mono
def bZ (a0 : ah) (a1 : Value) (w : World) (K : Bool -> World -> Prop) : Prop :=
 ak Tryz.prog 165 [.slice a0.a a0.len a0.cap, a1] [.one .bool] w K
theorem jQ {a0 a1 w K K'} : bZ a0 a1 w K -> (∀ x0 w, K x0 w -> K' x0 w) -> bZ a0 a1 w K' := ak.mono
def aV (a0 : ah) (a1 : Value) (w : World) (K : Bool -> World -> Prop) : Prop :=
 ak Tryz.prog 166 [.slice a0.a a0.len a0.cap, a1] [.one .bool] w K
theorem jU {a0 a1 w K K'} : aV a0 a1 w K -> (∀ x0 w, K x0 w -> K' x0 w) -> aV a0 a1 w K' := ak.mono
def bP (a0 : ah) (w : World) (K : ah -> World -> Prop) : Prop :=
 ak Tryz.prog 167 [.slice a0.a a0.len a0.cap] [.one .slice] w K
theorem jM {a0 w K K'} : bP a0 w K -> (∀ x0 w, K x0 w -> K' x0 w) -> bP a0 w K' := ak.mono
abbrev EU : FuncId := 168
def wP (A0 A1 A2 A3 A4 A5 A6 : Int) (w : World) (K : Int -> Int -> Int -> Int -> World -> Prop) : Prop :=
 ak Tryz.prog 168 [(.agg ⟨[.int .i64 A0, .int .i64 A1, .int .i64 A2, .int .i64 A3, .int .i64 A4, .int .i64 A5, .int .i64 A6]⟩)] [.agg [(.int .i64), (.int .i64), (.int .i64), (.int .i64)]] w K
abbrev EY : FuncId := 169
def vV (A0 A1 A2 A3 A4 A5 A6 : Int) (w : World) (K : Int -> Int -> Int -> World -> Prop) : Prop :=
 ak Tryz.prog 169 [(.agg ⟨[.int .i64 A0, .int .i64 A1, .int .i64 A2, .int .i64 A3, .int .i64 A4, .int .i64 A5, .int .i64 A6]⟩)] [.agg [(.int .i64), (.int .i64), (.int .i64)]] w K
def fU (a0 : Value) (w : World) (K : Bool -> World -> Prop) : Prop :=
 ak Tryz.prog 170 [a0] [.one .bool] w K
theorem yL {a0 w K K'} : fU a0 w K -> (∀ x0 w, K x0 w -> K' x0 w) -> fU a0 w K' := ak.mono
def dD (a0 : ah) (a1 : Value) (w : World) (K : Value -> World -> Prop) : Prop :=
 ak Tryz.prog 171 [.slice a0.a a0.len a0.cap, a1] [.one .any] w K
theorem tV {a0 a1 w K K'} : dD a0 a1 w K -> (∀ x0 w, K x0 w -> K' x0 w) -> dD a0 a1 w K' := ak.mono
abbrev yH : FuncId := 172
def qG (A0 A1 A2 A3 A4 A5 A6 A7 A8 A9 A10 A11 A12 A13 A14 A15 : Int) (w : World) (K : Int -> Int -> Int -> Int -> Int -> Int -> Int -> Int -> Int -> Int -> Int -> Int -> Int -> Int -> Int -> Int -> World -> Prop) : Prop :=
 ak Tryz.prog 172 [.agg ⟨dF A0 A1 A2 A3 A4 A5 A6 A7 A8 A9 A10 A11 A12 A13 A14 A15⟩] [.agg La] w K
def jc (a0 : Value) (w : World) (K : Bool -> World -> Prop) : Prop :=
 ak Tryz.prog 173 [a0] [.one .bool] w K
theorem Ei {a0 w K K'} : jc a0 w K -> (∀ x0 w, K x0 w -> K' x0 w) -> jc a0 w K' := ak.mono
def gI (a0 : ah) (a1 : Value) (w : World) (K : Value -> World -> Prop) : Prop :=
 ak Tryz.prog 174 [.slice a0.a a0.len a0.cap, a1] [.one .any] w K
theorem zK {a0 a1 w K K'} : gI a0 a1 w K -> (∀ x0 w, K x0 w -> K' x0 w) -> gI a0 a1 w K' := ak.mono
abbrev D_ : FuncId := 175
def Es (a0 : Int) (w : World) (K : Int -> World -> Prop) : Prop :=
 ak Tryz.prog 175 [.int .i64 a0] [.one (.int .i64)] w K
def eH (a0 : Value) (w : World) (K : Bool -> World -> Prop) : Prop :=
 ak Tryz.prog 176 [a0] [.one .bool] w K
theorem wW {a0 w K K'} : eH a0 w K -> (∀ x0 w, K x0 w -> K' x0 w) -> eH a0 w K' := ak.mono
def bU (a0 : ah) (a1 : Value) (w : World) (K : Value -> World -> Prop) : Prop :=
 ak Tryz.prog 177 [.slice a0.a a0.len a0.cap, a1] [.one .any] w K
theorem pU {a0 a1 w K K'} : bU a0 a1 w K -> (∀ x0 w, K x0 w -> K' x0 w) -> bU a0 a1 w K' := ak.mono
def eY (a0 : Value) (w : World) (K : Bool -> World -> Prop) : Prop :=
 ak Tryz.prog 178 [a0] [.one .bool] w K
theorem wX {a0 w K K'} : eY a0 w K -> (∀ x0 w, K x0 w -> K' x0 w) -> eY a0 w K' := ak.mono
def bT (a0 : ah) (a1 : Value) (w : World) (K : Value -> World -> Prop) : Prop :=
 ak Tryz.prog 179 [.slice a0.a a0.len a0.cap, a1] [.one .any] w K
theorem pq {a0 a1 w K K'} : bT a0 a1 w K -> (∀ x0 w, K x0 w -> K' x0 w) -> bT a0 a1 w K' := ak.mono
abbrev FK : FuncId := 180
def FV (a0 : Int) (f0 : Addr) (w : World) (K : Bool -> World -> Prop) : Prop :=
 ak Tryz.prog 180 [.int .i64 a0, (.pointer (some f0))] [.one .bool] w K
def nV (a0 : Int) (w : World) (K : Bool -> World -> Prop) : Prop :=
 ak Tryz.prog 181 [.int .i64 a0] [.one .bool] w K
theorem yj {a0 w K K'} : nV a0 w K -> (∀ x0 w, K x0 w -> K' x0 w) -> nV a0 w K' := ak.mono
def zA (a0 : Int) (a1 : ah) (w : World) (K : Bool -> World -> Prop) : Prop :=
 ak Tryz.prog 182 [.int .i64 a0, .slice a1.a a1.len a1.cap] [.one .bool] w K
theorem Jr {a0 a1 w K K'} : zA a0 a1 w K -> (∀ x0 w, K x0 w -> K' x0 w) -> zA a0 a1 w K' := ak.mono
def fV (a0 : ah) (a1 : Int) (w : World) (K : Int -> World -> Prop) : Prop :=
 ak Tryz.prog 183 [.slice a0.a a0.len a0.cap, .int .i64 a1] [.one (.int .i64)] w K
theorem yE {a0 a1 w K K'} : fV a0 a1 w K -> (∀ x0 w, K x0 w -> K' x0 w) -> fV a0 a1 w K' := ak.mono
def jv (a0 : Option Addr) (a1 : Int) (w : World) (K : Bool -> World -> Prop) : Prop :=
 ak Tryz.prog 184 [.pointer a0, .int .i64 a1] [.one .bool] w K
theorem yF {a0 a1 w K K'} : jv a0 a1 w K -> (∀ x0 w, K x0 w -> K' x0 w) -> jv a0 a1 w K' := ak.mono
def qM (a0 : Int) (w : World) (K : Bool -> World -> Prop) : Prop :=
 ak Tryz.prog 185 [.int .i64 a0] [.one .bool] w K
theorem Ho {a0 w K K'} : qM a0 w K -> (∀ x0 w, K x0 w -> K' x0 w) -> qM a0 w K' := ak.mono
def fQ (a0 : Option Addr) (a1 : Int) (w : World) (K : Bool -> World -> Prop) : Prop :=
 ak Tryz.prog 186 [.pointer a0, .int .i64 a1] [.one .bool] w K
theorem zf {a0 a1 w K K'} : fQ a0 a1 w K -> (∀ x0 w, K x0 w -> K' x0 w) -> fQ a0 a1 w K' := ak.mono
def iR (a0 : Option Addr) (a1 : ByteArray) (w : World) (K : Int -> Bool -> World -> Prop) : Prop :=
 ak Tryz.prog 187 [.pointer a0, .string a1] [.one (.int .i64), .one .bool] w K
theorem xC {a0 a1 w K K'} : iR a0 a1 w K -> (∀ x0 x1 w, K x0 x1 w -> K' x0 x1 w) -> iR a0 a1 w K' := ak.mono
def iy (A0 A1 A2 A3 : Int) (w : World) (K : ByteArray -> World -> Prop) : Prop :=
 ak Tryz.prog 188 [(.agg ⟨[.int .i64 A0, .int .i64 A1, .int .i64 A2, .int .i64 A3]⟩)] [.one .str] w K
theorem sO {A0 A1 A2 A3 w K K'} : iy A0 A1 A2 A3 w K -> (∀ x0 w, K x0 w -> K' x0 w) -> iy A0 A1 A2 A3 w K' := ak.mono
def iD (A0 A1 A2 : Int) (w : World) (K : ByteArray -> World -> Prop) : Prop :=
 ak Tryz.prog 189 [(.agg ⟨[.int .i64 A0, .int .i64 A1, .int .i64 A2]⟩)] [.one .str] w K
theorem tN {A0 A1 A2 w K K'} : iD A0 A1 A2 w K -> (∀ x0 w, K x0 w -> K' x0 w) -> iD A0 A1 A2 w K' := ak.mono
def gQ (a0 : Option Addr) (a1 : Int) (w : World) (K : (Option Addr) -> Int -> World -> Prop) : Prop :=
 ak Tryz.prog 190 [.pointer a0, .int .i64 a1] [.one .ptr, .one (.int .i64)] w K
theorem rD {a0 a1 w K K'} : gQ a0 a1 w K -> (∀ x0 x1 w, K x0 x1 w -> K' x0 x1 w) -> gQ a0 a1 w K' := ak.mono
def pW (a0 : Option Addr) (w : World) (K : Int -> World -> Prop) : Prop :=
 ak Tryz.prog 191 [.pointer a0] [.one (.int .i64)] w K
theorem MG {a0 w K K'} : pW a0 w K -> (∀ x0 w, K x0 w -> K' x0 w) -> pW a0 w K' := ak.mono
def jd (A0 A1 : Int) (w : World) (K : Bool -> World -> Prop) : Prop :=
 ak Tryz.prog 192 [(.agg ⟨[.int .i64 A0, .int .i64 A1]⟩)] [.one .bool] w K
theorem DL {A0 A1 w K K'} : jd A0 A1 w K -> (∀ x0 w, K x0 w -> K' x0 w) -> jd A0 A1 w K' := ak.mono
def fZ (a0 : Option Addr) (w : World) (K : Bool -> World -> Prop) : Prop :=
 ak Tryz.prog 193 [.pointer a0] [.one .bool] w K
theorem qx {a0 w K K'} : fZ a0 w K -> (∀ x0 w, K x0 w -> K' x0 w) -> fZ a0 w K' := ak.mono
def rO (a0 : Int) (w : World) (K : Bool -> World -> Prop) : Prop :=
 ak Tryz.prog 194 [.int .i64 a0] [.one .bool] w K
theorem Oe {a0 w K K'} : rO a0 w K -> (∀ x0 w, K x0 w -> K' x0 w) -> rO a0 w K' := ak.mono
def nJ (a0 : Option Addr) (w : World) (K : Int -> Bool -> World -> Prop) : Prop :=
 ak Tryz.prog 195 [.pointer a0] [.one (.int .i64), .one .bool] w K
theorem JF {a0 w K K'} : nJ a0 w K -> (∀ x0 x1 w, K x0 x1 w -> K' x0 x1 w) -> nJ a0 w K' := ak.mono
def iQ (a0 : Option Addr) (a1 : ByteArray) (a2 : Int) (w : World) (K : Int -> World -> Prop) : Prop :=
 ak Tryz.prog 196 [.pointer a0, .string a1, .int .i64 a2] [.one (.int .i64)] w K
theorem xH {a0 a1 a2 w K K'} : iQ a0 a1 a2 w K -> (∀ x0 w, K x0 w -> K' x0 w) -> iQ a0 a1 a2 w K' := ak.mono
def bC (a0 : ah) (a1 : Value) (w : World) (K : Int -> Int -> Int -> World -> Prop) : Prop :=
 ak Tryz.prog 197 [.slice a0.a a0.len a0.cap, a1] [.agg [(.int .i64), (.int .i64), (.int .i64)]] w K
theorem lG {a0 a1 w K K'} : bC a0 a1 w K -> (∀ x0 x1 x2 w, K x0 x1 x2 w -> K' x0 x1 x2 w) -> bC a0 a1 w K' := ak.mono
abbrev CU : FuncId := 198
def uI (A0 A1 A2 B0 B1 B2 : Int) (w : World) (K : Int -> World -> Prop) : Prop :=
 ak Tryz.prog 198 [(.agg ⟨[.int .i64 A0, .int .i64 A1, .int .i64 A2]⟩), (.agg ⟨[.int .i64 B0, .int .i64 B1, .int .i64 B2]⟩)] [.one (.int .i64)] w K
def lJ (a0 a1 : Int) (w : World) (K : Int -> World -> Prop) : Prop :=
 ak Tryz.prog 199 [.int .i64 a0, .int .i64 a1] [.one (.int .i64)] w K
theorem BM {a0 a1 w K K'} : lJ a0 a1 w K -> (∀ x0 w, K x0 w -> K' x0 w) -> lJ a0 a1 w K' := ak.mono
def fD (a0 : Option Addr) (a1 : Int) (w : World) (K : (Option Addr) -> World -> Prop) : Prop :=
 ak Tryz.prog 200 [.pointer a0, .int .i64 a1] [.one .ptr] w K
theorem o8 {a0 a1 w K K'} : fD a0 a1 w K -> (∀ x0 w, K x0 w -> K' x0 w) -> fD a0 a1 w K' := ak.mono
def aK (a0 : ah) (a1 : Value) (w : World) (K : ah -> World -> Prop) : Prop :=
 ak Tryz.prog 201 [.slice a0.a a0.len a0.cap, a1] [.one .slice] w K
theorem dB {a0 a1 w K K'} : aK a0 a1 w K -> (∀ x0 w, K x0 w -> K' x0 w) -> aK a0 a1 w K' := ak.mono
def bG (a0 : ah) (w : World) (K : ah -> World -> Prop) : Prop :=
 ak Tryz.prog 202 [.slice a0.a a0.len a0.cap] [.one .slice] w K
theorem mJ {a0 w K K'} : bG a0 w K -> (∀ x0 w, K x0 w -> K' x0 w) -> bG a0 w K' := ak.mono
abbrev DF : FuncId := 203
def u_ (A0 A1 A2 : Int) (f0 : Addr) (w : World) (K : Bool -> World -> Prop) : Prop :=
 ak Tryz.prog 203 [(.agg ⟨[.int .i64 A0, .int .i64 A1, .int .i64 A2]⟩), (.pointer (some f0))] [.one .bool] w K
abbrev Et : FuncId := 204
def uZ (A0 A1 A2 : Int) (f0 : Addr) (w : World) (K : Bool -> World -> Prop) : Prop :=
 ak Tryz.prog 204 [(.agg ⟨[.int .i64 A0, .int .i64 A1, .int .i64 A2]⟩), (.pointer (some f0))] [.one .bool] w K
def aS (a0 : ah) (a1 : Value) (w : World) (K : World -> Prop) : Prop :=
 ak Tryz.prog 205 [.slice a0.a a0.len a0.cap, a1] [] w K
theorem kN {a0 a1 w K K'} : aS a0 a1 w K -> (∀ w, K w -> K' w) -> aS a0 a1 w K' := ak.mono
abbrev jO : FuncId := 206
def oJ (A0 A1 A2 B0 B1 B2 : Int) (w : World) (K : Int -> World -> Prop) : Prop :=
 ak Tryz.prog 206 [(.agg ⟨[.int .i64 A0, .int .i64 A1, .int .i64 A2]⟩), (.agg ⟨[.int .i64 B0, .int .i64 B1, .int .i64 B2]⟩)] [.one (.int .i64)] w K
def eX (a0 : ah) (w : World) (K : ah -> World -> Prop) : Prop :=
 ak Tryz.prog 207 [.slice a0.a a0.len a0.cap] [.one .slice] w K
theorem xu {a0 w K K'} : eX a0 w K -> (∀ x0 w, K x0 w -> K' x0 w) -> eX a0 w K' := ak.mono
def vT (a0 a1 : Int) (w : World) (K : Bool -> World -> Prop) : Prop :=
 ak Tryz.prog 208 [.int .i64 a0, .int .i64 a1] [.one .bool] w K
theorem MI {a0 a1 w K K'} : vT a0 a1 w K -> (∀ x0 w, K x0 w -> K' x0 w) -> vT a0 a1 w K' := ak.mono
def dH (a0 : ah) (a1 : Value) (w : World) (K : ah -> World -> Prop) : Prop :=
 ak Tryz.prog 209 [.slice a0.a a0.len a0.cap, a1] [.one .slice] w K
theorem uG {a0 a1 w K K'} : dH a0 a1 w K -> (∀ x0 w, K x0 w -> K' x0 w) -> dH a0 a1 w K' := ak.mono
def uz (a0 a1 : Int) (w : World) (K : Value -> World -> Prop) : Prop :=
 ak Tryz.prog 210 [.int .i64 a0, .int .i64 a1] [.one .any] w K
theorem Qv {a0 a1 w K K'} : uz a0 a1 w K -> (∀ x0 w, K x0 w -> K' x0 w) -> uz a0 a1 w K' := ak.mono
def gU (a0 a1 : Option Addr) (a2 : Int) (w : World) (K : World -> Prop) : Prop :=
 ak Tryz.prog 211 [.pointer a0, .pointer a1, .int .i64 a2] [] w K
theorem uU {a0 a1 a2 w K K'} : gU a0 a1 a2 w K -> (∀ w, K w -> K' w) -> gU a0 a1 a2 w K' := ak.mono
def qj (a0 : Int) (w : World) (K : Int -> World -> Prop) : Prop :=
 ak Tryz.prog 212 [.int .i64 a0] [.one (.int .i64)] w K
theorem MW {a0 w K K'} : qj a0 w K -> (∀ x0 w, K x0 w -> K' x0 w) -> qj a0 w K' := ak.mono
def aY (a0 : ah) (a1 : Value) (w : World) (K : Bool -> World -> Prop) : Prop :=
 ak Tryz.prog 213 [.slice a0.a a0.len a0.cap, a1] [.one .bool] w K
theorem kL {a0 a1 w K K'} : aY a0 a1 w K -> (∀ x0 w, K x0 w -> K' x0 w) -> aY a0 a1 w K' := ak.mono
abbrev Sj : FuncId := 214
def RP (A0 A1 : Int) (w : World) (K : Bool -> World -> Prop) : Prop :=
 ak Tryz.prog 214 [(.agg ⟨[.int .i64 A0, .int .i64 A1]⟩)] [.one .bool] w K
abbrev BU : FuncId := 215
def uD (A0 A1 A2 : Int) (f0 : Addr) (w : World) (K : Bool -> World -> Prop) : Prop :=
 ak Tryz.prog 215 [(.agg ⟨[.int .i64 A0, .int .i64 A1, .int .i64 A2]⟩), (.pointer (some f0))] [.one .bool] w K
def eG (a0 a1 : ah) (w : World) (K : Bool -> World -> Prop) : Prop :=
 ak Tryz.prog 216 [.slice a0.a a0.len a0.cap, .slice a1.a a1.len a1.cap] [.one .bool] w K
theorem xk {a0 a1 w K K'} : eG a0 a1 w K -> (∀ x0 w, K x0 w -> K' x0 w) -> eG a0 a1 w K' := ak.mono
def sZ (a0 : Int) (w : World) (K : Bool -> World -> Prop) : Prop :=
 ak Tryz.prog 217 [.int .i64 a0] [.one .bool] w K
theorem Jw {a0 w K K'} : sZ a0 w K -> (∀ x0 w, K x0 w -> K' x0 w) -> sZ a0 w K' := ak.mono
def bf (a0 a1 a2 : Int) (w : World) (K : Bool -> World -> Prop) : Prop :=
 ak Tryz.prog 218 [.int .i64 a0, .int .i64 a1, .int .i64 a2] [.one .bool] w K
theorem RF {a0 a1 a2 w K K'} : bf a0 a1 a2 w K -> (∀ x0 w, K x0 w -> K' x0 w) -> bf a0 a1 a2 w K' := ak.mono
def nS (A0 A1 A2 A3 A4 A5 A6 A7 A8 A9 A10 A11 A12 A13 A14 A15 : Int) (w : World) (K : Bool -> World -> Prop) : Prop :=
 ak Tryz.prog 219 [.agg ⟨dF A0 A1 A2 A3 A4 A5 A6 A7 A8 A9 A10 A11 A12 A13 A14 A15⟩] [.one .bool] w K
theorem EH {A0 A1 A2 A3 A4 A5 A6 A7 A8 A9 A10 A11 A12 A13 A14 A15 w K K'} : nS A0 A1 A2 A3 A4 A5 A6 A7 A8 A9 A10 A11 A12 A13 A14 A15 w K -> (∀ x0 w, K x0 w -> K' x0 w) -> nS A0 A1 A2 A3 A4 A5 A6 A7 A8 A9 A10 A11 A12 A13 A14 A15 w K' := ak.mono
def mY (A0 A1 A2 A3 A4 A5 A6 A7 A8 A9 A10 A11 A12 A13 A14 A15 : Int) (A16 A17 : ah) (A18 A19 A20 A21 A22 A23 A24 A25 A26 A27 A28 A29 A30 A31 A32 A33 A34 : Int) (A35 : ah) (B0 B1 B2 B3 B4 B5 B6 : Int) (w : World) (K : Bool -> World -> Prop) : Prop :=
 ak Tryz.prog 220 [.agg ⟨fG A0 A1 A2 A3 A4 A5 A6 A7 A8 A9 A10 A11 A12 A13 A14 A15 A16 A17 A18 A19 A20 A21 A22 A23 A24 A25 A26 A27 A28 A29 A30 A31 A32 A33 A34 A35⟩, (.agg ⟨[.int .i64 B0, .int .i64 B1, .int .i64 B2, .int .i64 B3, .int .i64 B4, .int .i64 B5, .int .i64 B6]⟩)] [.one .bool] w K
theorem Jy {A0 A1 A2 A3 A4 A5 A6 A7 A8 A9 A10 A11 A12 A13 A14 A15 A16 A17 A18 A19 A20 A21 A22 A23 A24 A25 A26 A27 A28 A29 A30 A31 A32 A33 A34 A35 B0 B1 B2 B3 B4 B5 B6 w K K'} : mY A0 A1 A2 A3 A4 A5 A6 A7 A8 A9 A10 A11 A12 A13 A14 A15 A16 A17 A18 A19 A20 A21 A22 A23 A24 A25 A26 A27 A28 A29 A30 A31 A32 A33 A34 A35 B0 B1 B2 B3 B4 B5 B6 w K -> (∀ x0 w, K x0 w -> K' x0 w) -> mY A0 A1 A2 A3 A4 A5 A6 A7 A8 A9 A10 A11 A12 A13 A14 A15 A16 A17 A18 A19 A20 A21 A22 A23 A24 A25 A26 A27 A28 A29 A30 A31 A32 A33 A34 A35 B0 B1 B2 B3 B4 B5 B6 w K' := ak.mono
def bg (a0 : ah) (a1 a2 : Int) (a3 : Value) (w : World) (K : World -> Prop) : Prop :=
 ak Tryz.prog 221 [.slice a0.a a0.len a0.cap, .int .i64 a1, .int .i64 a2, a3] [] w K
theorem lI {a0 a1 a2 a3 w K K'} : bg a0 a1 a2 a3 w K -> (∀ w, K w -> K' w) -> bg a0 a1 a2 a3 w K' := ak.mono
def qm (a0 : ah) (a1 a2 : Int) (a3 : Value) (w : World) (K : World -> Prop) : Prop :=
 ak Tryz.prog 222 [.slice a0.a a0.len a0.cap, .int .i64 a1, .int .i64 a2, a3] [] w K
def lX (a0 : ah) (a1 a2 : Int) (a3 : Value) (w : World) (K : World -> Prop) : Prop :=
 ak Tryz.prog 223 [.slice a0.a a0.len a0.cap, .int .i64 a1, .int .i64 a2, a3] [] w K
def ny (a0 : ah) (a1 a2 : Int) (a3 : Value) (w : World) (K : Int -> Int -> World -> Prop) : Prop :=
 ak Tryz.prog 224 [.slice a0.a a0.len a0.cap, .int .i64 a1, .int .i64 a2, a3] [.one (.int .i64), .one (.int .i64)] w K
def mG (a0 : ah) (a1 a2 : Int) (a3 : Value) (w : World) (K : World -> Prop) : Prop :=
 ak Tryz.prog 225 [.slice a0.a a0.len a0.cap, .int .i64 a1, .int .i64 a2, a3] [] w K
def jC (a0 : ah) (a1 a2 : Int) (a3 : Value) (w : World) (K : Bool -> World -> Prop) : Prop :=
 ak Tryz.prog 226 [.slice a0.a a0.len a0.cap, .int .i64 a1, .int .i64 a2, a3] [.one .bool] w K
def lF (a0 : ah) (a1 a2 a3 : Int) (a4 : Value) (w : World) (K : Int -> World -> Prop) : Prop :=
 ak Tryz.prog 227 [.slice a0.a a0.len a0.cap, .int .i64 a1, .int .i64 a2, .int .i64 a3, a4] [.one (.int .i64)] w K
def oV (a0 : ah) (a1 a2 a3 : Int) (a4 : Value) (w : World) (K : Int -> Bool -> World -> Prop) : Prop :=
 ak Tryz.prog 228 [.slice a0.a a0.len a0.cap, .int .i64 a1, .int .i64 a2, .int .i64 a3, a4] [.one (.int .i64), .one .bool] w K
def jF (a0 : Int) (w : World) (K : Int -> World -> Prop) : Prop :=
 ak Tryz.prog 230 [.int .u64 a0] [.one (.int .i64)] w K
theorem FQ {a0 w K K'} : jF a0 w K -> (∀ x0 w, K x0 w -> K' x0 w) -> jF a0 w K' := ak.mono
def jr (a0 : Int) (w : World) (K : Bool -> World -> Prop) : Prop :=
 ak Tryz.prog 231 [.int .i64 a0] [.one .bool] w K
theorem yY {a0 w K K'} : jr a0 w K -> (∀ x0 w, K x0 w -> K' x0 w) -> jr a0 w K' := ak.mono
def fB (a0 : Option Addr) (w : World) (K : Bool -> World -> Prop) : Prop :=
 ak Tryz.prog 239 [.pointer a0] [.one .bool] w K
theorem oC {a0 w K K'} : fB a0 w K -> (∀ x0 w, K x0 w -> K' x0 w) -> fB a0 w K' := ak.mono
def bQ (a0 : Option Addr) (a1 : ByteArray) (w : World) (K : Int -> Bool -> World -> Prop) : Prop :=
 ak Tryz.prog 240 [.pointer a0, .string a1] [.one (.int .i64), .one .bool] w K
theorem dN {a0 a1 w K K'} : bQ a0 a1 w K -> (∀ x0 x1 w, K x0 x1 w -> K' x0 x1 w) -> bQ a0 a1 w K' := ak.mono
def h_ (a0 : Option Addr) (a1 : Int) (w : World) (K : Value -> World -> Prop) : Prop :=
 ak Tryz.prog 241 [.pointer a0, .int .i64 a1] [.one .any] w K
theorem vU {a0 a1 w K K'} : h_ a0 a1 w K -> (∀ x0 w, K x0 w -> K' x0 w) -> h_ a0 a1 w K' := ak.mono
def dO (a0 : ah) (a1 : Value) (w : World) (K : Int -> World -> Prop) : Prop :=
 ak Tryz.prog 242 [.slice a0.a a0.len a0.cap, a1] [.one (.int .i64)] w K
theorem vg {a0 a1 w K K'} : dO a0 a1 w K -> (∀ x0 w, K x0 w -> K' x0 w) -> dO a0 a1 w K' := ak.mono
def lN (a0 : Option Addr) (a1 : Int) (w : World) (K : Bool -> World -> Prop) : Prop :=
 ak Tryz.prog 243 [.pointer a0, .int .i64 a1] [.one .bool] w K
theorem Bf {a0 a1 w K K'} : lN a0 a1 w K -> (∀ x0 w, K x0 w -> K' x0 w) -> lN a0 a1 w K' := ak.mono
abbrev uH : FuncId := 244
def CJ (a0 : Value) (f0 f1 : Addr) (w : World) (K : World -> Prop) : Prop :=
 ak Tryz.prog 244 [a0, (.pointer (some f0)), (.pointer (some f1))] [] w K
def mZ (a0 : Int) (w : World) (K : Bool -> World -> Prop) : Prop :=
 ak Tryz.prog 245 [.int .i64 a0] [.one .bool] w K
theorem Jz {a0 w K K'} : mZ a0 w K -> (∀ x0 w, K x0 w -> K' x0 w) -> mZ a0 w K' := ak.mono
def bV (a0 : ah) (a1 : Value) (w : World) (K : Int -> World -> Prop) : Prop :=
 ak Tryz.prog 246 [.slice a0.a a0.len a0.cap, a1] [.one (.int .i64)] w K
theorem pF {a0 a1 w K K'} : bV a0 a1 w K -> (∀ x0 w, K x0 w -> K' x0 w) -> bV a0 a1 w K' := ak.mono
def bD (a0 : ah) (a1 : Value) (w : World) (K : Int -> World -> Prop) : Prop :=
 ak Tryz.prog 247 [.slice a0.a a0.len a0.cap, a1] [.one (.int .i64)] w K
theorem lD {a0 a1 w K K'} : bD a0 a1 w K -> (∀ x0 w, K x0 w -> K' x0 w) -> bD a0 a1 w K' := ak.mono
abbrev rP : FuncId := 248
def rQ (a0 : Value) (f0 f1 : Addr) (w : World) (K : World -> Prop) : Prop :=
 ak Tryz.prog 248 [a0, (.pointer (some f0)), (.pointer (some f1))] [] w K
abbrev yR : FuncId := 249
def zl (a0 : Value) (f0 f1 : Addr) (w : World) (K : World -> Prop) : Prop :=
 ak Tryz.prog 249 [a0, (.pointer (some f0)), (.pointer (some f1))] [] w K
abbrev oM : FuncId := 250
def oP (a0 : Value) (f0 f1 : Addr) (w : World) (K : World -> Prop) : Prop :=
 ak Tryz.prog 250 [a0, (.pointer (some f0)), (.pointer (some f1))] [] w K
abbrev oK : FuncId := 251
def oN (a0 : Value) (f0 f1 : Addr) (w : World) (K : World -> Prop) : Prop :=
 ak Tryz.prog 251 [a0, (.pointer (some f0)), (.pointer (some f1))] [] w K
def jV (A0 A1 a1 : Int) (w : World) (K : Bool -> World -> Prop) : Prop :=
 ak Tryz.prog 252 [(.agg ⟨[.int .i64 A0, .int .i64 A1]⟩), .int .i64 a1] [.one .bool] w K
theorem xP {A0 A1 a1 w K K'} : jV A0 A1 a1 w K -> (∀ x0 w, K x0 w -> K' x0 w) -> jV A0 A1 a1 w K' := ak.mono
def sK (a0 : ah) (w : World) (K : ByteArray -> World -> Prop) : Prop :=
 ak Tryz.prog 253 [.slice a0.a a0.len a0.cap] [.one .str] w K
theorem Jk {a0 w K K'} : sK a0 w K -> (∀ x0 w, K x0 w -> K' x0 w) -> sK a0 w K' := ak.mono
def jG (a0 : Option Addr) (w : World) (K : World -> Prop) : Prop :=
 ak Tryz.prog 254 [.pointer a0] [] w K
theorem FW {a0 w K K'} : jG a0 w K -> (∀ w, K w -> K' w) -> jG a0 w K' := ak.mono
def aW (a0 : ah) (a1 : Value) (w : World) (K : Int -> World -> Prop) : Prop :=
 ak Tryz.prog 255 [.slice a0.a a0.len a0.cap, a1] [.one (.int .i64)] w K
theorem kF {a0 a1 w K K'} : aW a0 a1 w K -> (∀ x0 w, K x0 w -> K' x0 w) -> aW a0 a1 w K' := ak.mono
def aU (a0 : ah) (a1 a2 a3 : Int) (a4 : Value) (w : World) (K : World -> Prop) : Prop :=
 ak Tryz.prog 256 [.slice a0.a a0.len a0.cap, .int .i64 a1, .int .i64 a2, .int .i64 a3, a4] [] w K
theorem oI {a0 a1 a2 a3 a4 w K K'} : aU a0 a1 a2 a3 a4 w K -> (∀ w, K w -> K' w) -> aU a0 a1 a2 a3 a4 w K' := ak.mono
abbrev NS : FuncId := 257
def Og (a0 : Value) (f0 f1 : Addr) (w : World) (K : World -> Prop) : Prop :=
 ak Tryz.prog 257 [a0, (.pointer (some f0)), (.pointer (some f1))] [] w K
def bH (a0 : ah) (a1 : Value) (w : World) (K : Int -> World -> Prop) : Prop :=
 ak Tryz.prog 258 [.slice a0.a a0.len a0.cap, a1] [.one (.int .i64)] w K
theorem mO {a0 a1 w K K'} : bH a0 a1 w K -> (∀ x0 w, K x0 w -> K' x0 w) -> bH a0 a1 w K' := ak.mono
def rH (A0 A1 A2 A3 A4 A5 A6 A7 A8 A9 A10 A11 A12 A13 A14 A15 : Int) (A16 A17 : ah) (A18 A19 A20 A21 A22 A23 A24 A25 A26 A27 A28 A29 A30 A31 A32 A33 A34 : Int) (A35 : ah) (a1 : Int) (w : World) (K : Bool -> World -> Prop) : Prop :=
 ak Tryz.prog 259 [.agg ⟨fG A0 A1 A2 A3 A4 A5 A6 A7 A8 A9 A10 A11 A12 A13 A14 A15 A16 A17 A18 A19 A20 A21 A22 A23 A24 A25 A26 A27 A28 A29 A30 A31 A32 A33 A34 A35⟩, .int .i64 a1] [.one .bool] w K
theorem Oh {A0 A1 A2 A3 A4 A5 A6 A7 A8 A9 A10 A11 A12 A13 A14 A15 A16 A17 A18 A19 A20 A21 A22 A23 A24 A25 A26 A27 A28 A29 A30 A31 A32 A33 A34 A35 a1 w K K'} : rH A0 A1 A2 A3 A4 A5 A6 A7 A8 A9 A10 A11 A12 A13 A14 A15 A16 A17 A18 A19 A20 A21 A22 A23 A24 A25 A26 A27 A28 A29 A30 A31 A32 A33 A34 A35 a1 w K -> (∀ x0 w, K x0 w -> K' x0 w) -> rH A0 A1 A2 A3 A4 A5 A6 A7 A8 A9 A10 A11 A12 A13 A14 A15 A16 A17 A18 A19 A20 A21 A22 A23 A24 A25 A26 A27 A28 A29 A30 A31 A32 A33 A34 A35 a1 w K' := ak.mono
def uO (a0 : ByteArray) (a1 : Int) (w : World) (K : Int -> World -> Prop) : Prop :=
 ak Tryz.prog 266 [.string a0, .int .i64 a1] [.one (.int .i64)] w K
theorem QD {a0 a1 w K K'} : uO a0 a1 w K -> (∀ x0 w, K x0 w -> K' x0 w) -> uO a0 a1 w K' := ak.mono
abbrev uX : FuncId := 267
def DR (a0 : Value) (f0 f1 : Addr) (w : World) (K : World -> Prop) : Prop :=
 ak Tryz.prog 267 [a0, (.pointer (some f0)), (.pointer (some f1))] [] w K
def aX (a0 : ah) (a1 a2 : Int) (a3 : Value) (w : World) (K : World -> Prop) : Prop :=
 ak Tryz.prog 268 [.slice a0.a a0.len a0.cap, .int .i64 a1, .int .i64 a2, a3] [] w K
theorem kR {a0 a1 a2 a3 w K K'} : aX a0 a1 a2 a3 w K -> (∀ w, K w -> K' w) -> aX a0 a1 a2 a3 w K' := ak.mono
def oH (a0 : ah) (a1 a2 : Int) (a3 : Value) (w : World) (K : World -> Prop) : Prop :=
 ak Tryz.prog 269 [.slice a0.a a0.len a0.cap, .int .i64 a1, .int .i64 a2, a3] [] w K
def lu (a0 : ah) (a1 a2 : Int) (a3 : Value) (w : World) (K : World -> Prop) : Prop :=
 ak Tryz.prog 270 [.slice a0.a a0.len a0.cap, .int .i64 a1, .int .i64 a2, a3] [] w K
def mD (a0 : ah) (a1 a2 : Int) (a3 : Value) (w : World) (K : Int -> Int -> World -> Prop) : Prop :=
 ak Tryz.prog 271 [.slice a0.a a0.len a0.cap, .int .i64 a1, .int .i64 a2, a3] [.one (.int .i64), .one (.int .i64)] w K
def lV (a0 : ah) (a1 a2 : Int) (a3 : Value) (w : World) (K : World -> Prop) : Prop :=
 ak Tryz.prog 272 [.slice a0.a a0.len a0.cap, .int .i64 a1, .int .i64 a2, a3] [] w K
def jm (a0 : ah) (a1 a2 : Int) (a3 : Value) (w : World) (K : Bool -> World -> Prop) : Prop :=
 ak Tryz.prog 273 [.slice a0.a a0.len a0.cap, .int .i64 a1, .int .i64 a2, a3] [.one .bool] w K
def kU (a0 : ah) (a1 a2 a3 : Int) (a4 : Value) (w : World) (K : Int -> World -> Prop) : Prop :=
 ak Tryz.prog 274 [.slice a0.a a0.len a0.cap, .int .i64 a1, .int .i64 a2, .int .i64 a3, a4] [.one (.int .i64)] w K
def nO (a0 : ah) (a1 a2 a3 : Int) (a4 : Value) (w : World) (K : Int -> Bool -> World -> Prop) : Prop :=
 ak Tryz.prog 275 [.slice a0.a a0.len a0.cap, .int .i64 a1, .int .i64 a2, .int .i64 a3, a4] [.one (.int .i64), .one .bool] w K
theorem IY {a0 a1 a2 w K} : aH (Am a0 a1 a2 w K)
 (kV  w fun r4 r5 r6 r7 r8 r9 r10 r11 r12 r13 r14 r15 r16 r17 r18 r19 r20 r21 r22 r23 r24 r25 r26 r27 r28 r29 r30 r31 r32 r33 r34 r35 r36 r37 r38 r39 w40 => wu r4 r5 r6 r7 r8 r9 r10 r11 r12 r13 r14 r15 r16 r17 r18 r19 r20 r21 r22 r23 r24 r25 r26 r27 r28 r29 r30 r31 r32 r33 r34 r35 r36 r37 r38 r39 w40 fun r41 r42 w43 => qC r41 4 w43 fun r44 r45 w46 => let J47 : Bool -> Prop := fun j48 => ((bif j48 then
 let J49 : Bool -> World -> Prop := fun j50 w51 => (K j50 w51)
 (bif (a0 == 0) then
 lK  w46 fun r52 w53 => J49 r52 w53
 else
 J49 false w46)
 else
 mW 0 167772161 (IntKind.i64.wrap a0) (IntKind.i64.wrap a1) (IntKind.i64.wrap a2) w46 fun r54 w55 => dW r44 0 167772161 r54 w55 fun r56 r57 w58 => let J59 : Bool -> World -> Prop := fun j60 w61 => ((bif j60 then
 K false w61
 else
 mW 0 167772161 (IntKind.i64.wrap a0) (IntKind.i64.wrap a1) (IntKind.i64.wrap a2) w61 fun r62 w63 => dW r44 0 167772161 r62 w63 fun r64 r65 w66 => sJ r56 w66 fun r67 r68 r69 r70 r71 r72 r73 r74 r75 r76 r77 r78 r79 r80 r81 r82 r83 r84 r85 r86 r87 r88 r89 r90 r91 r92 r93 r94 r95 r96 r97 r98 r99 r100 r101 r102 w103 => Al w103 (.cells ⟨(AZ 0 0 0 0 0 0 0 0 0 0 0 0 0 0 0 0 0 0 0 0 0 0 0 0 0 0 0 0 0 0 0 0 0 0 0)⟩ 53) fun a105 w104 => iT (AZ r67 r68 r69 r70 r71 r72 r73 r74 r75 r76 r77 r78 r79 r80 r81 r82 r83 r84 r85 r86 r87 r88 r89 r90 r91 r92 r93 r94 r95 r96 r97 r98 r99 r100 r101) w104 a105 0 fun w106 => sJ r64 w106 fun r107 r108 r109 r110 r111 r112 r113 r114 r115 r116 r117 r118 r119 r120 r121 r122 r123 r124 r125 r126 r127 r128 r129 r130 r131 r132 r133 r134 r135 r136 r137 r138 r139 r140 r141 r142 w143 => Al w143 (.cells ⟨(AZ 0 0 0 0 0 0 0 0 0 0 0 0 0 0 0 0 0 0 0 0 0 0 0 0 0 0 0 0 0 0 0 0 0 0 0)⟩ 53) fun a145 w144 => iT (AZ r107 r108 r109 r110 r111 r112 r113 r114 r115 r116 r117 r118 r119 r120 r121 r122 r123 r124 r125 r126 r127 r128 r129 r130 r131 r132 r133 r134 r135 r136 r137 r138 r139 r140 r141) w144 a145 0 fun w146 => let J147 : Bool -> Prop := fun j148 => ((bif j148 then
 K false w146
 else
 let J149 : Bool -> World -> Prop := fun j150 w151 => (K j150 w151)
 bY r44 (IntKind.i64.wrap ((IntKind.i64.wrap (2 * (IntKind.i64.wrap a0))) - 2)) w146 fun r152 w153 => (bif (r152 == 0) then
 bY r44 (IntKind.i64.wrap ((IntKind.i64.wrap (2 * (IntKind.i64.wrap a0))) - 1)) w153 fun r154 w155 => (bif (r154 == 1) then
 fC r41 w155 fun r156 r157 r158 r159 r160 r161 r162 w163 => (bif ((r157.len : Int) == 0) then
 lK  w163 fun r164 w165 => J149 r164 w165
 else
 J149 false w163)
 else
 J149 false w155)
 else
 J149 false w153)))
 (bif (r65 != 0) then
 J147 true
 else
 (bif (r102 != 0) then
 J147 true
 else
 (bif (r142 != 0) then
 J147 true
 else
 Ld (.int .i64) w146 a105 fun x166 => (bif (x166 != 0) then
 J147 true
 else
 Ld (.int .i64) w146 a145 fun x167 => (bif (x167 != 0) then
 J147 true
 else
 Ld (.int .i64) w146 (a145.add 1) fun x168 => J147 (x168 != (IntKind.i64.wrap ((IntKind.i64.wrap a0) - 1))))))))))
 (bif (r57 != 0) then
 J59 true w58
 else
 bY r44 (IntKind.i64.wrap ((IntKind.i64.wrap a0) - 1)) w58 fun r169 w170 => (bif (r169 != 0) then
 J59 true w170
 else
 fC r41 w170 fun r171 r172 r173 r174 r175 r176 r177 w178 => J59 ((r172.len : Int) != 1) w178))))
 (bif (r42 != 0) then
 J47 true
 else
 (bif (r45 != 0) then
 J47 true
 else
 (bif (Option.isNone r44) then
 J47 true
 else
 J47 (a0 == 0))))) := okF cZ Tryz.func3 .leaf (by kernel_rfl)
theorem TN {A0 A1 A2 A3 A4 A5 A6 A7 A8 A9 A10 A11 A12 A13 A14 A15 A16 A17 A18 A19 A20 A21 A22 A23 A24 A25 A26 A27 A28 A29 A30 A31 A32 A33 A34 A35 w K} : aH (wu A0 A1 A2 A3 A4 A5 A6 A7 A8 A9 A10 A11 A12 A13 A14 A15 A16 A17 A18 A19 A20 A21 A22 A23 A24 A25 A26 A27 A28 A29 A30 A31 A32 A33 A34 A35 w K)
 (Al w (.cells ⟨(fG A0 A1 A2 A3 A4 A5 A6 A7 A8 A9 A10 A11 A12 A13 A14 A15 A16 A17 A18 A19 A20 A21 A22 A23 A24 A25 A26 A27 A28 A29 A30 A31 A32 A33 A34 A35)⟩ 33) fun a3 w2 => uT w2 a3 fun x4 x5 x6 x7 x8 x9 x10 x11 x12 x13 x14 x15 x16 x17 x18 x19 x20 x21 x22 x23 x24 x25 x26 x27 x28 x29 x30 x31 x32 x33 x34 x35 x36 x37 x38 x39 => ni x4 x5 x6 x7 x8 x9 x10 x11 x12 x13 x14 x15 x16 x17 x18 x19 x20 x21 x22 x23 x24 x25 x26 x27 x28 x29 x30 x31 x32 x33 x34 x35 x36 x37 x38 x39 w2 fun r40 w41 => (bif (r40 != 0) then
 K none r40 w41
 else
 uT w41 a3 fun x42 x43 x44 x45 x46 x47 x48 x49 x50 x51 x52 x53 x54 x55 x56 x57 x58 x59 x60 x61 x62 x63 x64 x65 x66 x67 x68 x69 x70 x71 x72 x73 x74 x75 x76 x77 => Al w41 (.cells ⟨(abO none none none none none x42 x43 x44 x45 x46 x47 x48 x49 x50 x51 x52 x53 x54 x55 x56 x57 x58 x59 x60 x61 x62 x63 x64 x65 x66 x67 x68 x69 x70 x71 x72 x73 x74 x75 x76 x77 0)⟩ 93) fun a79 w78 => Ld .slice w78 (a3.add 17) fun x80 => Ld (.int .i64) w78 (a3.add 18) fun x81 => Ld (.int .i64) w78 (a3.add 19) fun x82 => wC x80 x81 x82 w78 fun r83 r84 w85 => Pt (some a79) fun a86 => St w85 a86 (Value.pointer r83) fun w87 => Ld .slice w87 (a3.add 16) fun x88 => Ld (.int .i64) w87 (a3.add 20) fun x89 => um (x88.len : Int) x89 w87 fun r90 r91 w92 => Pt (some a79) fun a93 => St w92 (a93.add 1) (Value.pointer r90) fun w94 => Ld (.int .i64) w94 (a3.add 21) fun x95 => wK x95 w94 fun r96 r97 w98 => Pt (some a79) fun a99 => St w98 (a99.add 2) (Value.pointer r96) fun w100 => Ld (.int .i64) w100 (a3.add 22) fun x101 => pz x101 w100 fun r102 r103 w104 => Pt (some a79) fun a105 => St w104 (a105.add 3) (Value.pointer r102) fun w106 => Ld (.int .i64) w106 (a3.add 22) fun x107 => qI x107 w106 fun r108 r109 w110 => Pt (some a79) fun a111 => St w110 (a111.add 4) (Value.pointer r108) fun w112 => Ld .slice w112 (a3.add 35) fun x113 => cu (S := Int × Unit) (fun s114 w115 next116 => (bif (decide (s114.1 < (x113.len : Int))) then
 bM x113 7 s114.1 fun a117 => Ld (.int .i64) w115 (a117.add 0) fun x118 => Ld (.int .i64) w115 (a117.add 1) fun x119 => Ld (.int .i64) w115 (a117.add 2) fun x120 => Ld (.int .i64) w115 (a117.add 3) fun x121 => Ld (.int .i64) w115 (a117.add 4) fun x122 => Ld (.int .i64) w115 (a117.add 5) fun x123 => Ld (.int .i64) w115 (a117.add 6) fun x124 => Al w115 (.cells ⟨[(Value.int .i64 0), (Value.int .i64 0), (Value.int .i64 0), (Value.int .i64 0), (Value.int .i64 0), (Value.int .i64 0), (Value.int .i64 0)]⟩ 105) fun a126 w125 => iT [(Value.int .i64 x118), (Value.int .i64 x119), (Value.int .i64 x120), (Value.int .i64 x121), (Value.int .i64 x122), (Value.int .i64 x123), (Value.int .i64 x124)] w125 a126 0 fun w127 => Ld (.int .i64) w127 (a126.add 0) fun x128 => Ld (.int .i64) w127 (a126.add 1) fun x129 => Ld (.int .i64) w127 (a126.add 2) fun x130 => Ld (.int .i64) w127 (a126.add 3) fun x131 => Ld (.int .i64) w127 (a126.add 4) fun x132 => Ld (.int .i64) w127 (a126.add 5) fun x133 => Ld (.int .i64) w127 (a126.add 6) fun x134 => iw (some a79) x128 x129 x130 x131 x132 x133 x134 w127 fun r135 w136 => next116 ((IntKind.i64.wrap (s114.1 + 1)), ()) w136
 else
 K (some a79) 0 w115)) (0, ()) w112)) := okF cZ Tryz.func6 (.seq .leaf (.seq .leaf (.seq .leaf (.seq .leaf (.seq .leaf (.seq .leaf (.seq .leaf (.seq .leaf (.seq (.seq .leaf (.blk (.loop [(76, (.int .i64))] .leaf))) .leaf))))))))) (by kernel_rfl)
theorem NU { w K} : aH (kV  w K)
 (Al w (.cells ⟨(fG 0 0 0 0 0 0 0 0 0 0 0 0 0 0 0 0 ⟨none, 0, 0⟩ ⟨none, 0, 0⟩ 0 0 0 0 0 0 0 0 0 0 0 0 0 0 0 0 0 ⟨none, 0, 0⟩)⟩ 33) fun a2 w1 => Al w1 (.cells ⟨[(Value.int .i64 8193), (Value.int .i64 3512), (Value.int .i64 0), (Value.int .i64 0), (Value.int .i64 0), (Value.int .i64 0), (Value.int .i64 0), (Value.int .i64 1)]⟩ 3) fun a4 w3 => qy ⟨(some a4), 8, 8⟩ w3 fun r5 r6 r7 r8 r9 r10 r11 r12 r13 r14 r15 r16 r17 r18 r19 r20 w21 => Al w21 (.cells ⟨[(Value.int .i64 8193), (Value.int .i64 3512), (Value.int .i64 1), (Value.int .i64 0), (Value.int .i64 0), (Value.int .i64 0), (Value.int .i64 0), (Value.int .i64 1)]⟩ 3) fun a23 w22 => qy ⟨(some a23), 8, 8⟩ w22 fun r24 r25 r26 r27 r28 r29 r30 r31 r32 r33 r34 r35 r36 r37 r38 r39 w40 => Al w40 (.cells ⟨[(Value.int .i64 8193), (Value.int .i64 3512), (Value.int .i64 2), (Value.int .i64 0), (Value.int .i64 0), (Value.int .i64 0), (Value.int .i64 0), (Value.int .i64 1)]⟩ 3) fun a42 w41 => qy ⟨(some a42), 8, 8⟩ w41 fun r43 r44 r45 r46 r47 r48 r49 r50 r51 r52 r53 r54 r55 r56 r57 r58 w59 => Al w59 (.cells ⟨(abM r24 r25 r26 r27 r28 r29 r30 r31 r32 r33 r34 r35 r36 r37 r38 r39 r43 r44 r45 r46 r47 r48 r49 r50 r51 r52 r53 r54 r55 r56 r57 r58)⟩ 28) fun a61 w60 => Al w60 (.cells ⟨[(Value.int .i64 3325256705)]⟩ 3) fun a63 w62 => iT (fG r5 r6 r7 r8 r9 r10 r11 r12 r13 r14 r15 r16 r17 r18 r19 r20 ⟨(some a61), 2, 2⟩ ⟨(some a63), 1, 1⟩ 1024 65535 16 64 128 8 1048576 1500 1500 64 0 2 300 7440 240 60 60 ⟨none, 0, 0⟩) w62 a2 0 fun w64 => uT w64 a2 fun y65 y66 y67 y68 y69 y70 y71 y72 y73 y74 y75 y76 y77 y78 y79 y80 y81 y82 y83 y84 y85 y86 y87 y88 y89 y90 y91 y92 y93 y94 y95 y96 y97 y98 y99 y100 => K y65 y66 y67 y68 y69 y70 y71 y72 y73 y74 y75 y76 y77 y78 y79 y80 y81 y82 y83 y84 y85 y86 y87 y88 y89 y90 y91 y92 y93 y94 y95 y96 y97 y98 y99 y100 w64) := okF cZ Tryz.func7 .leaf (by kernel_rfl)
theorem Sz {a0 a1 w K} : aH (qC a0 a1 w K)
 (let J3 : Bool -> Prop := fun j4 => ((bif j4 then
 K none 1 w
 else
 qI a1 w fun r5 r6 w7 => (bif (r6 != 0) then
 K none r6 w7
 else
 jJ a0 w7 fun r8 w9 => Al w9 (.cells ⟨[(Value.pointer a0), (Value.pointer r5), (Value.map none), (Value.map none), (Value.int .i64 r8), (Value.int .i64 0), (Value.int .i64 a1)]⟩ 111) fun a11 w10 => Al w10 (.map #[] 0) fun a13 w12 => Al w12 (.map #[] 0) fun a15 w14 => Pt (some a11) fun a16 => St w14 (a16.add 2) (Value.map (some w10.heap.size)) fun w17 => Pt (some a11) fun a18 => St w17 (a18.add 3) (Value.map (some w12.heap.size)) fun w19 => Pt (some a11) fun a20 => Ld (.int .i64) w19 (a20.add 4) fun x21 => dY r5 x21 w19 fun r22 w23 => K (some a11) 0 w23)))
 (bif (Option.isNone a0) then
 J3 true
 else
 (bif (decide (a1 < 1)) then
 J3 true
 else
 J3 (decide (a1 > 4096))))) := okF cZ Tryz.func8 .leaf (by kernel_rfl)
theorem LC { w K} : aH (lK  w K)
 (kV  w fun r1 r2 r3 r4 r5 r6 r7 r8 r9 r10 r11 r12 r13 r14 r15 r16 r17 r18 r19 r20 r21 r22 r23 r24 r25 r26 r27 r28 r29 r30 r31 r32 r33 r34 r35 r36 w37 => wu r1 r2 r3 r4 r5 r6 r7 r8 r9 r10 r11 r12 r13 r14 r15 r16 r17 r18 r19 r20 r21 r22 r23 r24 r25 r26 r27 r28 r29 r30 r31 r32 r33 r34 r35 r36 w37 fun r38 r39 w40 => qC r38 4 w40 fun r41 r42 w43 => let J44 : Bool -> Prop := fun j45 => ((bif j45 then
 K false w43
 else
 mW 1 167772161 60 80 8080 w43 fun r46 w47 => dW r41 1 167772161 r46 w47 fun r48 r49 w50 => sJ r48 w50 fun r51 r52 r53 r54 r55 r56 r57 r58 r59 r60 r61 r62 r63 r64 r65 r66 r67 r68 r69 r70 r71 r72 r73 r74 r75 r76 r77 r78 r79 r80 r81 r82 r83 r84 r85 r86 w87 => Al w87 (.cells ⟨(AZ 0 0 0 0 0 0 0 0 0 0 0 0 0 0 0 0 0 0 0 0 0 0 0 0 0 0 0 0 0 0 0 0 0 0 0)⟩ 53) fun a89 w88 => iT (AZ r51 r52 r53 r54 r55 r56 r57 r58 r59 r60 r61 r62 r63 r64 r65 r66 r67 r68 r69 r70 r71 r72 r73 r74 r75 r76 r77 r78 r79 r80 r81 r82 r83 r84 r85) w88 a89 0 fun w90 => let J91 : Bool -> World -> Prop := fun j92 w93 => (K j92 w93)
 (bif (r49 == 0) then
 (bif (r86 == 0) then
 Ld (.int .i64) w90 a89 fun x94 => (bif (x94 == 0) then
 Ld (.int .i64) w90 (a89.add 2) fun x95 => (bif (x95 == 60) then
 fC r38 w90 fun r96 r97 r98 r99 r100 r101 r102 w103 => (bif ((r97.len : Int) == 1) then
 bY r41 60 w103 fun r104 w105 => (bif (r104 == 1) then
 fC r38 w105 fun r106 r107 r108 r109 r110 r111 r112 w113 => J91 ((r107.len : Int) == 0) w113
 else
 J91 false w105)
 else
 J91 false w103)
 else
 J91 false w90)
 else
 J91 false w90)
 else
 J91 false w90)
 else
 J91 false w90)))
 (bif (r39 != 0) then
 J44 true
 else
 (bif (r42 != 0) then
 J44 true
 else
 J44 (Option.isNone r41)))) := okF cZ Tryz.func9 .leaf (by kernel_rfl)
theorem CG {a0 a1 a2 a3 w K} : aH (dW a0 a1 a2 a3 w K)
 (gq a0 w fun r5 w6 => (bif (!r5) then
 K ⟨none, 0, 0⟩ 2 w6
 else
 BR a3 w6 fun r7 r8 r9 r10 r11 r12 r13 r14 r15 r16 r17 r18 r19 r20 r21 r22 r23 r24 r25 r26 r27 r28 r29 r30 r31 r32 r33 r34 r35 r36 r37 r38 r39 r40 w41 => Al w41 (.cells ⟨(dw 0 0 0 0 0 0 0 0 0 0 0 0 0 0 0 0 0 0 0 0 0 0 0 0 0 0 0 0 0 0 0 0 0)⟩ 51) fun a43 w42 => iT (dw r7 r8 r9 r10 r11 r12 r13 r14 r15 r16 r17 r18 r19 r20 r21 r22 r23 r24 r25 r26 r27 r28 r29 r30 r31 r32 r33 r34 r35 r36 r37 r38 r39) w42 a43 0 fun w44 => (bif (r40 != 0) then
 K ⟨none, 0, 0⟩ r40 w44
 else
 let J45 : Int -> World -> Prop := fun j46 w47 => (let J48 : World -> Prop := fun w49 => (Pt a0 fun a50 => Ld (.int .i64) w49.drew (a50.add 4) fun x51 => fH w49.drew a43 fun x52 x53 x54 x55 x56 x57 x58 x59 x60 x61 x62 x63 x64 x65 x66 x67 x68 x69 x70 x71 x72 x73 x74 x75 x76 x77 x78 x79 x80 x81 x82 x83 x84 => n_ j46 (sW .i64 x51 4294967295) x52 x53 x54 x55 x56 x57 x58 x59 x60 x61 x62 x63 x64 x65 x66 x67 x68 x69 x70 x71 x72 x73 x74 x75 x76 x77 x78 x79 x80 x81 x82 x83 x84 w49.drew fun r85 r86 w87 => K r85 r86 w87)
 (bif (j46 != 0) then
 St w47 a43 (Value.int .i64 30) fun w88 => J48 w88
 else
 J48 w47))
 ku w44.drew (a43.add 1) fun x89 x90 x91 x92 x93 x94 x95 x96 x97 x98 x99 x100 x101 x102 x103 x104 => ru a2 w44.drew fun r105 r106 r107 r108 r109 r110 r111 r112 r113 r114 r115 r116 r117 r118 r119 r120 w121 => Zm (dF x89 x90 x91 x92 x93 x94 x95 x96 x97 x98 x99 x100 x101 x102 x103 x104) w121 (a43.add 1) 0 (
 (bif ((x89 == r105) && ((x90 == r106) && ((x91 == r107) && ((x92 == r108) && ((x93 == r109) && ((x94 == r110) && ((x95 == r111) && ((x96 == r112) && ((x97 == r113) && ((x98 == r114) && ((x99 == r115) && ((x100 == r116) && ((x101 == r117) && ((x102 == r118) && ((x103 == r119) && ((x104 == r120) && true)))))))))))))))) then
 Ld (.int .i64) w121 (a43.add 29) fun x122 => Ld (.int .i64) w121 (a43.add 30) fun x123 => fH w121 a43 fun x124 x125 x126 x127 x128 x129 x130 x131 x132 x133 x134 x135 x136 x137 x138 x139 x140 x141 x142 x143 x144 x145 x146 x147 x148 x149 x150 x151 x152 x153 x154 x155 x156 => rM a0 a1 x122 a2 x123 x124 x125 x126 x127 x128 x129 x130 x131 x132 x133 x134 x135 x136 x137 x138 x139 x140 x141 x142 x143 x144 x145 x146 x147 x148 x149 x150 x151 x152 x153 x154 x155 x156 w121 fun r157 r158 r159 r160 r161 r162 r163 r164 r165 r166 r167 r168 r169 r170 r171 r172 r173 r174 r175 r176 r177 r178 r179 r180 r181 r182 r183 r184 r185 r186 r187 r188 r189 r190 w191 => iT (dw r158 r159 r160 r161 r162 r163 r164 r165 r166 r167 r168 r169 r170 r171 r172 r173 r174 r175 r176 r177 r178 r179 r180 r181 r182 r183 r184 r185 r186 r187 r188 r189 r190) w191 a43 0 fun w192 => J45 r157 w192
 else
 J45 12 w121))))) := okF cZ Tryz.func10 .leaf (by kernel_rfl)
theorem QF {a0 a1 a2 a3 a4 w K} : aH (mW a0 a1 a2 a3 a4 w K)
 (ru a1 w fun r6 r7 r8 r9 r10 r11 r12 r13 r14 r15 r16 r17 r18 r19 r20 r21 w22 => uJ a2 r6 r7 r8 r9 r10 r11 r12 r13 r14 r15 r16 r17 r18 r19 r20 r21 0 0 0 0 0 0 0 0 0 0 0 0 17 a3 a4 3325256705 w22 fun r23 r24 w25 => K r23 w25) := okF cZ Tryz.func11 .leaf (by kernel_rfl)
theorem zC {a0 a1 w K} : aH (bY a0 a1 w K)
 (gq a0 w fun r3 w4 => (bif (!r3) then
 K 0 w4
 else
 Pt a0 fun a5 => Ld (.int .i64) w4 (a5.add 4) fun x6 => Pt a0 fun a7 => St w4 (a7.add 4) (Value.int .i64 (if (if (1099511627776 : Int) < a1 then 1099511627776 else a1) > x6 then (if (1099511627776 : Int) < a1 then 1099511627776 else a1) else x6)) fun w8 => Pt a0 fun a9 => Ld .ptr w8.drew (a9.add 1) fun x10 => Pt a0 fun a11 => Ld (.int .i64) w8.drew (a11.add 4) fun x12 => dY x10 x12 w8.drew fun r13 w14 => cu (S := Int × Int × Unit) (fun s15 w16 next17 => (bif (decide (s15.2.1 < (r13.len : Int))) then
 let J18 : Int -> World -> Prop := fun j19 w20 => (next17 (j19, (IntKind.i64.wrap (s15.2.1 + 1)), ()) w20)
 bM r13 1 s15.2.1 fun a21 => Ld (.int .i64) w16 a21 fun x22 => Pt a0 fun a23 => Ld .map w16 (a23.add 3) fun x24 => oL Tryz.prog 3 .ptr x24 (Value.int .i64 x22) (Value.pointer none) w16 fun x25 => Pt x25 fun a26 => Ld (.int .i64) w16.drew (a26.add 7) fun x27 => Pt a0 fun a28 => Ld (.int .i64) w16.drew (a28.add 4) fun x29 => (bif (decide (x27 > x29)) then
 Pt a0 fun a30 => Ld .ptr w16.drew (a30.add 1) fun x31 => g_ x31 x22 1099511627776 w16.drew fun r32 w33 => J18 s15.1 w33
 else
 gV a0 x25 w16.drew fun w34 => J18 (IntKind.i64.wrap (s15.1 + 1)) w34)
 else
 K s15.1 w16)) (0, 0, ()) w14)) := okF cZ Tryz.func12 (.seq .leaf (.seq .leaf (.seq .leaf (.seq .leaf (.seq (.seq .leaf (.blk (.loop [(5, (.int .i64)), (32, (.int .i64))] .leaf))) .leaf))))) (by kernel_rfl)
theorem Ej {a0 w K} : aH (fC a0 w K)
 (Al w (.cells ⟨[(Value.int .i64 0), (Value.slice none 0 0), (Value.slice none 0 0), (Value.int .i64 0), (Value.int .i64 0), (Value.int .i64 0), (Value.slice none 0 0)]⟩ 47) fun a3 w2 => dJ a0 w2 fun r4 w5 => (bif (!r4) then
 iT [(Value.int .i64 0), (Value.slice none 0 0), (Value.slice none 0 0), (Value.int .i64 0), (Value.int .i64 0), (Value.int .i64 0), (Value.slice none 0 0)] w5 a3 0 fun w6 => Ld (.int .i64) w6 (a3.add 0) fun y7 => Ld .slice w6 (a3.add 1) fun y8 => Ld .slice w6 (a3.add 2) fun y9 => Ld (.int .i64) w6 (a3.add 3) fun y10 => Ld (.int .i64) w6 (a3.add 4) fun y11 => Ld (.int .i64) w6 (a3.add 5) fun y12 => Ld .slice w6 (a3.add 6) fun y13 => K y7 y8 y9 y10 y11 y12 y13 w6
 else
 let J14 : Addr -> World -> Prop := fun j15 w16 => (Al w16 (.map #[] 0) fun a18 w17 => Al w17 (.cells ⟨[(Value.map none)]⟩ 125) fun a20 w19 => St w19 a20 (Value.map (some w16.heap.size)) fun w21 => Pt a0 fun a22 => Ld .ptr w21 (a22.add 2) fun x23 => xR x23 w21 fun r24 w25 => Ep Tryz.prog none [.one (.int .i64), .agg [(.int .i64), (.int .i64), (.int .i64), (.int .i64), (.int .i64), (.int .i64), (.int .i64), .bool]] r24 w25 (fun l26 x27 W28 Kb29 => Al W28 (.cells ⟨[(Value.int .i64 0), (Value.int .i64 0), (Value.int .i64 0), (Value.int .i64 0), (Value.int .i64 0), (Value.int .i64 0), (Value.int .i64 0), (Value.bool false)]⟩ 130) fun a31 w30 => iT [(Value.int .i64 x27.2.1.1), (Value.int .i64 x27.2.1.2.1), (Value.int .i64 x27.2.1.2.2.1), (Value.int .i64 x27.2.1.2.2.2.1), (Value.int .i64 x27.2.1.2.2.2.2.1), (Value.int .i64 x27.2.1.2.2.2.2.2.1), (Value.int .i64 x27.2.1.2.2.2.2.2.2.1), (Value.bool x27.2.1.2.2.2.2.2.2.2.1)] w30 a31 0 fun w32 => w32.heap[l26]? = W28.heap[l26]? ∧
 Ld .map (aA w32 l26) a20 fun x33 => Ld .slice (aA w32 l26) (j15.add 1) fun x34 => tH Tryz.prog 3 x33 (Value.int .i64 x27.1) (Value.int .i64 (x34.len : Int)) (aA w32 l26) fun w35 => Ld .slice w35 (j15.add 1) fun x36 => Ld (.int .i64) w35 (a31.add 0) fun x37 => Ld (.int .i64) w35 (a31.add 1) fun x38 => Ld (.int .i64) w35 (a31.add 2) fun x39 => Ld (.int .i64) w35 (a31.add 3) fun x40 => Ld (.int .i64) w35 (a31.add 4) fun x41 => Ld (.int .i64) w35 (a31.add 5) fun x42 => Ld (.int .i64) w35 (a31.add 6) fun x43 => Ld .bool w35 (a31.add 7) fun x44 => Al w35 (.cells ⟨[(Value.int .i64 x37), (Value.int .i64 x38), (Value.int .i64 x39), (Value.int .i64 x40), (Value.int .i64 x41), (Value.int .i64 x42), (Value.int .i64 x43), (Value.bool x44)]⟩ 130) fun a46 w45 => qg 130 8 64 [(Value.int .i64 0), (Value.int .i64 0), (Value.int .i64 0), (Value.int .i64 0), (Value.int .i64 0), (Value.int .i64 0), (Value.int .i64 0), (Value.bool false)] x36 ⟨(some a46), 1, 1⟩ w45 fun s47 w48 => St w48 (j15.add 1) (Value.slice s47.a s47.len s47.cap) fun w49 => Kb29 .normal w49)
 (fun w50 => Pt a0 fun a51 => Ld .ptr w50 (a51.add 3) fun x52 => oD x52 w50 fun r53 w54 => Ep Tryz.prog none [.one (.int .i64), .agg [(.int .i64), (.int .i64), (.int .i64), (.int .i64), (.int .i64)]] r53 w54 (fun l55 x56 W57 Kb58 => Al W57 (.cells ⟨[(Value.int .i64 0), (Value.int .i64 0), (Value.int .i64 0), (Value.int .i64 0), (Value.int .i64 0)]⟩ 137) fun a60 w59 => iT [(Value.int .i64 x56.2.1.1), (Value.int .i64 x56.2.1.2.1), (Value.int .i64 x56.2.1.2.2.1), (Value.int .i64 x56.2.1.2.2.2.1), (Value.int .i64 x56.2.1.2.2.2.2.1)] w59 a60 0 fun w61 => w61.heap[l55]? = W57.heap[l55]? ∧
 Ld .map (aA w61 l55) a20 fun x62 => Ld (.int .i64) (aA w61 l55) a60 fun x63 => oL Tryz.prog 3 (.int .i64) x62 (Value.int .i64 x63) (Value.int .i64 0) (aA w61 l55) fun x64 => St (aA w61 l55) a60 (Value.int .i64 x64) fun w65 => Ld .slice w65 (j15.add 2) fun x66 => Ld (.int .i64) w65 (a60.add 0) fun x67 => Ld (.int .i64) w65 (a60.add 1) fun x68 => Ld (.int .i64) w65 (a60.add 2) fun x69 => Ld (.int .i64) w65 (a60.add 3) fun x70 => Ld (.int .i64) w65 (a60.add 4) fun x71 => Al w65 (.cells ⟨[(Value.int .i64 x67), (Value.int .i64 x68), (Value.int .i64 x69), (Value.int .i64 x70), (Value.int .i64 x71)]⟩ 137) fun a73 w72 => qg 137 5 40 [(Value.int .i64 0), (Value.int .i64 0), (Value.int .i64 0), (Value.int .i64 0), (Value.int .i64 0)] x66 ⟨(some a73), 1, 1⟩ w72 fun s74 w75 => St w75 (j15.add 2) (Value.slice s74.a s74.len s74.cap) fun w76 => Kb58 .normal w76)
 (fun w77 => Ld (.int .i64) w77 (j15.add 0) fun x78 => Ld .slice w77 (j15.add 1) fun x79 => Ld .slice w77 (j15.add 2) fun x80 => Ld (.int .i64) w77 (j15.add 3) fun x81 => Ld (.int .i64) w77 (j15.add 4) fun x82 => Ld (.int .i64) w77 (j15.add 5) fun x83 => Ld .slice w77 (j15.add 6) fun x84 => iT [(Value.int .i64 x78), (Value.slice x79.a x79.len x79.cap), (Value.slice x80.a x80.len x80.cap), (Value.int .i64 x81), (Value.int .i64 x82), (Value.int .i64 x83), (Value.slice x84.a x84.len x84.cap)] w77 a3 0 fun w85 => w85.heap[w54.heap.size]? = some (.deferred (some [])) ∧
 (w85.putObj w54.heap.size (.deferred none)).heap[w25.heap.size]? = some (.deferred (some [])) ∧
 Ld (.int .i64) ((w85.putObj w54.heap.size (.deferred none)).putObj w25.heap.size (.deferred none)) (a3.add 0) fun y86 => Ld .slice ((w85.putObj w54.heap.size (.deferred none)).putObj w25.heap.size (.deferred none)) (a3.add 1) fun y87 => Ld .slice ((w85.putObj w54.heap.size (.deferred none)).putObj w25.heap.size (.deferred none)) (a3.add 2) fun y88 => Ld (.int .i64) ((w85.putObj w54.heap.size (.deferred none)).putObj w25.heap.size (.deferred none)) (a3.add 3) fun y89 => Ld (.int .i64) ((w85.putObj w54.heap.size (.deferred none)).putObj w25.heap.size (.deferred none)) (a3.add 4) fun y90 => Ld (.int .i64) ((w85.putObj w54.heap.size (.deferred none)).putObj w25.heap.size (.deferred none)) (a3.add 5) fun y91 => Ld .slice ((w85.putObj w54.heap.size (.deferred none)).putObj w25.heap.size (.deferred none)) (a3.add 6) fun y92 => K y86 y87 y88 y89 y90 y91 y92 ((w85.putObj w54.heap.size (.deferred none)).putObj w25.heap.size (.deferred none)))
 (fun w93 => w93.heap[w54.heap.size]? = some (.deferred (some [])) ∧
 (w93.putObj w54.heap.size (.deferred none)).heap[w25.heap.size]? = some (.deferred (some [])) ∧
 Ld (.int .i64) ((w93.putObj w54.heap.size (.deferred none)).putObj w25.heap.size (.deferred none)) (a3.add 0) fun y94 => Ld .slice ((w93.putObj w54.heap.size (.deferred none)).putObj w25.heap.size (.deferred none)) (a3.add 1) fun y95 => Ld .slice ((w93.putObj w54.heap.size (.deferred none)).putObj w25.heap.size (.deferred none)) (a3.add 2) fun y96 => Ld (.int .i64) ((w93.putObj w54.heap.size (.deferred none)).putObj w25.heap.size (.deferred none)) (a3.add 3) fun y97 => Ld (.int .i64) ((w93.putObj w54.heap.size (.deferred none)).putObj w25.heap.size (.deferred none)) (a3.add 4) fun y98 => Ld (.int .i64) ((w93.putObj w54.heap.size (.deferred none)).putObj w25.heap.size (.deferred none)) (a3.add 5) fun y99 => Ld .slice ((w93.putObj w54.heap.size (.deferred none)).putObj w25.heap.size (.deferred none)) (a3.add 6) fun y100 => K y94 y95 y96 y97 y98 y99 y100 ((w93.putObj w54.heap.size (.deferred none)).putObj w25.heap.size (.deferred none)))
 [])
 (fun w101 => w101.heap[w25.heap.size]? = some (.deferred (some [])) ∧
 Ld (.int .i64) (w101.putObj w25.heap.size (.deferred none)) (a3.add 0) fun y102 => Ld .slice (w101.putObj w25.heap.size (.deferred none)) (a3.add 1) fun y103 => Ld .slice (w101.putObj w25.heap.size (.deferred none)) (a3.add 2) fun y104 => Ld (.int .i64) (w101.putObj w25.heap.size (.deferred none)) (a3.add 3) fun y105 => Ld (.int .i64) (w101.putObj w25.heap.size (.deferred none)) (a3.add 4) fun y106 => Ld (.int .i64) (w101.putObj w25.heap.size (.deferred none)) (a3.add 5) fun y107 => Ld .slice (w101.putObj w25.heap.size (.deferred none)) (a3.add 6) fun y108 => K y102 y103 y104 y105 y106 y107 y108 (w101.putObj w25.heap.size (.deferred none)))
 [])
 Pt a0 fun a109 => Ld (.int .i64) w5.drew (a109.add 41) fun x110 => Pt a0 fun a111 => Ld .ptr w5.drew (a111.add 4) fun x112 => (fK x112 w5.drew fun r113 w114 => w114.cell? (a109.add 41) = some (Value.int .i64 x110) ∧
 Al w114 (.cells ⟨[(Value.int .i64 0), (Value.slice none 0 0), (Value.slice none 0 0), (Value.int .i64 0), (Value.int .i64 0), (Value.int .i64 0), (Value.slice none 0 0)]⟩ 47) fun a116 w115 => w115.cell? (a111.add 4) = some (Value.pointer x112) ∧
 w115.cell? (a109.add 41) = some (Value.int .i64 x110) ∧
 iT [(Value.int .i64 x110), (Value.slice none 0 0), (Value.slice none 0 0), (Value.int .i64 0), (Value.int .i64 0), (Value.int .i64 r113), (Value.slice none 0 0)] w115 a116 0 fun w117 => J14 a116 w117) ∧
 (Al w5.drew (.cells ⟨[(Value.int .i64 0), (Value.slice none 0 0), (Value.slice none 0 0), (Value.int .i64 0), (Value.int .i64 0), (Value.int .i64 0), (Value.slice none 0 0)]⟩ 47) fun a119 w118 => w118.cell? (a111.add 4) = some (Value.pointer x112) ∧
 w118.cell? (a109.add 41) = some (Value.int .i64 x110) ∧
 fK x112 w118 fun r120 w121 => w121.cell? (a109.add 41) = some (Value.int .i64 x110) ∧
 iT [(Value.int .i64 x110), (Value.slice none 0 0), (Value.slice none 0 0), (Value.int .i64 0), (Value.int .i64 0), (Value.int .i64 r120), (Value.slice none 0 0)] w121 a119 0 fun w122 => J14 a119 w122))) := okF cZ Tryz.func13 (.seq .leaf (.seq .leaf (.seq .leaf (.seq .leaf (.seq (.seq .leaf (.blk (.rng [.one (.int .i64), .agg [(.int .i64), (.int .i64), (.int .i64), (.int .i64), (.int .i64), (.int .i64), (.int .i64), .bool]] .leaf .leaf))) (.seq (.seq .leaf (.blk (.rng [.one (.int .i64), .agg [(.int .i64), (.int .i64), (.int .i64), (.int .i64), (.int .i64)]] .leaf .leaf))) .leaf)))))) (by kernel_rfl)
theorem SK {a0 w K} : aH (sJ a0 w K)
 (Al w (.cells ⟨(AZ 0 0 0 0 0 0 0 0 0 0 0 0 0 0 0 0 0 0 0 0 0 0 0 0 0 0 0 0 0 0 0 0 0 0 0)⟩ 53) fun a3 w2 => zI a0 129 w2 fun r4 r5 r6 r7 r8 r9 r10 r11 r12 r13 r14 r15 r16 r17 r18 r19 r20 r21 r22 r23 r24 r25 r26 r27 r28 r29 r30 r31 r32 r33 r34 r35 r36 r37 w38 => Al w38 (.cells ⟨(dw 0 0 0 0 0 0 0 0 0 0 0 0 0 0 0 0 0 0 0 0 0 0 0 0 0 0 0 0 0 0 0 0 0)⟩ 51) fun a40 w39 => iT (dw r4 r5 r6 r7 r8 r9 r10 r11 r12 r13 r14 r15 r16 r17 r18 r19 r20 r21 r22 r23 r24 r25 r26 r27 r28 r29 r30 r31 r32 r33 r34 r35 r36) w39 a40 0 fun w41 => (bif (r37 != 0) then
 iT (AZ 0 0 0 0 0 0 0 0 0 0 0 0 0 0 0 0 0 0 0 0 0 0 0 0 0 0 0 0 0 0 0 0 0 0 0) w41 a3 0 fun w42 => aaw w42 a3 fun y43 y44 y45 y46 y47 y48 y49 y50 y51 y52 y53 y54 y55 y56 y57 y58 y59 y60 y61 y62 y63 y64 y65 y66 y67 y68 y69 y70 y71 y72 y73 y74 y75 y76 y77 => K y43 y44 y45 y46 y47 y48 y49 y50 y51 y52 y53 y54 y55 y56 y57 y58 y59 y60 y61 y62 y63 y64 y65 y66 y67 y68 y69 y70 y71 y72 y73 y74 y75 y76 y77 r37 w42
 else
 iT (dF 0 0 0 0 0 0 0 0 0 0 0 0 0 0 0 0) w41 (a40.add 1) 0 fun w78 => wQ a0 8 4 w78 fun r79 r80 w81 => bM a0 1 3 fun a82 => Ld (.int .u8) w81.drew a82 fun x83 => fH w81.drew a40 fun x84 x85 x86 x87 x88 x89 x90 x91 x92 x93 x94 x95 x96 x97 x98 x99 x100 x101 x102 x103 x104 x105 x106 x107 x108 x109 x110 x111 x112 x113 x114 x115 x116 => iT (AZ (IntKind.i64.wrap x83) r79 x84 x85 x86 x87 x88 x89 x90 x91 x92 x93 x94 x95 x96 x97 x98 x99 x100 x101 x102 x103 x104 x105 x106 x107 x108 x109 x110 x111 x112 x113 x114 x115 x116) w81.drew a3 0 fun w117 => aaw w117 a3 fun y118 y119 y120 y121 y122 y123 y124 y125 y126 y127 y128 y129 y130 y131 y132 y133 y134 y135 y136 y137 y138 y139 y140 y141 y142 y143 y144 y145 y146 y147 y148 y149 y150 y151 y152 => K y118 y119 y120 y121 y122 y123 y124 y125 y126 y127 y128 y129 y130 y131 y132 y133 y134 y135 y136 y137 y138 y139 y140 y141 y142 y143 y144 y145 y146 y147 y148 y149 y150 y151 y152 0 w117)) := okF cZ Tryz.func14 .leaf (by kernel_rfl)
theorem MS {A0 A1 A2 A3 A4 A5 A6 A7 A8 A9 A10 A11 A12 A13 A14 A15 A16 A17 A18 A19 A20 A21 A22 A23 A24 A25 A26 A27 A28 A29 A30 A31 A32 A33 A34 A35 w K} : aH (EF A0 A1 A2 A3 A4 A5 A6 A7 A8 A9 A10 A11 A12 A13 A14 A15 A16 A17 A18 A19 A20 A21 A22 A23 A24 A25 A26 A27 A28 A29 A30 A31 A32 A33 A34 A35 w K)
 (Al w (.cells ⟨(fG A0 A1 A2 A3 A4 A5 A6 A7 A8 A9 A10 A11 A12 A13 A14 A15 A16 A17 A18 A19 A20 A21 A22 A23 A24 A25 A26 A27 A28 A29 A30 A31 A32 A33 A34 A35)⟩ 33) fun a3 w2 => let J4 : Bool -> World -> Prop := fun j5 w6 => (K j5 w6)
 uT w2 a3 fun x7 x8 x9 x10 x11 x12 x13 x14 x15 x16 x17 x18 x19 x20 x21 x22 x23 x24 x25 x26 x27 x28 x29 x30 x31 x32 x33 x34 x35 x36 x37 x38 x39 x40 x41 x42 => o_ x7 x8 x9 x10 x11 x12 x13 x14 x15 x16 x17 x18 x19 x20 x21 x22 x23 x24 x25 x26 x27 x28 x29 x30 x31 x32 x33 x34 x35 x36 x37 x38 x39 x40 x41 x42 w2 fun r43 w44 => (bif r43 then
 uT w44 a3 fun x45 x46 x47 x48 x49 x50 x51 x52 x53 x54 x55 x56 x57 x58 x59 x60 x61 x62 x63 x64 x65 x66 x67 x68 x69 x70 x71 x72 x73 x74 x75 x76 x77 x78 x79 x80 => qh x45 x46 x47 x48 x49 x50 x51 x52 x53 x54 x55 x56 x57 x58 x59 x60 x61 x62 x63 x64 x65 x66 x67 x68 x69 x70 x71 x72 x73 x74 x75 x76 x77 x78 x79 x80 w44 fun r81 w82 => J4 (r81 == 0) w82
 else
 J4 false w44)) := okF cZ Tryz.func15 .leaf (by kernel_rfl)
theorem JO {A0 A1 A2 A3 A4 A5 A6 A7 A8 A9 A10 A11 A12 A13 A14 A15 A16 A17 A18 A19 A20 A21 A22 A23 A24 A25 A26 A27 A28 A29 A30 A31 A32 A33 A34 A35 w K} : aH (ni A0 A1 A2 A3 A4 A5 A6 A7 A8 A9 A10 A11 A12 A13 A14 A15 A16 A17 A18 A19 A20 A21 A22 A23 A24 A25 A26 A27 A28 A29 A30 A31 A32 A33 A34 A35 w K)
 (Al w (.cells ⟨(fG A0 A1 A2 A3 A4 A5 A6 A7 A8 A9 A10 A11 A12 A13 A14 A15 A16 A17 A18 A19 A20 A21 A22 A23 A24 A25 A26 A27 A28 A29 A30 A31 A32 A33 A34 A35)⟩ 33) fun a3 w2 => uT w2 a3 fun x4 x5 x6 x7 x8 x9 x10 x11 x12 x13 x14 x15 x16 x17 x18 x19 x20 x21 x22 x23 x24 x25 x26 x27 x28 x29 x30 x31 x32 x33 x34 x35 x36 x37 x38 x39 => lg x4 x5 x6 x7 x8 x9 x10 x11 x12 x13 x14 x15 x16 x17 x18 x19 x20 x21 x22 x23 x24 x25 x26 x27 x28 x29 x30 x31 x32 x33 x34 x35 x36 x37 x38 x39 w2 fun r40 w41 => cu (S := Int × Unit) (fun s42 w43 next44 => (bif (decide (s42.1 < (r40.len : Int))) then
 bM r40 3 s42.1 fun a45 => Ld (.int .i64) w43 (a45.add 0) fun x46 => Ld (.int .i64) w43 (a45.add 1) fun x47 => Ld (.int .i64) w43 (a45.add 2) fun x48 => Al w43 (.cells ⟨[(Value.int .i64 0), (Value.int .i64 0), (Value.int .i64 0)]⟩ 187) fun a50 w49 => iT [(Value.int .i64 x46), (Value.int .i64 x47), (Value.int .i64 x48)] w49 a50 0 fun w51 => Ld (.int .i64) w51 (a50.add 0) fun x52 => Ld (.int .i64) w51 (a50.add 1) fun x53 => Ld (.int .i64) w51 (a50.add 2) fun x54 => dM x52 x53 x54 w51 fun r55 w56 => (bif (!r55) then
 K 1 w56
 else
 next44 ((IntKind.i64.wrap (s42.1 + 1)), ()) w56)
 else
 let J57 : Bool -> World -> Prop := fun j58 w59 => ((bif j58 then
 K 1 w59
 else
 uT w59 a3 fun x60 x61 x62 x63 x64 x65 x66 x67 x68 x69 x70 x71 x72 x73 x74 x75 x76 x77 x78 x79 x80 x81 x82 x83 x84 x85 x86 x87 x88 x89 x90 x91 x92 x93 x94 x95 => j_ x60 x61 x62 x63 x64 x65 x66 x67 x68 x69 x70 x71 x72 x73 x74 x75 x76 x77 x78 x79 x80 x81 x82 x83 x84 x85 x86 x87 x88 x89 x90 x91 x92 x93 x94 x95 w59 fun r96 w97 => (bif r96 then
 K 9 w97
 else
 K 0 w97)))
 Ld (.int .i64) w43 (a3.add 28) fun x98 => nG x98 w43 fun r99 w100 => (bif (!r99) then
 J57 true w100
 else
 uT w100 a3 fun x101 x102 x103 x104 x105 x106 x107 x108 x109 x110 x111 x112 x113 x114 x115 x116 x117 x118 x119 x120 x121 x122 x123 x124 x125 x126 x127 x128 x129 x130 x131 x132 x133 x134 x135 x136 => nH x101 x102 x103 x104 x105 x106 x107 x108 x109 x110 x111 x112 x113 x114 x115 x116 x117 x118 x119 x120 x121 x122 x123 x124 x125 x126 x127 x128 x129 x130 x131 x132 x133 x134 x135 x136 w100 fun r137 w138 => J57 (!r137) w138))) (0, ()) w41) := okF cZ Tryz.func29 (.seq .leaf (.seq (.seq .leaf (.blk (.loop [(8, (.int .i64))] .leaf))) .leaf)) (by kernel_rfl)
theorem Si {a0 a1 a2 w K} : aH (wC a0 a1 a2 w K)
 (let J4 : Bool -> Prop := fun j5 => ((bif j5 then
 K none 1 w
 else
 cu (S := Int × Unit) (fun s6 w7 next8 => (bif (decide (s6.1 < (a0.len : Int))) then
 bM a0 1 s6.1 fun a9 => Ld (.int .i64) w7 a9 fun x10 => let J11 : Bool -> World -> Prop := fun j12 w13 => ((bif j12 then
 K none 1 w13
 else
 next8 ((IntKind.i64.wrap (s6.1 + 1)), ()) w13))
 jH x10 w7 fun r14 w15 => (bif (!r14) then
 J11 true w15
 else
 Bj a0 1 0 s6.1 fun s16 => bJ s16 x10 w15 fun r17 w18 => J11 r17 w18)
 else
 dR a0 w7 fun r19 w20 => Al w20 (.map #[] 0) fun a22 w21 => Al w21 (.cells ⟨[(Value.int .i64 a1), (Value.int .i64 a2), (Value.slice r19.a r19.len r19.cap), (Value.map (some w20.heap.size))]⟩ 194) fun a24 w23 => K (some a24) 0 w23)) (0, ()) w))
 (bif (decide ((a0.len : Int) < 1)) then
 J4 true
 else
 (bif (decide ((a0.len : Int) > 16)) then
 J4 true
 else
 (bif (decide (a1 < 1)) then
 J4 true
 else
 (bif (decide (a2 < a1)) then
 J4 true
 else
 J4 (decide (a2 >= 65536))))))) := okF cZ Tryz.func30 (.seq .leaf (.seq .leaf (.seq (.seq .leaf (.blk (.loop [(33, (.int .i64))] .leaf))) .leaf))) (by kernel_rfl)
theorem PE {a0 a1 w K} : aH (um a0 a1 w K)
 (let J3 : Bool -> Prop := fun j4 => ((bif j4 then
 K none 1 w
 else
 Ro 199 2 16 [(Value.int .i64 0), (Value.int .i64 0)] a0 a0 w fun s5 w6 => Al w6 (.cells ⟨[(Value.slice s5.a s5.len s5.cap)]⟩ 197) fun a8 w7 => Pt (some a8) fun a9 => Ld .slice w7 a9 fun x10 => cu (S := Int × Unit) (fun s11 w12 next13 => (bif (decide (s11.1 < (x10.len : Int))) then
 Pt (some a8) fun a14 => Ld .slice w12 a14 fun x15 => bM x15 2 s11.1 fun a16 => St w12 (a16.add 1) (Value.int .i64 a1) fun w17 => next13 ((IntKind.i64.wrap (s11.1 + 1)), ()) w17
 else
 K (some a8) 0 w12)) (0, ()) w7))
 (bif (decide (a0 < 1)) then
 J3 true
 else
 (bif (decide (a0 > 64)) then
 J3 true
 else
 (bif (decide (a1 < 0)) then
 J3 true
 else
 J3 (decide (a1 > 4096)))))) := okF cZ Tryz.func31 (.seq .leaf (.seq .leaf (.seq .leaf (.seq (.seq .leaf (.blk (.loop [(31, (.int .i64))] .leaf))) .leaf)))) (by kernel_rfl)
theorem SG {a0 w K} : aH (wK a0 w K)
 (let J2 : Bool -> Prop := fun j3 => ((bif j3 then
 K none 1 w
 else
 qF a0 w fun r4 r5 w6 => qF a0 w6 fun r7 r8 w9 => let J10 : Bool -> Prop := fun j11 => ((bif j11 then
 K none 1 w9
 else
 Ro 243 9 72 (MX 0 0 0 0 0 0 0 false false) a0 a0 w9 fun s12 w13 => Al w13 (.cells ⟨[(Value.slice s12.a s12.len s12.cap), (Value.pointer r4), (Value.pointer r7), (Value.int .i64 0)]⟩ 205) fun a15 w14 => K (some a15) 0 w14))
 (bif (r5 != 0) then
 J10 true
 else
 J10 (r8 != 0))))
 (bif (decide (a0 < 0)) then
 J2 true
 else
 J2 (decide (a0 > 4096)))) := okF cZ Tryz.func32 .leaf (by kernel_rfl)
theorem KR {a0 w K} : aH (pz a0 w K)
 (let J2 : Bool -> Prop := fun j3 => ((bif j3 then
 K none 1 w
 else
 qF a0 w fun r4 r5 w6 => (bif (r5 != 0) then
 K none r5 w6
 else
 Ro 246 6 48 [(Value.int .i64 0), (Value.int .i64 0), (Value.int .i64 0), (Value.int .i64 0), (Value.int .i64 0), (Value.bool false)] a0 a0 w6 fun s7 w8 => Al w8 (.map #[] 0) fun a10 w9 => Al w9 (.cells ⟨[(Value.slice s7.a s7.len s7.cap), (Value.pointer r4), (Value.map (some w8.heap.size)), (Value.int .i64 0)]⟩ 209) fun a12 w11 => K (some a12) 0 w11)))
 (bif (decide (a0 < 0)) then
 J2 true
 else
 J2 (decide (a0 > 4096)))) := okF cZ Tryz.func33 .leaf (by kernel_rfl)
theorem QL {a0 w K} : aH (qI a0 w K)
 (let J2 : Bool -> Prop := fun j3 => ((bif j3 then
 K none 1 w
 else
 Al w (.map #[] 0) fun a5 w4 => Al w4 (.cells ⟨(List.replicate 448 (Value.slice none 0 0) ++ ([(Value.map (some w.heap.size)), (Value.int .i64 0), (Value.int .i64 0), (Value.int .i64 a0)]))⟩ 216) fun a7 w6 => K (some a7) 0 w6))
 (bif (decide (a0 < 0)) then
 J2 true
 else
 J2 (decide (a0 > 1048576)))) := okF cZ Tryz.func34 .leaf (by kernel_rfl)
theorem FN {a0 B0 B1 B2 B3 B4 B5 B6 w K} : aH (iw a0 B0 B1 B2 B3 B4 B5 B6 w K)
 (Al w (.cells ⟨[(Value.int .i64 B0), (Value.int .i64 B1), (Value.int .i64 B2), (Value.int .i64 B3), (Value.int .i64 B4), (Value.int .i64 B5), (Value.int .i64 B6)]⟩ 105) fun a4 w3 => dJ a0 w3 fun r5 w6 => (bif (!r5) then
 K 2 w6
 else
 Ld (.int .i64) w6 (a4.add 0) fun x7 => Ld (.int .i64) w6 (a4.add 1) fun x8 => Ld (.int .i64) w6 (a4.add 2) fun x9 => Ld (.int .i64) w6 (a4.add 3) fun x10 => Ld (.int .i64) w6 (a4.add 4) fun x11 => Ld (.int .i64) w6 (a4.add 5) fun x12 => Ld (.int .i64) w6 (a4.add 6) fun x13 => jE a0 x7 x8 x9 x10 x11 x12 x13 w6 fun r14 w15 => (bif (!r14) then
 K 1 w15
 else
 Pt a0 fun a16 => Ld .ptr w15.drew (a16.add 2) fun x17 => Ld (.int .i64) w15.drew (a4.add 0) fun x18 => Ld (.int .i64) w15.drew (a4.add 1) fun x19 => Ld (.int .i64) w15.drew (a4.add 2) fun x20 => Ld (.int .i64) w15.drew (a4.add 3) fun x21 => jg x17 x18 x19 x20 x21 w15.drew fun r22 r23 w24 => Pt a0 fun a25 => Ld .ptr w24.drew (a25.add 2) fun x26 => Ld (.int .i64) w24.drew ((a4.add 4).add 0) fun x27 => Ld (.int .i64) w24.drew ((a4.add 4).add 1) fun x28 => Ld (.int .i64) w24.drew ((a4.add 4).add 2) fun x29 => kC x26 x27 x28 x29 w24.drew fun r30 r31 w32 => let J33 : Bool -> Prop := fun j34 => ((bif j34 then
 K 9 w32
 else
 Pt a0 fun a35 => Ld .ptr w32.drew (a35.add 1) fun x36 => Ld (.int .i64) w32.drew a4 fun x37 => Pt a0 fun a38 => Ld (.int .i64) w32.drew ((a38.add 5).add 20) fun x39 => iK x36 x37 w32.drew fun r40 w41 => w41.cell? ((a38.add 5).add 20) = some (Value.int .i64 x39) ∧
 (bif (decide (r40 >= x39)) then
 K 10 w41
 else
 iV a0 w41 fun r42 w43 => (bif r42 then
 K 7 w43
 else
 Pt a0 fun a44 => Ld .ptr w43.drew (a44.add 1) fun x45 => Ld (.int .i64) w43.drew a4 fun x46 => jh x45 x46 w43.drew fun r47 w48 => Pt a0 fun a49 => Ld .ptr w48.drew a49 fun x50 => Ld (.int .i64) w48.drew ((a4.add 4).add 0) fun x51 => Ld (.int .i64) w48.drew ((a4.add 4).add 1) fun x52 => Ld (.int .i64) w48.drew ((a4.add 4).add 2) fun x53 => jP x50 x51 x52 x53 w48.drew fun r54 w55 => Pt a0 fun a56 => Ld .ptr w55.drew (a56.add 2) fun x57 => Ld (.int .i64) w55.drew (a4.add 0) fun x58 => Ld (.int .i64) w55.drew (a4.add 1) fun x59 => Ld (.int .i64) w55.drew (a4.add 2) fun x60 => Ld (.int .i64) w55.drew (a4.add 3) fun x61 => Ld (.int .i64) w55.drew ((a4.add 4).add 0) fun x62 => Ld (.int .i64) w55.drew ((a4.add 4).add 1) fun x63 => Ld (.int .i64) w55.drew ((a4.add 4).add 2) fun x64 => pJ x57 x58 x59 x60 x61 x62 x63 x64 true w55.drew fun r65 r66 w67 => K r66 w67))))
 (bif r23 then
 J33 r23
 else
 J33 r31)))) := okF cZ Tryz.func35 .leaf (by kernel_rfl)
theorem TW {a0 w K} : aH (qy a0 w K)
 (Al w (.cells ⟨(dF 0 0 0 0 0 0 0 0 0 0 0 0 0 0 0 0)⟩ 28) fun a3 w2 => Al w2 (.cells ⟨(dF 0 0 0 0 0 0 0 0 0 0 0 0 0 0 0 0)⟩ 28) fun a5 w4 => cu (S := Int × Unit) (fun s6 w7 next8 => let J9 : Bool -> Prop := fun j10 => ((bif j10 then
 bM a0 1 s6.1 fun a11 => Ld (.int .i64) w7 a11 fun x12 => (65536 : Int) ≠ 0 ∧
 (65536 : Int) ≠ 0 ∧
 (256 : Int) ≠ 0 ∧
 (256 : Int) ≠ 0 ∧
 (0 : Int) <= (IntKind.i64.wrap (2 * s6.1)) ∧ (IntKind.i64.wrap (2 * s6.1)) < (16 : Int) ∧
 St w7 (a5.add (Int.toNat (IntKind.i64.wrap (2 * s6.1)) * 1)) (Value.int .u8 (IntKind.u8.wrap (IntKind.i64.wrap (Int.tdiv (Int.tmod (IntKind.i64.wrap ((Int.tmod x12 65536) + 65536)) 65536) 256)))) fun w13 => (0 : Int) <= (IntKind.i64.wrap ((IntKind.i64.wrap (2 * s6.1)) + 1)) ∧ (IntKind.i64.wrap ((IntKind.i64.wrap (2 * s6.1)) + 1)) < (16 : Int) ∧
 St w13 (a5.add (Int.toNat (IntKind.i64.wrap ((IntKind.i64.wrap (2 * s6.1)) + 1)) * 1)) (Value.int .u8 (IntKind.u8.wrap (Int.tmod (Int.tmod (IntKind.i64.wrap ((Int.tmod x12 65536) + 65536)) 65536) 256))) fun w14 => next8 ((IntKind.i64.wrap (s6.1 + 1)), ()) w14
 else
 ku w7 a5 fun x15 x16 x17 x18 x19 x20 x21 x22 x23 x24 x25 x26 x27 x28 x29 x30 => iT (dF x15 x16 x17 x18 x19 x20 x21 x22 x23 x24 x25 x26 x27 x28 x29 x30) w7 a3 0 fun w31 => ku w31 a3 fun y32 y33 y34 y35 y36 y37 y38 y39 y40 y41 y42 y43 y44 y45 y46 y47 => K y32 y33 y34 y35 y36 y37 y38 y39 y40 y41 y42 y43 y44 y45 y46 y47 w31))
 (bif (decide (s6.1 < (a0.len : Int))) then
 J9 (decide (s6.1 < 8))
 else
 J9 false)) (0, ()) w4) := okF cZ Tryz.func36 (.seq .leaf (.seq .leaf (.seq (.seq .leaf (.blk (.loop [(4, (.int .i64))] .leaf))) .leaf))) (by kernel_rfl)
theorem Fb {a0 w K} : aH (jJ a0 w K)
 (dJ a0 w fun r2 w3 => (bif (!r2) then
 K 0 w3
 else
 Pt a0 fun a4 => Ld (.int .i64) w3 (a4.add 41) fun x5 => K x5 w3)) := okF cZ Tryz.func37 .leaf (by kernel_rfl)
theorem zS {a0 a1 w K} : aH (dY a0 a1 w K)
 (dL a0 w fun r3 w4 => (bif (!r3) then
 K ⟨none, 0, 0⟩ w4
 else
 Pt a0 fun a5 => Ld (.int .i64) w4 (a5.add 449) fun x6 => cu (S := ah × Unit) (fun s7 w8 next9 => jf a0 w8 fun r10 r11 w12 => let J13 : Bool -> Prop := fun j14 => ((bif j14 then
 fF a0 (if (if (1099511627776 : Int) < a1 then 1099511627776 else a1) > x6 then (if (1099511627776 : Int) < a1 then 1099511627776 else a1) else x6) w12 fun w15 => K s7.1 w15
 else
 fF a0 r10 w12 fun w16 => jB a0 w16 fun r17 w18 => qg 3 1 8 [(Value.int .i64 0)] s7.1 r17 w18 fun s19 w20 => next9 (s19, ()) w20))
 (bif (!r11) then
 J13 true
 else
 J13 (decide (r10 > (if (if (1099511627776 : Int) < a1 then 1099511627776 else a1) > x6 then (if (1099511627776 : Int) < a1 then 1099511627776 else a1) else x6))))) (⟨none, 0, 0⟩, ()) w4)) := okF cZ Tryz.func38 (.seq .leaf (.seq .leaf (.seq .leaf (.seq .leaf (.seq .leaf (.seq (.blk (.loop [(5, .slice)] .leaf)) .leaf)))))) (by kernel_rfl)
theorem AQ {a0 w K} : aH (gq a0 w K)
 (let J2 : Bool -> Prop := fun j3 => (K j3 w)
 (bif (!(Option.isNone a0)) then
 Pt a0 fun a4 => Ld .ptr w a4 fun x5 => J2 (!(Option.isNone x5))
 else
 J2 false)) := okF cZ Tryz.func39 .leaf (by kernel_rfl)
theorem Pm {a0 w K} : aH (BR a0 w K)
 (Al w (.cells ⟨(dw 0 0 0 0 0 0 0 0 0 0 0 0 0 0 0 0 0 0 0 0 0 0 0 0 0 0 0 0 0 0 0 0 0)⟩ 51) fun a3 w2 => zI a0 1 w2 fun r4 r5 r6 r7 r8 r9 r10 r11 r12 r13 r14 r15 r16 r17 r18 r19 r20 r21 r22 r23 r24 r25 r26 r27 r28 r29 r30 r31 r32 r33 r34 r35 r36 r37 w38 => iT (dw r4 r5 r6 r7 r8 r9 r10 r11 r12 r13 r14 r15 r16 r17 r18 r19 r20 r21 r22 r23 r24 r25 r26 r27 r28 r29 r30 r31 r32 r33 r34 r35 r36) w38 a3 0 fun w39 => fH w39 a3 fun y40 y41 y42 y43 y44 y45 y46 y47 y48 y49 y50 y51 y52 y53 y54 y55 y56 y57 y58 y59 y60 y61 y62 y63 y64 y65 y66 y67 y68 y69 y70 y71 y72 => K y40 y41 y42 y43 y44 y45 y46 y47 y48 y49 y50 y51 y52 y53 y54 y55 y56 y57 y58 y59 y60 y61 y62 y63 y64 y65 y66 y67 y68 y69 y70 y71 y72 r37 w39) := okF cZ Tryz.func40 .leaf (by kernel_rfl)
theorem NT {a0 w K} : aH (ru a0 w K)
 (Al w (.cells ⟨(dF 0 0 0 0 0 0 0 0 0 0 0 0 0 0 0 0)⟩ 28) fun a3 w2 => vH  w2 fun r4 r5 r6 r7 r8 r9 r10 r11 r12 r13 r14 r15 r16 r17 r18 r19 w20 => Al w20 (.cells ⟨(dF 0 0 0 0 0 0 0 0 0 0 0 0 0 0 0 0)⟩ 28) fun a22 w21 => iT (dF r4 r5 r6 r7 r8 r9 r10 r11 r12 r13 r14 r15 r16 r17 r18 r19) w21 a22 0 fun w23 => oG a22 16 1 12 (16 : Int) fun s24 => uh ⟨none, 0, 0⟩ (sW .i64 a0 4294967295) 4 w23.drew fun r25 w26 => FD 1 s24 r25 w26 fun n27 w28 => ku w28 a22 fun x29 x30 x31 x32 x33 x34 x35 x36 x37 x38 x39 x40 x41 x42 x43 x44 => iT (dF x29 x30 x31 x32 x33 x34 x35 x36 x37 x38 x39 x40 x41 x42 x43 x44) w28 a3 0 fun w45 => ku w45 a3 fun y46 y47 y48 y49 y50 y51 y52 y53 y54 y55 y56 y57 y58 y59 y60 y61 => K y46 y47 y48 y49 y50 y51 y52 y53 y54 y55 y56 y57 y58 y59 y60 y61 w45) := okF cZ Tryz.func41 .leaf (by kernel_rfl)
theorem Fg {a0 B0 B1 B2 B3 C0 C1 C2 C3 C4 C5 C6 C7 C8 C9 C10 C11 C12 C13 C14 C15 C16 C17 C18 C19 C20 C21 C22 C23 C24 C25 C26 C27 C28 C29 C30 C31 C32 w K} : aH (rM a0 B0 B1 B2 B3 C0 C1 C2 C3 C4 C5 C6 C7 C8 C9 C10 C11 C12 C13 C14 C15 C16 C17 C18 C19 C20 C21 C22 C23 C24 C25 C26 C27 C28 C29 C30 C31 C32 w K)
 (Al w (.cells ⟨[(Value.int .i64 B0), (Value.int .i64 B1), (Value.int .i64 B2), (Value.int .i64 B3)]⟩ 78) fun a5 w4 => Al w4 (.cells ⟨(dw C0 C1 C2 C3 C4 C5 C6 C7 C8 C9 C10 C11 C12 C13 C14 C15 C16 C17 C18 C19 C20 C21 C22 C23 C24 C25 C26 C27 C28 C29 C30 C31 C32)⟩ 51) fun a7 w6 => Al w6 (.cells ⟨(dw 0 0 0 0 0 0 0 0 0 0 0 0 0 0 0 0 0 0 0 0 0 0 0 0 0 0 0 0 0 0 0 0 0)⟩ 51) fun a9 w8 => Pt a0 fun a10 => Ld .map w8.drew (a10.add 2) fun x11 => Ld (.int .i64) w8.drew (a5.add 0) fun x12 => Ld (.int .i64) w8.drew (a5.add 1) fun x13 => Ld (.int .i64) w8.drew (a5.add 2) fun x14 => Ld (.int .i64) w8.drew (a5.add 3) fun x15 => xG Tryz.prog 78 x11 (Value.agg ⟨[(Value.int .i64 x12), (Value.int .i64 x13), (Value.int .i64 x14), (Value.int .i64 x15)]⟩) (Value.pointer none) w8.drew fun v16 b17 => ∃ r18 : Option Addr, v16 = (Value.pointer r18) ∧
 Ld (.int .i64) w8.drew (a7.add 29) fun x19 => Ld (.int .i64) w8.drew (a7.add 32) fun x20 => Ld (.int .i64) w8.drew (a7.add 31) fun x21 => Al w8.drew (.cells ⟨[(Value.int .i64 0), (Value.int .i64 0), (Value.int .i64 0)]⟩ 80) fun a23 w22 => iT [(Value.int .i64 x19), (Value.int .i64 x20), (Value.int .i64 x21)] w22 a23 0 fun w24 => let J25 : Bool -> Prop := fun j26 => ((bif j26 then
 gV a0 r18 w24 fun w27 => fH w27.drew a7 fun x28 x29 x30 x31 x32 x33 x34 x35 x36 x37 x38 x39 x40 x41 x42 x43 x44 x45 x46 x47 x48 x49 x50 x51 x52 x53 x54 x55 x56 x57 x58 x59 x60 => iT (dw x28 x29 x30 x31 x32 x33 x34 x35 x36 x37 x38 x39 x40 x41 x42 x43 x44 x45 x46 x47 x48 x49 x50 x51 x52 x53 x54 x55 x56 x57 x58 x59 x60) w27.drew a9 0 fun w61 => fH w61 a9 fun y62 y63 y64 y65 y66 y67 y68 y69 y70 y71 y72 y73 y74 y75 y76 y77 y78 y79 y80 y81 y82 y83 y84 y85 y86 y87 y88 y89 y90 y91 y92 y93 y94 => K 0 y62 y63 y64 y65 y66 y67 y68 y69 y70 y71 y72 y73 y74 y75 y76 y77 y78 y79 y80 y81 y82 y83 y84 y85 y86 y87 y88 y89 y90 y91 y92 y93 y94 w61
 else
 Ld (.int .i64) w24 a7 fun x95 => (bif (x95 == 0) then
 fH w24.drew a7 fun x96 x97 x98 x99 x100 x101 x102 x103 x104 x105 x106 x107 x108 x109 x110 x111 x112 x113 x114 x115 x116 x117 x118 x119 x120 x121 x122 x123 x124 x125 x126 x127 x128 => iT (dw x96 x97 x98 x99 x100 x101 x102 x103 x104 x105 x106 x107 x108 x109 x110 x111 x112 x113 x114 x115 x116 x117 x118 x119 x120 x121 x122 x123 x124 x125 x126 x127 x128) w24.drew a9 0 fun w129 => fH w129 a9 fun y130 y131 y132 y133 y134 y135 y136 y137 y138 y139 y140 y141 y142 y143 y144 y145 y146 y147 y148 y149 y150 y151 y152 y153 y154 y155 y156 y157 y158 y159 y160 y161 y162 => K 0 y130 y131 y132 y133 y134 y135 y136 y137 y138 y139 y140 y141 y142 y143 y144 y145 y146 y147 y148 y149 y150 y151 y152 y153 y154 y155 y156 y157 y158 y159 y160 y161 y162 w129
 else
 (bif b17 then
 Ld (.int .i64) w24 (a23.add 0) fun x163 => Ld (.int .i64) w24 (a23.add 1) fun x164 => Ld (.int .i64) w24 (a23.add 2) fun x165 => fH w24 a7 fun x166 x167 x168 x169 x170 x171 x172 x173 x174 x175 x176 x177 x178 x179 x180 x181 x182 x183 x184 x185 x186 x187 x188 x189 x190 x191 x192 x193 x194 x195 x196 x197 x198 => oZ a0 r18 x163 x164 x165 x166 x167 x168 x169 x170 x171 x172 x173 x174 x175 x176 x177 x178 x179 x180 x181 x182 x183 x184 x185 x186 x187 x188 x189 x190 x191 x192 x193 x194 x195 x196 x197 x198 w24 fun r199 r200 r201 r202 r203 r204 r205 r206 r207 r208 r209 r210 r211 r212 r213 r214 r215 r216 r217 r218 r219 r220 r221 r222 r223 r224 r225 r226 r227 r228 r229 r230 r231 r232 w233 => iT (dw r200 r201 r202 r203 r204 r205 r206 r207 r208 r209 r210 r211 r212 r213 r214 r215 r216 r217 r218 r219 r220 r221 r222 r223 r224 r225 r226 r227 r228 r229 r230 r231 r232) w233 a9 0 fun w234 => fH w234 a9 fun y235 y236 y237 y238 y239 y240 y241 y242 y243 y244 y245 y246 y247 y248 y249 y250 y251 y252 y253 y254 y255 y256 y257 y258 y259 y260 y261 y262 y263 y264 y265 y266 y267 => K r199 y235 y236 y237 y238 y239 y240 y241 y242 y243 y244 y245 y246 y247 y248 y249 y250 y251 y252 y253 y254 y255 y256 y257 y258 y259 y260 y261 y262 y263 y264 y265 y266 y267 w234
 else
 Ld (.int .i64) w24 (a5.add 0) fun x268 => Ld (.int .i64) w24 (a5.add 1) fun x269 => Ld (.int .i64) w24 (a5.add 2) fun x270 => Ld (.int .i64) w24 (a5.add 3) fun x271 => Ld (.int .i64) w24 (a23.add 0) fun x272 => Ld (.int .i64) w24 (a23.add 1) fun x273 => Ld (.int .i64) w24 (a23.add 2) fun x274 => fH w24 a7 fun x275 x276 x277 x278 x279 x280 x281 x282 x283 x284 x285 x286 x287 x288 x289 x290 x291 x292 x293 x294 x295 x296 x297 x298 x299 x300 x301 x302 x303 x304 x305 x306 x307 => oW a0 x268 x269 x270 x271 x272 x273 x274 x275 x276 x277 x278 x279 x280 x281 x282 x283 x284 x285 x286 x287 x288 x289 x290 x291 x292 x293 x294 x295 x296 x297 x298 x299 x300 x301 x302 x303 x304 x305 x306 x307 w24 fun r308 r309 r310 r311 r312 r313 r314 r315 r316 r317 r318 r319 r320 r321 r322 r323 r324 r325 r326 r327 r328 r329 r330 r331 r332 r333 r334 r335 r336 r337 r338 r339 r340 r341 w342 => iT (dw r309 r310 r311 r312 r313 r314 r315 r316 r317 r318 r319 r320 r321 r322 r323 r324 r325 r326 r327 r328 r329 r330 r331 r332 r333 r334 r335 r336 r337 r338 r339 r340 r341) w342 a9 0 fun w343 => fH w343 a9 fun y344 y345 y346 y347 y348 y349 y350 y351 y352 y353 y354 y355 y356 y357 y358 y359 y360 y361 y362 y363 y364 y365 y366 y367 y368 y369 y370 y371 y372 y373 y374 y375 y376 => K r308 y344 y345 y346 y347 y348 y349 y350 y351 y352 y353 y354 y355 y356 y357 y358 y359 y360 y361 y362 y363 y364 y365 y366 y367 y368 y369 y370 y371 y372 y373 y374 y375 y376 w343))))
 Ld (.int .i64) w24 a7 fun x377 => (bif (x377 == 0) then
 J25 b17
 else
 J25 false)) := okF cZ Tryz.func42 .leaf (by kernel_rfl)
theorem Ob {A0 A1 A2 A3 A4 A5 A6 A7 A8 A9 A10 A11 A12 A13 A14 A15 A16 A17 A18 A19 A20 A21 A22 A23 A24 A25 A26 A27 A28 A29 A30 A31 A32 A33 A34 w K} : aH (n_ A0 A1 A2 A3 A4 A5 A6 A7 A8 A9 A10 A11 A12 A13 A14 A15 A16 A17 A18 A19 A20 A21 A22 A23 A24 A25 A26 A27 A28 A29 A30 A31 A32 A33 A34 w K)
 (Al w (.cells ⟨(AZ A0 A1 A2 A3 A4 A5 A6 A7 A8 A9 A10 A11 A12 A13 A14 A15 A16 A17 A18 A19 A20 A21 A22 A23 A24 A25 A26 A27 A28 A29 A30 A31 A32 A33 A34)⟩ 53) fun a3 w2 => let J4 : Bool -> World -> Prop := fun j5 w6 => ((bif j5 then
 K ⟨none, 0, 0⟩ 1 w6
 else
 Ld (.int .i64) w6 a3 fun x7 => Al w6 (.cells ⟨[(Value.int .i64 2), (Value.int .i64 1), (Value.int .i64 129), (Value.int .i64 1), (Value.int .i64 0), (Value.int .i64 1), (Value.int .i64 x7), (Value.int .i64 1)]⟩ 233) fun a9 w8 => og ⟨none, 0, 0⟩ ⟨(some a9), 4, 4⟩ w8 fun r10 w11 => Ld (.int .i64) w11 (a3.add 2) fun x12 => Ld (.int .i64) w11 (a3.add 1) fun x13 => Al w11 (.cells ⟨(aaD x12 4 x13 4 0 4 0 4 0 4)⟩ 233) fun a15 w14 => og r10 ⟨(some a15), 5, 5⟩ w14 fun r16 w17 => fH w17 (a3.add 2) fun x18 x19 x20 x21 x22 x23 x24 x25 x26 x27 x28 x29 x30 x31 x32 x33 x34 x35 x36 x37 x38 x39 x40 x41 x42 x43 x44 x45 x46 x47 x48 x49 x50 => jR x18 x19 x20 x21 x22 x23 x24 x25 x26 x27 x28 x29 x30 x31 x32 x33 x34 x35 x36 x37 x38 x39 x40 x41 x42 x43 x44 x45 x46 x47 x48 x49 x50 r16 w17 fun r51 w52 => K r51 0 w52))
 fH w2 (a3.add 2) fun x53 x54 x55 x56 x57 x58 x59 x60 x61 x62 x63 x64 x65 x66 x67 x68 x69 x70 x71 x72 x73 x74 x75 x76 x77 x78 x79 x80 x81 x82 x83 x84 x85 => lM x53 x54 x55 x56 x57 x58 x59 x60 x61 x62 x63 x64 x65 x66 x67 x68 x69 x70 x71 x72 x73 x74 x75 x76 x77 x78 x79 x80 x81 x82 x83 x84 x85 w2 fun r86 w87 => (bif (!r86) then
 J4 true w87
 else
 Ld (.int .i64) w87 a3 fun x88 => Ld (.int .i64) w87 (a3.add 1) fun x89 => Al w87 (.cells ⟨[(Value.int .i64 x88), (Value.int .i64 1), (Value.int .i64 x89), (Value.int .i64 4)]⟩ 233) fun a91 w90 => vP ⟨(some a91), 2, 2⟩ w90 fun r92 w93 => J4 (!r92) w93)) := okF cZ Tryz.func43 .leaf (by kernel_rfl)
theorem QY {A0 A1 A2 A3 A4 A5 A6 A7 A8 A9 A10 A11 A12 A13 A14 A15 A16 A17 A18 A19 A20 A21 A22 A23 A24 A25 A26 A27 A28 A29 A30 A31 A32 w K} : aH (uJ A0 A1 A2 A3 A4 A5 A6 A7 A8 A9 A10 A11 A12 A13 A14 A15 A16 A17 A18 A19 A20 A21 A22 A23 A24 A25 A26 A27 A28 A29 A30 A31 A32 w K)
 (Al w (.cells ⟨(dw A0 A1 A2 A3 A4 A5 A6 A7 A8 A9 A10 A11 A12 A13 A14 A15 A16 A17 A18 A19 A20 A21 A22 A23 A24 A25 A26 A27 A28 A29 A30 A31 A32)⟩ 51) fun a3 w2 => fH w2 a3 fun x4 x5 x6 x7 x8 x9 x10 x11 x12 x13 x14 x15 x16 x17 x18 x19 x20 x21 x22 x23 x24 x25 x26 x27 x28 x29 x30 x31 x32 x33 x34 x35 x36 => lM x4 x5 x6 x7 x8 x9 x10 x11 x12 x13 x14 x15 x16 x17 x18 x19 x20 x21 x22 x23 x24 x25 x26 x27 x28 x29 x30 x31 x32 x33 x34 x35 x36 w2 fun r37 w38 => (bif (!r37) then
 K ⟨none, 0, 0⟩ 1 w38
 else
 Ld (.int .i64) w38 a3 fun x39 => Al w38 (.cells ⟨[(Value.int .i64 2), (Value.int .i64 1), (Value.int .i64 1), (Value.int .i64 1), (Value.int .i64 0), (Value.int .i64 2), (Value.int .i64 x39), (Value.int .i64 4)]⟩ 233) fun a41 w40 => og ⟨none, 0, 0⟩ ⟨(some a41), 4, 4⟩ w40 fun r42 w43 => fH w43.drew a3 fun x44 x45 x46 x47 x48 x49 x50 x51 x52 x53 x54 x55 x56 x57 x58 x59 x60 x61 x62 x63 x64 x65 x66 x67 x68 x69 x70 x71 x72 x73 x74 x75 x76 => oG (a3.add 1) 16 1 0 (16 : Int) fun s77 => qg 5 1 1 [(Value.int .u8 0)] r42 s77 w43.drew fun s78 w79 => Zm (dw x44 x45 x46 x47 x48 x49 x50 x51 x52 x53 x54 x55 x56 x57 x58 x59 x60 x61 x62 x63 x64 x65 x66 x67 x68 x69 x70 x71 x72 x73 x74 x75 x76) w79 a3 0 (
 jR x44 x45 x46 x47 x48 x49 x50 x51 x52 x53 x54 x55 x56 x57 x58 x59 x60 x61 x62 x63 x64 x65 x66 x67 x68 x69 x70 x71 x72 x73 x74 x75 x76 s78 w79 fun r80 w81 => K r80 0 w81))) := okF cZ Tryz.func44 .leaf (by kernel_rfl)
theorem FC {a0 a1 a2 w K} : aH (g_ a0 a1 a2 w K)
 (dL a0 w fun r4 w5 => (bif (!r4) then
 K 2 w5
 else
 let J6 : Bool -> Prop := fun j7 => ((bif j7 then
 K 1 w5
 else
 Pt a0 fun a8 => Ld .map w5 (a8.add 448) fun x9 => xG Tryz.prog 3 x9 (Value.int .i64 a1) (Value.agg ⟨[(Value.int .i64 0), (Value.int .i64 0), (Value.int .i64 0)]⟩) w5 fun v10 b11 => ∃ r12 : Int, ∃ r13 : Int, ∃ r14 : Int, v10 = (Value.agg ⟨[(Value.int .i64 r12), (Value.int .i64 r13), (Value.int .i64 r14)]⟩) ∧
 Al w5 (.cells ⟨[(Value.int .i64 0), (Value.int .i64 0), (Value.int .i64 0)]⟩ 237) fun a16 w15 => iT [(Value.int .i64 r12), (Value.int .i64 r13), (Value.int .i64 r14)] w15 a16 0 fun w17 => let J18 : Bool -> World -> Prop := fun j19 w20 => ((bif j19 then
 K 7 w20
 else
 let J21 : World -> Prop := fun w22 => (Pt a0 fun a23 => Ld (.int .i64) w22 (a23.add 450) fun x24 => Pt a0 fun a25 => St w22 (a25.add 450) (Value.int .i64 (IntKind.i64.wrap (x24 + 1))) fun w26 => Pt a0 fun a27 => Ld (.int .i64) w26.drew (a27.add 449) fun x28 => Pt a0 fun a29 => Ld (.int .i64) w26.drew (a29.add 450) fun x30 => Al w26.drew (.cells ⟨[(Value.int .i64 0), (Value.int .i64 0), (Value.int .i64 0)]⟩ 237) fun a32 w31 => w31.cell? (a29.add 450) = some (Value.int .i64 x30) ∧
 w31.cell? (a27.add 449) = some (Value.int .i64 x28) ∧
 iT [(Value.int .i64 a1), (Value.int .i64 (if x28 > a2 then x28 else a2)), (Value.int .i64 x30)] w31 a32 0 fun w33 => Pt a0 fun a34 => Ld .map w33.drew (a34.add 448) fun x35 => Ld (.int .i64) w33.drew (a32.add 0) fun x36 => Ld (.int .i64) w33.drew (a32.add 1) fun x37 => Ld (.int .i64) w33.drew (a32.add 2) fun x38 => tH Tryz.prog 3 x35 (Value.int .i64 a1) (Value.agg ⟨[(Value.int .i64 x36), (Value.int .i64 x37), (Value.int .i64 x38)]⟩) w33.drew fun w39 => Ld (.int .i64) w39 (a32.add 0) fun x40 => Ld (.int .i64) w39 (a32.add 1) fun x41 => Ld (.int .i64) w39 (a32.add 2) fun x42 => iq a0 x40 x41 x42 w39 fun w43 => K 0 w43)
 (bif b11 then
 Ld (.int .i64) w20 (a16.add 0) fun x44 => Ld (.int .i64) w20 (a16.add 1) fun x45 => Ld (.int .i64) w20 (a16.add 2) fun x46 => gK a0 x44 x45 x46 w20 fun w47 => J21 w47
 else
 J21 w20)))
 (bif (!b11) then
 Pt a0 fun a48 => Ld .map w17.drew (a48.add 448) fun x49 => Pt a0 fun a50 => Ld (.int .i64) w17.drew (a50.add 451) fun x51 => IC w17.drew x49 fun n52 => w17.drew.cell? (a50.add 451) = some (Value.int .i64 x51) ∧
 J18 (decide (n52 >= x51)) w17.drew
 else
 J18 false w17.drew)))
 (bif (decide (a1 < 0)) then
 J6 (decide (a1 < 0))
 else
 (bif (decide (a1 > 2147483648)) then
 J6 (decide (a1 > 2147483648))
 else
 (bif (decide (a2 < 0)) then
 J6 (decide (a2 < 0))
 else
 J6 (decide (a2 > 1099511627776))))))) := okF cZ Tryz.func45 .leaf (by kernel_rfl)
theorem DI {a0 a1 w K} : aH (gV a0 a1 w K)
 (Pt a0 fun a3 => Ld .ptr w.drew a3 fun x4 => Pt a1 fun a5 => Ld (.int .i64) w.drew (a5.add 0) fun x6 => Ld (.int .i64) w.drew (a5.add 1) fun x7 => Ld (.int .i64) w.drew (a5.add 2) fun x8 => Ld (.int .i64) w.drew (a5.add 3) fun x9 => iI x4 x6 x7 x8 x9 w.drew fun r10 w11 => Pt a0 fun a12 => Ld .ptr w11.drew (a12.add 1) fun x13 => Pt a1 fun a14 => Ld (.int .i64) w11.drew (a14.add 8) fun x15 => fE x13 x15 w11.drew fun r16 w17 => Pt a0 fun a18 => Ld .map w17.drew (a18.add 2) fun x19 => Pt a1 fun a20 => Ld (.int .i64) w17.drew (a20.add 0) fun x21 => Ld (.int .i64) w17.drew (a20.add 1) fun x22 => Ld (.int .i64) w17.drew (a20.add 2) fun x23 => Ld (.int .i64) w17.drew (a20.add 3) fun x24 => zV Tryz.prog 78 x19 (Value.agg ⟨[(Value.int .i64 x21), (Value.int .i64 x22), (Value.int .i64 x23), (Value.int .i64 x24)]⟩) w17.drew fun w25 => Pt a0 fun a26 => Ld .map w25.drew (a26.add 3) fun x27 => Pt a1 fun a28 => Ld (.int .i64) w25.drew (a28.add 8) fun x29 => zV Tryz.prog 3 x27 (Value.int .i64 x29) w25.drew fun w30 => K w30) := okF cZ Tryz.func46 .leaf (by kernel_rfl)
theorem Cm {a0 w K} : aH (dJ a0 w K)
 (let J2 : Bool -> Prop := fun j3 => (K j3 w)
 (bif (!(Option.isNone a0)) then
 Pt a0 fun a4 => Ld .ptr w a4 fun x5 => J2 (!(Option.isNone x5))
 else
 J2 false)) := okF cZ Tryz.func47 .leaf (by kernel_rfl)
theorem EO {a0 w K} : aH (fK a0 w K)
 (dL a0 w fun r2 w3 => (bif (!r2) then
 K 0 w3
 else
 Pt a0 fun a4 => Ld .map w3 (a4.add 448) fun x5 => IC w3 x5 fun n6 => K n6 w3)) := okF cZ Tryz.func48 .leaf (by kernel_rfl)
theorem LM {a0 w K} : aH (xR a0 w K)
 (bK (Value.pointer a0) = true ∧
 Al w (.cells ⟨[(Value.pointer a0)]⟩ 87) fun a3 w2 => K (Value.func (.func 112) #[] #[(Value.pointer (some a3))]) w2) := okF cZ Tryz.func49 .leaf (by kernel_rfl)
theorem Cb {a0 w K} : aH (oD a0 w K)
 (bK (Value.pointer a0) = true ∧
 Al w (.cells ⟨[(Value.pointer a0)]⟩ 88) fun a3 w2 => K (Value.func (.func 114) #[] #[(Value.pointer (some a3))]) w2) := okF cZ Tryz.func50 .leaf (by kernel_rfl)
theorem Q_ {a0 a1 w K} : aH (zI a0 a1 w K)
 (bK (Value.slice a0.a a0.len a0.cap) = true ∧
 Al w (.cells ⟨[(Value.slice a0.a a0.len a0.cap)]⟩ 39) fun a4 w3 => Al w3 (.cells ⟨(dw 0 0 0 0 0 0 0 0 0 0 0 0 0 0 0 0 0 0 0 0 0 0 0 0 0 0 0 0 0 0 0 0 0)⟩ 51) fun a6 w5 => Ld .slice w5 a4 fun x7 => (bif (decide ((x7.len : Int) < 60)) then
 iT (dw 0 0 0 0 0 0 0 0 0 0 0 0 0 0 0 0 0 0 0 0 0 0 0 0 0 0 0 0 0 0 0 0 0) w5 a6 0 fun w8 => fH w8 a6 fun y9 y10 y11 y12 y13 y14 y15 y16 y17 y18 y19 y20 y21 y22 y23 y24 y25 y26 y27 y28 y29 y30 y31 y32 y33 y34 y35 y36 y37 y38 y39 y40 y41 => K y9 y10 y11 y12 y13 y14 y15 y16 y17 y18 y19 y20 y21 y22 y23 y24 y25 y26 y27 y28 y29 y30 y31 y32 y33 y34 y35 y36 y37 y38 y39 y40 y41 3 w8
 else
 Ld .slice w5 a4 fun x42 => (bif (decide ((x42.len : Int) > 60)) then
 iT (dw 0 0 0 0 0 0 0 0 0 0 0 0 0 0 0 0 0 0 0 0 0 0 0 0 0 0 0 0 0 0 0 0 0) w5 a6 0 fun w43 => fH w43 a6 fun y44 y45 y46 y47 y48 y49 y50 y51 y52 y53 y54 y55 y56 y57 y58 y59 y60 y61 y62 y63 y64 y65 y66 y67 y68 y69 y70 y71 y72 y73 y74 y75 y76 => K y44 y45 y46 y47 y48 y49 y50 y51 y52 y53 y54 y55 y56 y57 y58 y59 y60 y61 y62 y63 y64 y65 y66 y67 y68 y69 y70 y71 y72 y73 y74 y75 y76 6 w43
 else
 let J77 : Bool -> Prop := fun j78 => ((bif j78 then
 iT (dw 0 0 0 0 0 0 0 0 0 0 0 0 0 0 0 0 0 0 0 0 0 0 0 0 0 0 0 0 0 0 0 0 0) w5 a6 0 fun w79 => fH w79 a6 fun y80 y81 y82 y83 y84 y85 y86 y87 y88 y89 y90 y91 y92 y93 y94 y95 y96 y97 y98 y99 y100 y101 y102 y103 y104 y105 y106 y107 y108 y109 y110 y111 y112 => K y80 y81 y82 y83 y84 y85 y86 y87 y88 y89 y90 y91 y92 y93 y94 y95 y96 y97 y98 y99 y100 y101 y102 y103 y104 y105 y106 y107 y108 y109 y110 y111 y112 4 w79
 else
 Al w5 (.cells ⟨(dF 0 0 0 0 0 0 0 0 0 0 0 0 0 0 0 0)⟩ 28) fun a114 w113 => oG a114 16 1 0 (16 : Int) fun s115 => Ld .slice w113.drew a4 fun x116 => Bj x116 1 44 (x116.len : Int) fun s117 => FD 1 s115 s117 w113.drew fun n118 w119 => ku w119 a114 fun x120 x121 x122 x123 x124 x125 x126 x127 x128 x129 x130 x131 x132 x133 x134 x135 => BN x120 x121 x122 x123 x124 x125 x126 x127 x128 x129 x130 x131 x132 x133 x134 x135 w119 fun r136 r137 w138 => (bif (!r137) then
 iT (dw 0 0 0 0 0 0 0 0 0 0 0 0 0 0 0 0 0 0 0 0 0 0 0 0 0 0 0 0 0 0 0 0 0) w138 a6 0 fun w139 => fH w139 a6 fun y140 y141 y142 y143 y144 y145 y146 y147 y148 y149 y150 y151 y152 y153 y154 y155 y156 y157 y158 y159 y160 y161 y162 y163 y164 y165 y166 y167 y168 y169 y170 y171 y172 => K y140 y141 y142 y143 y144 y145 y146 y147 y148 y149 y150 y151 y152 y153 y154 y155 y156 y157 y158 y159 y160 y161 y162 y163 y164 y165 y166 y167 y168 y169 y170 y171 y172 4 w139
 else
 fM Tryz.prog [.one (.int .i64)] (Value.func (.func 117) #[] #[(Value.pointer (some a4))]) [(Value.int .i64 4), (Value.int .i64 4)] w138 fun r173 w174 => ∃ r175 : Int, r173 = (Value.int .i64 r175) ∧
 fM Tryz.prog [.one (.int .i64)] (Value.func (.func 117) #[] #[(Value.pointer (some a4))]) [(Value.int .i64 36), (Value.int .i64 1)] w174 fun r176 w177 => ∃ r178 : Int, r176 = (Value.int .i64 r178) ∧
 fM Tryz.prog [.one (.int .i64)] (Value.func (.func 117) #[] #[(Value.pointer (some a4))]) [(Value.int .i64 40), (Value.int .i64 2)] w177 fun r179 w180 => ∃ r181 : Int, r179 = (Value.int .i64 r181) ∧
 fM Tryz.prog [.one (.int .i64)] (Value.func (.func 117) #[] #[(Value.pointer (some a4))]) [(Value.int .i64 42), (Value.int .i64 2)] w180 fun r182 w183 => ∃ r184 : Int, r182 = (Value.int .i64 r184) ∧
 Al w183 (.cells ⟨(dw 0 0 0 0 0 0 0 0 0 0 0 0 0 0 0 0 0 0 0 0 0 0 0 0 0 0 0 0 0 0 0 0 0)⟩ 51) fun a186 w185 => iT (dw r175 0 0 0 0 0 0 0 0 0 0 0 0 0 0 0 0 0 0 0 0 0 0 0 0 0 0 0 0 r178 r181 r184 r136) w185 a186 0 fun w187 => oG (a186.add 1) 16 1 0 (16 : Int) fun s188 => Ld .slice w187.drew a4 fun x189 => Bj x189 1 8 (x189.len : Int) fun s190 => FD 1 s188 s190 w187.drew fun n191 w192 => oG (a186.add 17) 12 1 0 (12 : Int) fun s193 => Ld .slice w192.drew a4 fun x194 => Bj x194 1 24 (x194.len : Int) fun s195 => FD 1 s193 s195 w192.drew fun n196 w197 => fH w197 a186 fun x198 x199 x200 x201 x202 x203 x204 x205 x206 x207 x208 x209 x210 x211 x212 x213 x214 x215 x216 x217 x218 x219 x220 x221 x222 x223 x224 x225 x226 x227 x228 x229 x230 => iT (dw x198 x199 x200 x201 x202 x203 x204 x205 x206 x207 x208 x209 x210 x211 x212 x213 x214 x215 x216 x217 x218 x219 x220 x221 x222 x223 x224 x225 x226 x227 x228 x229 x230) w197 a6 0 fun w231 => fH w231 a6 fun y232 y233 y234 y235 y236 y237 y238 y239 y240 y241 y242 y243 y244 y245 y246 y247 y248 y249 y250 y251 y252 y253 y254 y255 y256 y257 y258 y259 y260 y261 y262 y263 y264 => K y232 y233 y234 y235 y236 y237 y238 y239 y240 y241 y242 y243 y244 y245 y246 y247 y248 y249 y250 y251 y252 y253 y254 y255 y256 y257 y258 y259 y260 y261 y262 y263 y264 0 w231)))
 Ld .slice w5 a4 fun x265 => bM x265 1 0 fun a266 => Ld (.int .u8) w5 a266 fun x267 => (bif (x267 != 2) then
 J77 (x267 != 2)
 else
 Ld .slice w5 a4 fun x268 => bM x268 1 1 fun a269 => Ld (.int .u8) w5 a269 fun x270 => J77 (x270 != a1))))) := okF cZ Tryz.func51 .leaf (by kernel_rfl)
theorem Xi {a0 a1 a2 w K} : aH (wQ a0 a1 a2 w K)
 (uN a0 a1 a2 w fun r4 r5 w6 => cu (S := Int × Int × Unit) (fun s7 w8 next9 => (bif (decide (s7.2.1 < (r4.len : Int))) then
 bM r4 1 s7.2.1 fun a10 => Ld (.int .u8) w8 a10 fun x11 => 0 <= (8 : Int) ∧
 next9 ((orI .i64 (Vt .i64 s7.1 8) (IntKind.i64.wrap x11)), (IntKind.i64.wrap (s7.2.1 + 1)), ()) w8
 else
 K s7.1 r5 w8)) (0, 0, ()) w6) := okF cZ Tryz.func52 (.seq .leaf (.seq .leaf (.seq .leaf (.seq (.seq .leaf (.blk (.loop [(10, (.int .i64)), (22, (.int .i64))] .leaf))) .leaf)))) (by kernel_rfl)
theorem Ny {A0 A1 A2 A3 A4 A5 A6 A7 A8 A9 A10 A11 A12 A13 A14 A15 A16 A17 A18 A19 A20 A21 A22 A23 A24 A25 A26 A27 A28 A29 A30 A31 A32 A33 A34 A35 w K} : aH (o_ A0 A1 A2 A3 A4 A5 A6 A7 A8 A9 A10 A11 A12 A13 A14 A15 A16 A17 A18 A19 A20 A21 A22 A23 A24 A25 A26 A27 A28 A29 A30 A31 A32 A33 A34 A35 w K)
 (Al w (.cells ⟨(fG A0 A1 A2 A3 A4 A5 A6 A7 A8 A9 A10 A11 A12 A13 A14 A15 A16 A17 A18 A19 A20 A21 A22 A23 A24 A25 A26 A27 A28 A29 A30 A31 A32 A33 A34 A35)⟩ 33) fun a3 w2 => let J4 : Bool -> Prop := fun j5 => (K j5 w2)
 Ld .slice w2 (a3.add 16) fun x6 => (bif (decide ((x6.len : Int) <= 8)) then
 Ld .slice w2 (a3.add 17) fun x7 => (bif (decide ((x7.len : Int) <= 4)) then
 Ld .slice w2 (a3.add 35) fun x8 => J4 (decide ((x8.len : Int) <= 12))
 else
 J4 false)
 else
 J4 false)) := okF cZ Tryz.func53 .leaf (by kernel_rfl)
theorem Nh {A0 A1 A2 A3 A4 A5 A6 A7 A8 A9 A10 A11 A12 A13 A14 A15 A16 A17 A18 A19 A20 A21 A22 A23 A24 A25 A26 A27 A28 A29 A30 A31 A32 A33 A34 A35 w K} : aH (qh A0 A1 A2 A3 A4 A5 A6 A7 A8 A9 A10 A11 A12 A13 A14 A15 A16 A17 A18 A19 A20 A21 A22 A23 A24 A25 A26 A27 A28 A29 A30 A31 A32 A33 A34 A35 w K)
 (Al w (.cells ⟨(fG A0 A1 A2 A3 A4 A5 A6 A7 A8 A9 A10 A11 A12 A13 A14 A15 A16 A17 A18 A19 A20 A21 A22 A23 A24 A25 A26 A27 A28 A29 A30 A31 A32 A33 A34 A35)⟩ 33) fun a3 w2 => let J4 : Bool -> World -> Prop := fun j5 w6 => ((bif j5 then
 K 1 w6
 else
 uT w6 a3 fun x7 x8 x9 x10 x11 x12 x13 x14 x15 x16 x17 x18 x19 x20 x21 x22 x23 x24 x25 x26 x27 x28 x29 x30 x31 x32 x33 x34 x35 x36 x37 x38 x39 x40 x41 x42 => pO x7 x8 x9 x10 x11 x12 x13 x14 x15 x16 x17 x18 x19 x20 x21 x22 x23 x24 x25 x26 x27 x28 x29 x30 x31 x32 x33 x34 x35 x36 x37 x38 x39 x40 x41 x42 w6 fun r43 w44 => (bif r43 then
 K 9 w44
 else
 K 0 w44)))
 uT w2 a3 fun x45 x46 x47 x48 x49 x50 x51 x52 x53 x54 x55 x56 x57 x58 x59 x60 x61 x62 x63 x64 x65 x66 x67 x68 x69 x70 x71 x72 x73 x74 x75 x76 x77 x78 x79 x80 => kZ x45 x46 x47 x48 x49 x50 x51 x52 x53 x54 x55 x56 x57 x58 x59 x60 x61 x62 x63 x64 x65 x66 x67 x68 x69 x70 x71 x72 x73 x74 x75 x76 x77 x78 x79 x80 w2 fun r81 w82 => (bif (!r81) then
 J4 true w82
 else
 uT w82 a3 fun x83 x84 x85 x86 x87 x88 x89 x90 x91 x92 x93 x94 x95 x96 x97 x98 x99 x100 x101 x102 x103 x104 x105 x106 x107 x108 x109 x110 x111 x112 x113 x114 x115 x116 x117 x118 => pI x83 x84 x85 x86 x87 x88 x89 x90 x91 x92 x93 x94 x95 x96 x97 x98 x99 x100 x101 x102 x103 x104 x105 x106 x107 x108 x109 x110 x111 x112 x113 x114 x115 x116 x117 x118 w82 fun r119 w120 => J4 (!r119) w120)) := okF cZ Tryz.func54 .leaf (by kernel_rfl)
theorem zB {a0 a1 w K} : aH (gJ a0 a1 w K)
 (Pt a0 fun a3 => Ld .ptr w (a3.add 2) fun x4 => lS x4 a1 w fun r5 r6 r7 r8 r9 r10 r11 r12 r13 w14 => Al w14 (.cells ⟨[(Value.int .i64 0), (Value.int .i64 0), (Value.int .i64 0), (Value.int .i64 0), (Value.int .i64 0), (Value.int .i64 0), (Value.int .i64 0), (Value.bool false)]⟩ 130) fun a16 w15 => iT [(Value.int .i64 r5), (Value.int .i64 r6), (Value.int .i64 r7), (Value.int .i64 r8), (Value.int .i64 r9), (Value.int .i64 r10), (Value.int .i64 r11), (Value.bool r12)] w15 a16 0 fun w17 => (bif (!r13) then
 K w17
 else
 iH a0 a1 w17 fun w18 => Pt a0 fun a19 => Ld .ptr w18 (a19.add 2) fun x20 => jX x20 a1 w18 fun r21 w22 => Pt a0 fun a23 => Ld .ptr w22.drew a23 fun x24 => Ld (.int .i64) w22.drew ((a16.add 4).add 0) fun x25 => Ld (.int .i64) w22.drew ((a16.add 4).add 1) fun x26 => Ld (.int .i64) w22.drew ((a16.add 4).add 2) fun x27 => jS x24 x25 x26 x27 w22.drew fun r28 w29 => Pt a0 fun a30 => Ld .ptr w29.drew (a30.add 1) fun x31 => Ld (.int .i64) w29.drew a16 fun x32 => iW x31 x32 w29.drew fun r33 w34 => K w34)) := okF cZ Tryz.func71 .leaf (by kernel_rfl)
theorem BL {a0 a1 w K} : aH (iH a0 a1 w K)
 (bK (Value.pointer a0) = true ∧
 Al w (.cells ⟨[(Value.pointer a0)]⟩ 23) fun a4 w3 => Ld .ptr w3 a4 fun x5 => Pt x5 fun a6 => Ld .ptr w3 (a6.add 3) fun x7 => iZ x7 a1 w3 fun r8 w9 => Ep Tryz.prog none [.one (.int .i64), .agg [(.int .i64), (.int .i64), (.int .i64), (.int .i64), (.int .i64)]] r8 w9 (fun l10 x11 W12 Kb13 => W12.heap[l10]? = W12.heap[l10]? ∧
 Ld .ptr (aA W12 l10) a4 fun x14 => CB x14 x11.1 (aA W12 l10) fun w15 => Kb13 .normal w15)
 (fun w16 => w16.heap[w9.heap.size]? = some (.deferred (some [])) ∧
 K (w16.putObj w9.heap.size (.deferred none)))
 (fun w17 => w17.heap[w9.heap.size]? = some (.deferred (some [])) ∧
 K (w17.putObj w9.heap.size (.deferred none)))
 []) := okF cZ Tryz.func76 (.seq .leaf (.seq .leaf (.blk (.rng [.one (.int .i64), .agg [(.int .i64), (.int .i64), (.int .i64), (.int .i64), (.int .i64)]] .leaf .leaf)))) (by kernel_rfl)
theorem Ir {A0 A1 A2 A3 A4 A5 A6 A7 A8 A9 A10 A11 A12 A13 A14 A15 A16 A17 A18 A19 A20 A21 A22 A23 A24 A25 A26 A27 A28 A29 A30 A31 A32 A33 A34 A35 w K} : aH (lg A0 A1 A2 A3 A4 A5 A6 A7 A8 A9 A10 A11 A12 A13 A14 A15 A16 A17 A18 A19 A20 A21 A22 A23 A24 A25 A26 A27 A28 A29 A30 A31 A32 A33 A34 A35 w K)
 (Al w (.cells ⟨(fG A0 A1 A2 A3 A4 A5 A6 A7 A8 A9 A10 A11 A12 A13 A14 A15 A16 A17 A18 A19 A20 A21 A22 A23 A24 A25 A26 A27 A28 A29 A30 A31 A32 A33 A34 A35)⟩ 33) fun a3 w2 => Ld .slice w2 (a3.add 16) fun x4 => Ld .slice w2 (a3.add 17) fun x5 => Ld .slice w2 (a3.add 35) fun x6 => Ld (.int .i64) w2 (a3.add 21) fun x7 => Ld (.int .i64) w2 (a3.add 18) fun x8 => Ld (.int .i64) w2 (a3.add 19) fun x9 => Ld (.int .i64) w2 (a3.add 18) fun x10 => Ld (.int .i64) w2 (a3.add 20) fun x11 => Ld (.int .i64) w2 (a3.add 21) fun x12 => Ld (.int .i64) w2 (a3.add 22) fun x13 => Ld (.int .i64) w2 (a3.add 23) fun x14 => Ld (.int .i64) w2 (a3.add 24) fun x15 => Ld (.int .i64) w2 (a3.add 25) fun x16 => Ld (.int .i64) w2 (a3.add 26) fun x17 => Ld (.int .i64) w2 (a3.add 27) fun x18 => Ld (.int .i64) w2 (a3.add 29) fun x19 => Ld (.int .i64) w2 (a3.add 30) fun x20 => Ld (.int .i64) w2 (a3.add 31) fun x21 => Ld (.int .i64) w2 (a3.add 32) fun x22 => Ld (.int .i64) w2 (a3.add 33) fun x23 => Ld (.int .i64) w2 (a3.add 34) fun x24 => Al w2 (.cells ⟨(abY (x4.len : Int) 1 64 (x5.len : Int) 1 16 (x6.len : Int) 0 (if x7 < 64 then x7 else 64) x8 1 65535 x9 x10 65535 x11 1 4096 x12 1 4096 x13 1 4096 x14 0 4096 x15 0 67108864 x16 1280 65535 x17 1280 65535 x18 1 255 x19 0 2 x20 120 1048576 x21 7440 1048576 x22 240 1048576 x23 60 1048576 x24 1 1048576)⟩ 187) fun a26 w25 => K ⟨(some a26), 19, 19⟩ w25) := okF cZ Tryz.func79 .leaf (by kernel_rfl)
theorem FU {A0 A1 A2 w K} : aH (dM A0 A1 A2 w K)
 (Al w (.cells ⟨[(Value.int .i64 A0), (Value.int .i64 A1), (Value.int .i64 A2)]⟩ 187) fun a3 w2 => let J4 : Bool -> Prop := fun j5 => (K j5 w2)
 Ld (.int .i64) w2 (a3.add 1) fun x6 => Ld (.int .i64) w2 a3 fun x7 => (bif (decide (x6 <= x7)) then
 Ld (.int .i64) w2 a3 fun x8 => Ld (.int .i64) w2 (a3.add 2) fun x9 => J4 (decide (x8 <= x9))
 else
 J4 false)) := okF cZ Tryz.func80 .leaf (by kernel_rfl)
theorem JE {a0 w K} : aH (nG a0 w K)
 (let J2 : Bool -> World -> Prop := fun j3 w4 => (K j3 w4)
 (bif (a0 == 0) then
 J2 true w
 else
 dM a0 536 65535 w fun r5 w6 => J2 r5 w6)) := okF cZ Tryz.func81 .leaf (by kernel_rfl)
theorem JU {A0 A1 A2 A3 A4 A5 A6 A7 A8 A9 A10 A11 A12 A13 A14 A15 A16 A17 A18 A19 A20 A21 A22 A23 A24 A25 A26 A27 A28 A29 A30 A31 A32 A33 A34 A35 w K} : aH (nH A0 A1 A2 A3 A4 A5 A6 A7 A8 A9 A10 A11 A12 A13 A14 A15 A16 A17 A18 A19 A20 A21 A22 A23 A24 A25 A26 A27 A28 A29 A30 A31 A32 A33 A34 A35 w K)
 (Al w (.cells ⟨(fG A0 A1 A2 A3 A4 A5 A6 A7 A8 A9 A10 A11 A12 A13 A14 A15 A16 A17 A18 A19 A20 A21 A22 A23 A24 A25 A26 A27 A28 A29 A30 A31 A32 A33 A34 A35)⟩ 33) fun a3 w2 => let J4 : Bool -> World -> Prop := fun j5 w6 => ((bif j5 then
 K false w6
 else
 let J7 : Bool -> World -> Prop := fun j8 w9 => ((bif j8 then
 K false w9
 else
 K true w9))
 Ld .slice w6 (a3.add 17) fun x10 => bZ x10 (Value.func (.func 161) #[] #[]) w6 fun r11 w12 => (bif r11 then
 J7 r11 w12
 else
 Ld .slice w12 (a3.add 35) fun x13 => aV x13 (Value.func (.func 162) #[] #[(Value.pointer (some a3))]) w12 fun r14 w15 => J7 r14 w15)))
 ku w2 a3 fun x16 x17 x18 x19 x20 x21 x22 x23 x24 x25 x26 x27 x28 x29 x30 x31 => sQ x16 x17 x18 x19 x20 x21 x22 x23 x24 x25 x26 x27 x28 x29 x30 x31 w2 fun r32 w33 => (bif (!r32) then
 J4 (!r32) w33
 else
 Ld .slice w33 (a3.add 16) fun x34 => bI x34 (Value.func (.func 159) #[] #[]) w33 fun r35 w36 => J4 r35 w36)) := okF cZ Tryz.func82 .leaf (by kernel_rfl)
theorem GR {A0 A1 A2 A3 A4 A5 A6 A7 A8 A9 A10 A11 A12 A13 A14 A15 A16 A17 A18 A19 A20 A21 A22 A23 A24 A25 A26 A27 A28 A29 A30 A31 A32 A33 A34 A35 w K} : aH (j_ A0 A1 A2 A3 A4 A5 A6 A7 A8 A9 A10 A11 A12 A13 A14 A15 A16 A17 A18 A19 A20 A21 A22 A23 A24 A25 A26 A27 A28 A29 A30 A31 A32 A33 A34 A35 w K)
 (Al w (.cells ⟨(fG A0 A1 A2 A3 A4 A5 A6 A7 A8 A9 A10 A11 A12 A13 A14 A15 A16 A17 A18 A19 A20 A21 A22 A23 A24 A25 A26 A27 A28 A29 A30 A31 A32 A33 A34 A35)⟩ 33) fun a3 w2 => let J4 : ah -> World -> Prop := fun j5 w6 => (let J7 : Bool -> World -> Prop := fun j8 w9 => ((bif j8 then
 K true w9
 else
 Ld .slice w9 (a3.add 16) fun x10 => Ro 3 1 8 [(Value.int .i64 0)] (x10.len : Int) (x10.len : Int) w9 fun s11 w12 => Ld .slice w12 (a3.add 35) fun x13 => cu (S := Int × Unit) (fun s14 w15 next16 => (bif (decide (s14.1 < (x13.len : Int))) then
 bM x13 7 s14.1 fun a17 => Ld (.int .i64) w15 (a17.add 0) fun x18 => Ld (.int .i64) w15 (a17.add 1) fun x19 => Ld (.int .i64) w15 (a17.add 2) fun x20 => Ld (.int .i64) w15 (a17.add 3) fun x21 => Ld (.int .i64) w15 (a17.add 4) fun x22 => Ld (.int .i64) w15 (a17.add 5) fun x23 => Ld (.int .i64) w15 (a17.add 6) fun x24 => Al w15 (.cells ⟨[(Value.int .i64 0), (Value.int .i64 0), (Value.int .i64 0), (Value.int .i64 0), (Value.int .i64 0), (Value.int .i64 0), (Value.int .i64 0)]⟩ 105) fun a26 w25 => iT [(Value.int .i64 x18), (Value.int .i64 x19), (Value.int .i64 x20), (Value.int .i64 x21), (Value.int .i64 x22), (Value.int .i64 x23), (Value.int .i64 x24)] w25 a26 0 fun w27 => Ld (.int .i64) w27 a26 fun x28 => bM s11 1 x28 fun a29 => Ld (.int .i64) w27 a29 fun x30 => bM s11 1 x28 fun a31 => St w27 a31 (Value.int .i64 (IntKind.i64.wrap (x30 + 1))) fun w32 => next16 ((IntKind.i64.wrap (s14.1 + 1)), ()) w32
 else
 bZ s11 (Value.func (.func 180) #[] #[(Value.pointer (some a3))]) w15 fun r33 w34 => K r33 w34)) (0, ()) w12))
 dD j5 (Value.func (.func 172) #[] #[]) w6 fun r35 w36 => fU r35 w36 fun r37 w38 => (bif r37 then
 J7 true w38
 else
 Ld .slice w38 (a3.add 17) fun x39 => gI x39 (Value.func (.func 175) #[] #[]) w38 fun r40 w41 => jc r40 w41 fun r42 w43 => (bif r42 then
 J7 true w43
 else
 Ld .slice w43 (a3.add 35) fun x44 => bU x44 (Value.func (.func 168) #[] #[]) w43 fun r45 w46 => eH r45 w46 fun r47 w48 => (bif r47 then
 J7 true w48
 else
 Ld .slice w48 (a3.add 35) fun x49 => bT x49 (Value.func (.func 169) #[] #[]) w48 fun r50 w51 => eY r50 w51 fun r52 w53 => J7 r52 w53))))
 Ld .slice w2.drew (a3.add 16) fun x54 => ku w2.drew a3 fun x55 x56 x57 x58 x59 x60 x61 x62 x63 x64 x65 x66 x67 x68 x69 x70 => (bP x54 w2.drew fun r71 w72 => Zm (dF x55 x56 x57 x58 x59 x60 x61 x62 x63 x64 x65 x66 x67 x68 x69 x70) w72 a3 0 (
 Al w72 (.cells ⟨(dF x55 x56 x57 x58 x59 x60 x61 x62 x63 x64 x65 x66 x67 x68 x69 x70)⟩ 28) fun a74 w73 => w73.cell? (a3.add 16) = some (Value.slice x54.a x54.len x54.cap) ∧
 qg 28 16 16 (dF 0 0 0 0 0 0 0 0 0 0 0 0 0 0 0 0) r71 ⟨(some a74), 1, 1⟩ w73 fun s75 w76 => J4 s75 w76)) ∧
 (Al w2.drew (.cells ⟨(dF x55 x56 x57 x58 x59 x60 x61 x62 x63 x64 x65 x66 x67 x68 x69 x70)⟩ 28) fun a78 w77 => w77.cell? (a3.add 16) = some (Value.slice x54.a x54.len x54.cap) ∧
 bP x54 w77 fun r79 w80 => Zm (dF x55 x56 x57 x58 x59 x60 x61 x62 x63 x64 x65 x66 x67 x68 x69 x70) w80 a3 0 (
 qg 28 16 16 (dF 0 0 0 0 0 0 0 0 0 0 0 0 0 0 0 0) r79 ⟨(some a78), 1, 1⟩ w80 fun s81 w82 => J4 s81 w82))) := okF cZ Tryz.func83 (.seq .leaf (.seq .leaf (.seq .leaf (.seq .leaf (.seq .leaf (.seq .leaf (.seq (.seq .leaf (.blk (.loop [(46, (.int .i64))] .leaf))) .leaf))))))) (by kernel_rfl)
theorem Hl {a0 w K} : aH (jH a0 w K)
 (nV a0 w fun r2 w3 => (bif (!r2) then
 K false w3
 else
 Al w3 (.cells ⟨[(Value.int .i64 0), (Value.int .i64 8), (Value.int .i64 2130706432), (Value.int .i64 8), (Value.int .i64 3758096384), (Value.int .i64 3)]⟩ 300) fun a5 w4 => zA a0 ⟨(some a5), 3, 3⟩ w4 fun r6 w7 => K (!r6) w7)) := okF cZ Tryz.func84 .leaf (by kernel_rfl)
theorem wS {a0 a1 w K} : aH (bJ a0 a1 w K)
 (fV a0 a1 w fun r3 w4 => K (decide (r3 >= 0)) w4) := okF cZ Tryz.func85 .leaf (by kernel_rfl)
theorem zn {a0 w K} : aH (dR a0 w K)
 ((bif (Option.isNone a0.a) then
 K ⟨none, 0, 0⟩ w
 else
 Al w (.cells ⟨[]⟩ 3) fun a3 w2 => qg 3 1 8 [(Value.int .i64 0)] ⟨(some a3), 0, 0⟩ a0 w2 fun s4 w5 => K s4 w5)) := okF cZ Tryz.func86 .leaf (by kernel_rfl)
theorem RJ {a0 w K} : aH (qF a0 w K)
 (let J2 : Bool -> Prop := fun j3 => ((bif j3 then
 K none 1 w
 else
 Al w (.cells ⟨[(Value.slice none 0 0), (Value.int .i64 0), (Value.int .i64 a0), (Value.bool true)]⟩ 304) fun a5 w4 => K (some a5) 0 w4))
 (bif (decide (a0 < 0)) then
 J2 true
 else
 J2 (decide (a0 > 65536)))) := okF cZ Tryz.func87 .leaf (by kernel_rfl)
theorem Fe {a0 B0 B1 B2 B3 B4 B5 B6 w K} : aH (jE a0 B0 B1 B2 B3 B4 B5 B6 w K)
 (Al w (.cells ⟨[(Value.int .i64 B0), (Value.int .i64 B1), (Value.int .i64 B2), (Value.int .i64 B3), (Value.int .i64 B4), (Value.int .i64 B5), (Value.int .i64 B6)]⟩ 105) fun a4 w3 => Ld (.int .i64) w3 (a4.add 1) fun x5 => let J6 : Bool -> Prop := fun j7 => ((bif j7 then
 let J8 : Bool -> World -> Prop := fun j9 w10 => (let J11 : Bool -> World -> Prop := fun j12 w13 => (K j12 w13)
 (bif j9 then
 Ld (.int .i64) w10 (a4.add 1) fun x14 => Ld (.int .i64) w10 (a4.add 4) fun x15 => (bif (x14 == x15) then
 Ld (.int .i64) w10 a4 fun x16 => fQ a0 x16 w10 fun r17 w18 => J11 r17 w18
 else
 J11 false w10)
 else
 J11 false w10))
 Ld (.int .i64) w3.drew (a4.add 2) fun x19 => jH x19 w3.drew fun r20 w21 => (bif r20 then
 Pt a0 fun a22 => Ld .ptr w21 a22 fun x23 => Ld (.int .i64) w21 ((a4.add 4).add 1) fun x24 => jv x23 x24 w21 fun r25 w26 => (bif r25 then
 Ld (.int .i64) w26 (a4.add 3) fun x27 => qM x27 w26 fun r28 w29 => (bif r28 then
 Ld (.int .i64) w29 ((a4.add 4).add 2) fun x30 => qM x30 w29 fun r31 w32 => J8 r31 w32
 else
 J8 false w29)
 else
 J8 false w26)
 else
 J8 false w21)
 else
 K false w3))
 (bif (x5 == 1) then
 J6 (x5 == 1)
 else
 (bif (x5 == 6) then
 J6 (x5 == 6)
 else
 J6 (x5 == 17)))) := okF cZ Tryz.func88 .leaf (by kernel_rfl)
theorem JA {a0 B0 B1 B2 B3 w K} : aH (jg a0 B0 B1 B2 B3 w K)
 (Al w (.cells ⟨[(Value.int .i64 B0), (Value.int .i64 B1), (Value.int .i64 B2), (Value.int .i64 B3)]⟩ 78) fun a4 w3 => dQ a0 w3 fun r5 w6 => (bif (!r5) then
 K 0 false w6
 else
 Pt a0 fun a7 => Ld .ptr w6.drew (a7.add 1) fun x8 => Ld (.int .i64) w6.drew (a4.add 0) fun x9 => Ld (.int .i64) w6.drew (a4.add 1) fun x10 => Ld (.int .i64) w6.drew (a4.add 2) fun x11 => Ld (.int .i64) w6.drew (a4.add 3) fun x12 => iy x9 x10 x11 x12 w6.drew fun r13 w14 => w14.cell? (a7.add 1) = some (Value.pointer x8) ∧
 iR x8 r13 w14 fun r15 r16 w17 => K r15 r16 w17)) := okF cZ Tryz.func89 .leaf (by kernel_rfl)
theorem JB {a0 B0 B1 B2 w K} : aH (kC a0 B0 B1 B2 w K)
 (Al w (.cells ⟨[(Value.int .i64 B0), (Value.int .i64 B1), (Value.int .i64 B2)]⟩ 80) fun a4 w3 => dQ a0 w3 fun r5 w6 => (bif (!r5) then
 K 0 false w6
 else
 Pt a0 fun a7 => Ld .ptr w6.drew (a7.add 2) fun x8 => Ld (.int .i64) w6.drew (a4.add 0) fun x9 => Ld (.int .i64) w6.drew (a4.add 1) fun x10 => Ld (.int .i64) w6.drew (a4.add 2) fun x11 => iD x9 x10 x11 w6.drew fun r12 w13 => w13.cell? (a7.add 2) = some (Value.pointer x8) ∧
 iR x8 r12 w13 fun r14 r15 w16 => K r14 r15 w16)) := okF cZ Tryz.func90 .leaf (by kernel_rfl)
theorem Ba {a0 a1 w K} : aH (iK a0 a1 w K)
 (gQ a0 a1 w fun r3 r4 w5 => (bif (r4 != 0) then
 K 0 w5
 else
 Pt r3 fun a6 => Ld (.int .i64) w5 a6 fun x7 => K x7 w5)) := okF cZ Tryz.func91 .leaf (by kernel_rfl)
theorem Eo {a0 w K} : aH (iV a0 w K)
 (Pt a0 fun a2 => Ld .ptr w.drew (a2.add 2) fun x3 => Pt a0 fun a4 => Ld (.int .i64) w.drew ((a4.add 5).add 21) fun x5 => pW x3 w.drew fun r6 w7 => w7.cell? ((a4.add 5).add 21) = some (Value.int .i64 x5) ∧
 K (decide (r6 >= x5)) w7) := okF cZ Tryz.func92 .leaf (by kernel_rfl)
theorem Ee {a0 a1 w K} : aH (jh a0 a1 w K)
 (gQ a0 a1 w fun r3 r4 w5 => (bif (r4 != 0) then
 K r4 w5
 else
 Pt r3 fun a6 => Ld (.int .i64) w5 (a6.add 0) fun x7 => Ld (.int .i64) w5 (a6.add 1) fun x8 => jd x7 x8 w5 fun r9 w10 => (bif r9 then
 K 10 w10
 else
 Pt r3 fun a11 => Ld (.int .i64) w10 a11 fun x12 => Pt r3 fun a13 => St w10 a13 (Value.int .i64 (IntKind.i64.wrap (x12 + 1))) fun w14 => K 0 w14))) := okF cZ Tryz.func93 .leaf (by kernel_rfl)
theorem Hr {a0 B0 B1 B2 w K} : aH (jP a0 B0 B1 B2 w K)
 (Al w (.cells ⟨[(Value.int .i64 B0), (Value.int .i64 B1), (Value.int .i64 B2)]⟩ 80) fun a4 w3 => fZ a0 w3 fun r5 w6 => (bif (!r5) then
 K 2 w6
 else
 let J7 : Bool -> World -> Prop := fun j8 w9 => ((bif j8 then
 K 1 w9
 else
 Pt a0 fun a10 => Ld .map w9.drew (a10.add 3) fun x11 => Ld (.int .i64) w9.drew (a4.add 0) fun x12 => Ld (.int .i64) w9.drew (a4.add 1) fun x13 => Ld (.int .i64) w9.drew (a4.add 2) fun x14 => oL Tryz.prog 80 .bool x11 (Value.agg ⟨[(Value.int .i64 x12), (Value.int .i64 x13), (Value.int .i64 x14)]⟩) (Value.bool false) w9.drew fun x15 => (bif x15 then
 K 9 w9.drew
 else
 Pt a0 fun a16 => Ld .map w9.drew.drew (a16.add 3) fun x17 => Ld (.int .i64) w9.drew.drew (a4.add 0) fun x18 => Ld (.int .i64) w9.drew.drew (a4.add 1) fun x19 => Ld (.int .i64) w9.drew.drew (a4.add 2) fun x20 => tH Tryz.prog 80 x17 (Value.agg ⟨[(Value.int .i64 x18), (Value.int .i64 x19), (Value.int .i64 x20)]⟩) (Value.bool true) w9.drew.drew fun w21 => K 0 w21)))
 Ld (.int .i64) w6 a4 fun x22 => rO x22 w6 fun r23 w24 => (bif (!r23) then
 J7 (!r23) w24
 else
 Ld (.int .i64) w24 (a4.add 1) fun x25 => jv a0 x25 w24 fun r26 w27 => (bif (!r26) then
 J7 (!r26) w27
 else
 Ld (.int .i64) w27 (a4.add 2) fun x28 => (bif (decide (x28 < 0)) then
 J7 (decide (x28 < 0)) w27
 else
 Ld (.int .i64) w27 (a4.add 2) fun x29 => J7 (decide (x29 >= 65536)) w27))))) := okF cZ Tryz.func94 .leaf (by kernel_rfl)
theorem KZ {a0 B0 B1 B2 B3 B4 B5 B6 B7 w K} : aH (pJ a0 B0 B1 B2 B3 B4 B5 B6 B7 w K)
 (Al w (.cells ⟨[(Value.int .i64 B0), (Value.int .i64 B1), (Value.int .i64 B2), (Value.int .i64 B3), (Value.int .i64 B4), (Value.int .i64 B5), (Value.int .i64 B6), (Value.bool B7)]⟩ 130) fun a4 w3 => dQ a0 w3 fun r5 w6 => (bif (!r5) then
 K 0 2 w6
 else
 Ld (.int .i64) w6 (a4.add 0) fun x7 => Ld (.int .i64) w6 (a4.add 1) fun x8 => Ld (.int .i64) w6 (a4.add 2) fun x9 => Ld (.int .i64) w6 (a4.add 3) fun x10 => jg a0 x7 x8 x9 x10 w6 fun r11 r12 w13 => Ld (.int .i64) w13 ((a4.add 4).add 0) fun x14 => Ld (.int .i64) w13 ((a4.add 4).add 1) fun x15 => Ld (.int .i64) w13 ((a4.add 4).add 2) fun x16 => kC a0 x14 x15 x16 w13 fun r17 r18 w19 => let J20 : Bool -> Prop := fun j21 => ((bif j21 then
 K 0 9 w19
 else
 nJ a0 w19 fun r22 r23 w24 => (bif (!r23) then
 K 0 7 w24
 else
 Pt a0 fun a25 => Ld .slice w24.drew a25 fun x26 => Ld (.int .i64) w24.drew (a4.add 0) fun x27 => Ld (.int .i64) w24.drew (a4.add 1) fun x28 => Ld (.int .i64) w24.drew (a4.add 2) fun x29 => Ld (.int .i64) w24.drew (a4.add 3) fun x30 => Ld (.int .i64) w24.drew (a4.add 4) fun x31 => Ld (.int .i64) w24.drew (a4.add 5) fun x32 => Ld (.int .i64) w24.drew (a4.add 6) fun x33 => Ld .bool w24.drew (a4.add 7) fun x34 => bM x26 9 r22 fun a35 => iT (MX x27 x28 x29 x30 x31 x32 x33 x34 true) w24.drew a35 0 fun w36 => Pt a0 fun a37 => Ld .ptr w36.drew (a37.add 1) fun x38 => Ld (.int .i64) w36.drew (a4.add 0) fun x39 => Ld (.int .i64) w36.drew (a4.add 1) fun x40 => Ld (.int .i64) w36.drew (a4.add 2) fun x41 => Ld (.int .i64) w36.drew (a4.add 3) fun x42 => iy x39 x40 x41 x42 w36.drew fun r43 w44 => w44.cell? (a37.add 1) = some (Value.pointer x38) ∧
 iQ x38 r43 r22 w44 fun r45 w46 => Pt a0 fun a47 => Ld .ptr w46.drew (a47.add 2) fun x48 => Ld (.int .i64) w46.drew ((a4.add 4).add 0) fun x49 => Ld (.int .i64) w46.drew ((a4.add 4).add 1) fun x50 => Ld (.int .i64) w46.drew ((a4.add 4).add 2) fun x51 => iD x49 x50 x51 w46.drew fun r52 w53 => w53.cell? (a47.add 2) = some (Value.pointer x48) ∧
 iQ x48 r52 r22 w53 fun r54 w55 => Pt a0 fun a56 => Ld (.int .i64) w55 (a56.add 3) fun x57 => Pt a0 fun a58 => St w55 (a58.add 3) (Value.int .i64 (IntKind.i64.wrap (x57 + 1))) fun w59 => K r22 0 w59)))
 (bif r12 then
 J20 true
 else
 J20 r18))) := okF cZ Tryz.func95 .leaf (by kernel_rfl)
theorem BI {a0 w K} : aH (dL a0 w K)
 (let J2 : Bool -> Prop := fun j3 => (K j3 w)
 (bif (!(Option.isNone a0)) then
 Pt a0 fun a4 => Ld .map w (a4.add 448) fun x5 => J2 (!(Option.isNone x5))
 else
 J2 false)) := okF cZ Tryz.func96 .leaf (by kernel_rfl)
theorem Ea {a0 w K} : aH (jf a0 w K)
 (cu (S := Int × Unit) (fun s2 w3 next4 => (bif (decide (s2.1 < 7)) then
 Pt a0 fun a5 => Ld (.int .i64) w3 (a5.add 449) fun x6 => 0 <= (IntKind.i64.wrap (6 * s2.1)) ∧
 cu (S := Int × Unit) (fun s7 w8 next9 => (bif (decide (s7.1 < 64)) then
 Pt a0 fun a10 => (0 : Int) <= s2.1 ∧ s2.1 < (7 : Int) ∧
 (0 : Int) <= s7.1 ∧ s7.1 < (64 : Int) ∧
 Ld .slice w8 ((a10.add (Int.toNat s2.1 * 64)).add (Int.toNat s7.1 * 1)) fun x11 => (bif (decide ((x11.len : Int) > 0)) then
 bC x11 (Value.func (.func 198) #[] #[]) w8 fun r12 r13 r14 w15 => K r13 true w15
 else
 next9 ((IntKind.i64.wrap (s7.1 + 1)), ()) w8)
 else
 next4 ((IntKind.i64.wrap (s2.1 + 1)), ()) w8)) ((sW .i64 (gG .i64 x6 (IntKind.i64.wrap (6 * s2.1))) 63), ()) w3
 else
 K 0 false w3)) (0, ()) w) := okF cZ Tryz.func97 (.seq .leaf (.seq (.seq .leaf (.blk (.loop [(8, (.int .i64))] (.seq .leaf (.seq .leaf (.seq (.blk (.seq .leaf (.seq .leaf (.seq .leaf (.blk (.loop [(6, (.int .i64))] .leaf)))))) .leaf)))))) .leaf)) (by kernel_rfl)
theorem AB {a0 a1 w K} : aH (fF a0 a1 w K)
 (Pt a0 fun a3 => Ld (.int .i64) w (a3.add 449) fun x4 => lJ x4 a1 w fun r5 w6 => cu (S := ah × Int × Unit) (fun s7 w8 next9 => (bif (decide (s7.2.1 > 0)) then
 0 <= (IntKind.i64.wrap (6 * s7.2.1)) ∧
 Pt a0 fun a10 => (0 : Int) <= s7.2.1 ∧ s7.2.1 < (7 : Int) ∧
 (0 : Int) <= (sW .i64 (gG .i64 a1 (IntKind.i64.wrap (6 * s7.2.1))) 63) ∧ (sW .i64 (gG .i64 a1 (IntKind.i64.wrap (6 * s7.2.1))) 63) < (64 : Int) ∧
 Pt (some ((a10.add (Int.toNat s7.2.1 * 64)).add (Int.toNat (sW .i64 (gG .i64 a1 (IntKind.i64.wrap (6 * s7.2.1))) 63) * 1))) fun a11 => Ld .slice w8.drew a11 fun x12 => qg 237 3 24 [(Value.int .i64 0), (Value.int .i64 0), (Value.int .i64 0)] s7.1 x12 w8.drew fun s13 w14 => Pt (some ((a10.add (Int.toNat s7.2.1 * 64)).add (Int.toNat (sW .i64 (gG .i64 a1 (IntKind.i64.wrap (6 * s7.2.1))) 63) * 1))) fun a15 => St w14 a15 (Value.slice none 0 0) fun w16 => next9 (s13, (IntKind.i64.wrap (s7.2.1 - 1)), ()) w16
 else
 Pt a0 fun a17 => St w8 (a17.add 449) (Value.int .i64 a1) fun w18 => cu (S := Int × Unit) (fun s19 w20 next21 => (bif (decide (s19.1 < (s7.1.len : Int))) then
 bM s7.1 3 s19.1 fun a22 => Ld (.int .i64) w20 (a22.add 0) fun x23 => Ld (.int .i64) w20 (a22.add 1) fun x24 => Ld (.int .i64) w20 (a22.add 2) fun x25 => Al w20 (.cells ⟨[(Value.int .i64 0), (Value.int .i64 0), (Value.int .i64 0)]⟩ 237) fun a27 w26 => iT [(Value.int .i64 x23), (Value.int .i64 x24), (Value.int .i64 x25)] w26 a27 0 fun w28 => Ld (.int .i64) w28 (a27.add 0) fun x29 => Ld (.int .i64) w28 (a27.add 1) fun x30 => Ld (.int .i64) w28 (a27.add 2) fun x31 => iq a0 x29 x30 x31 w28 fun w32 => next21 ((IntKind.i64.wrap (s19.1 + 1)), ()) w32
 else
 K w20)) (0, ()) w18)) (⟨none, 0, 0⟩, r5, ()) w6) := okF cZ Tryz.func98 (.seq .leaf (.seq (.seq .leaf (.blk (.loop [(4, .slice), (5, (.int .i64))] .leaf))) (.seq .leaf (.seq .leaf (.blk (.loop [(43, (.int .i64))] .leaf)))))) (by kernel_rfl)
theorem Fa {a0 w K} : aH (jB a0 w K)
 (bK (Value.pointer a0) = true ∧
 Al w (.cells ⟨[(Value.pointer a0)]⟩ 89) fun a3 w2 => Ld .ptr w2.drew a3 fun x4 => Ld .ptr w2.drew a3 fun x5 => Pt x5 fun a6 => Ld (.int .i64) w2.drew (a6.add 449) fun x7 => fD x4 x7 w2.drew fun r8 w9 => Pt r8 fun a10 => Ld .slice w9 a10 fun x11 => bG x11 w9 fun r12 w13 => aK r12 (Value.func (.func 203) #[] #[(Value.pointer (some a3))]) w13 fun r14 w15 => Pt r8 fun a16 => Ld .slice w15 a16 fun x17 => aK x17 (Value.func (.func 204) #[] #[(Value.pointer (some a3))]) w15 fun r18 w19 => Pt r8 fun a20 => St w19 a20 (Value.slice r18.a r18.len r18.cap) fun w21 => aS r14 (Value.func (.func 206) #[] #[]) w21 fun w22 => cu (S := ah × Int × Unit) (fun s23 w24 next25 => (bif (decide (s23.2.1 < (r14.len : Int))) then
 bM r14 3 s23.2.1 fun a26 => Ld (.int .i64) w24 (a26.add 0) fun x27 => Ld (.int .i64) w24 (a26.add 1) fun x28 => Ld (.int .i64) w24 (a26.add 2) fun x29 => Al w24 (.cells ⟨[(Value.int .i64 0), (Value.int .i64 0), (Value.int .i64 0)]⟩ 237) fun a31 w30 => iT [(Value.int .i64 x27), (Value.int .i64 x28), (Value.int .i64 x29)] w30 a31 0 fun w32 => Ld .ptr w32.drew a3 fun x33 => Pt x33 fun a34 => Ld .map w32.drew (a34.add 448) fun x35 => Ld (.int .i64) w32.drew a31 fun x36 => zV Tryz.prog 3 x35 (Value.int .i64 x36) w32.drew fun w37 => Ld (.int .i64) w37 a31 fun x38 => Al w37 (.cells ⟨[(Value.int .i64 x38)]⟩ 3) fun a40 w39 => qg 3 1 8 [(Value.int .i64 0)] s23.1 ⟨(some a40), 1, 1⟩ w39 fun s41 w42 => next25 (s41, (IntKind.i64.wrap (s23.2.1 + 1)), ()) w42
 else
 K s23.1 w24)) (⟨none, 0, 0⟩, 0, ()) w22) := okF cZ Tryz.func99 (.seq .leaf (.seq .leaf (.seq .leaf (.seq .leaf (.seq .leaf (.seq .leaf (.seq (.seq .leaf (.blk (.loop [(5, .slice), (31, (.int .i64))] .leaf))) .leaf))))))) (by kernel_rfl)
theorem Oo { w K} : aH (vH  w K)
 (Al w (.cells ⟨(dF 0 0 0 0 0 0 0 0 0 0 0 0 0 0 0 0)⟩ 28) fun a2 w1 => iT (dF 0 0 0 0 0 0 0 0 0 0 255 255 0 0 0 0) w1 a2 0 fun w3 => ku w3 a2 fun y4 y5 y6 y7 y8 y9 y10 y11 y12 y13 y14 y15 y16 y17 y18 y19 => K y4 y5 y6 y7 y8 y9 y10 y11 y12 y13 y14 y15 y16 y17 y18 y19 w3) := okF cZ Tryz.func100 .leaf (by kernel_rfl)
theorem W9 {a0 a1 a2 w K} : aH (uh a0 a1 a2 w K)
 (eX a0 w fun r4 w5 => vT a1 a2 w5 fun r6 w7 => (bif (!r6) then
 K r4 w7
 else
 uz a1 a2 w7 fun r8 w9 => dH r4 r8 w9 fun r10 w11 => K r10 w11)) := okF cZ Tryz.func101 .leaf (by kernel_rfl)
theorem BF {a0 a1 C0 C1 C2 D0 D1 D2 D3 D4 D5 D6 D7 D8 D9 D10 D11 D12 D13 D14 D15 D16 D17 D18 D19 D20 D21 D22 D23 D24 D25 D26 D27 D28 D29 D30 D31 D32 w K} : aH (oZ a0 a1 C0 C1 C2 D0 D1 D2 D3 D4 D5 D6 D7 D8 D9 D10 D11 D12 D13 D14 D15 D16 D17 D18 D19 D20 D21 D22 D23 D24 D25 D26 D27 D28 D29 D30 D31 D32 w K)
 (Al w (.cells ⟨[(Value.int .i64 C0), (Value.int .i64 C1), (Value.int .i64 C2)]⟩ 80) fun a6 w5 => Al w5 (.cells ⟨(dw D0 D1 D2 D3 D4 D5 D6 D7 D8 D9 D10 D11 D12 D13 D14 D15 D16 D17 D18 D19 D20 D21 D22 D23 D24 D25 D26 D27 D28 D29 D30 D31 D32)⟩ 51) fun a8 w7 => Al w7 (.cells ⟨(dw 0 0 0 0 0 0 0 0 0 0 0 0 0 0 0 0 0 0 0 0 0 0 0 0 0 0 0 0 0 0 0 0 0)⟩ 51) fun a10 w9 => let J11 : Bool -> Prop := fun j12 => (let J13 : Bool -> World -> Prop := fun j14 w15 => ((bif j14 then
 fH w15.drew a8 fun x16 x17 x18 x19 x20 x21 x22 x23 x24 x25 x26 x27 x28 x29 x30 x31 x32 x33 x34 x35 x36 x37 x38 x39 x40 x41 x42 x43 x44 x45 x46 x47 x48 => iT (dw x16 x17 x18 x19 x20 x21 x22 x23 x24 x25 x26 x27 x28 x29 x30 x31 x32 x33 x34 x35 x36 x37 x38 x39 x40 x41 x42 x43 x44 x45 x46 x47 x48) w15.drew a10 0 fun w49 => fH w49 a10 fun y50 y51 y52 y53 y54 y55 y56 y57 y58 y59 y60 y61 y62 y63 y64 y65 y66 y67 y68 y69 y70 y71 y72 y73 y74 y75 y76 y77 y78 y79 y80 y81 y82 => K 11 y50 y51 y52 y53 y54 y55 y56 y57 y58 y59 y60 y61 y62 y63 y64 y65 y66 y67 y68 y69 y70 y71 y72 y73 y74 y75 y76 y77 y78 y79 y80 y81 y82 w49
 else
 Ld (.int .i64) w15 a8 fun x83 => St w15 a8 (Value.int .i64 (if (86400 : Int) < x83 then 86400 else x83)) fun w84 => Ld (.int .i64) w84 a8 fun x85 => gU a0 a1 x85 w84 fun w86 => Pt a1 fun a87 => Ld (.int .i64) w86.drew ((a87.add 4).add 1) fun x88 => Pt a1 fun a89 => Ld (.int .i64) w86.drew ((a89.add 4).add 2) fun x90 => St w86.drew (a8.add 32) (Value.int .i64 x88) fun w91 => w91.cell? ((a89.add 4).add 2) = some (Value.int .i64 x90) ∧
 St w91 (a8.add 31) (Value.int .i64 x90) fun w92 => fH w92.drew a8 fun x93 x94 x95 x96 x97 x98 x99 x100 x101 x102 x103 x104 x105 x106 x107 x108 x109 x110 x111 x112 x113 x114 x115 x116 x117 x118 x119 x120 x121 x122 x123 x124 x125 => iT (dw x93 x94 x95 x96 x97 x98 x99 x100 x101 x102 x103 x104 x105 x106 x107 x108 x109 x110 x111 x112 x113 x114 x115 x116 x117 x118 x119 x120 x121 x122 x123 x124 x125) w92.drew a10 0 fun w126 => fH w126 a10 fun y127 y128 y129 y130 y131 y132 y133 y134 y135 y136 y137 y138 y139 y140 y141 y142 y143 y144 y145 y146 y147 y148 y149 y150 y151 y152 y153 y154 y155 y156 y157 y158 y159 => K 0 y127 y128 y129 y130 y131 y132 y133 y134 y135 y136 y137 y138 y139 y140 y141 y142 y143 y144 y145 y146 y147 y148 y149 y150 y151 y152 y153 y154 y155 y156 y157 y158 y159 w126))
 (bif j12 then
 Ld (.int .i64) w9.drew (a6.add 0) fun x160 => Ld (.int .i64) w9.drew (a6.add 1) fun x161 => Ld (.int .i64) w9.drew (a6.add 2) fun x162 => Pt a1 fun a163 => Ld (.int .i64) w9.drew ((a163.add 4).add 0) fun x164 => Ld (.int .i64) w9.drew ((a163.add 4).add 1) fun x165 => Ld (.int .i64) w9.drew ((a163.add 4).add 2) fun x166 => J13 (!((x160 == x164) && ((x161 == x165) && ((x162 == x166) && true)))) w9.drew
 else
 J13 false w9.drew))
 Ld (.int .i64) w9 (a6.add 1) fun x167 => (bif (x167 != 0) then
 J11 true
 else
 Ld (.int .i64) w9 (a6.add 2) fun x168 => J11 (x168 != 0))) := okF cZ Tryz.func102 .leaf (by kernel_rfl)
theorem CZ {a0 B0 B1 B2 B3 C0 C1 C2 D0 D1 D2 D3 D4 D5 D6 D7 D8 D9 D10 D11 D12 D13 D14 D15 D16 D17 D18 D19 D20 D21 D22 D23 D24 D25 D26 D27 D28 D29 D30 D31 D32 w K} : aH (oW a0 B0 B1 B2 B3 C0 C1 C2 D0 D1 D2 D3 D4 D5 D6 D7 D8 D9 D10 D11 D12 D13 D14 D15 D16 D17 D18 D19 D20 D21 D22 D23 D24 D25 D26 D27 D28 D29 D30 D31 D32 w K)
 (Al w (.cells ⟨[(Value.int .i64 B0), (Value.int .i64 B1), (Value.int .i64 B2), (Value.int .i64 B3)]⟩ 78) fun a6 w5 => Al w5 (.cells ⟨[(Value.int .i64 C0), (Value.int .i64 C1), (Value.int .i64 C2)]⟩ 80) fun a8 w7 => Al w7 (.cells ⟨(dw D0 D1 D2 D3 D4 D5 D6 D7 D8 D9 D10 D11 D12 D13 D14 D15 D16 D17 D18 D19 D20 D21 D22 D23 D24 D25 D26 D27 D28 D29 D30 D31 D32)⟩ 51) fun a10 w9 => Al w9 (.cells ⟨(dw 0 0 0 0 0 0 0 0 0 0 0 0 0 0 0 0 0 0 0 0 0 0 0 0 0 0 0 0 0 0 0 0 0)⟩ 51) fun a12 w11 => Pt a0 fun a13 => Ld .map w11.drew (a13.add 2) fun x14 => Pt a0 fun a15 => Ld (.int .i64) w11.drew (a15.add 6) fun x16 => IC w11.drew x14 fun n17 => w11.drew.cell? (a15.add 6) = some (Value.int .i64 x16) ∧
 (bif (decide (n17 >= x16)) then
 fH w11.drew.drew a10 fun x18 x19 x20 x21 x22 x23 x24 x25 x26 x27 x28 x29 x30 x31 x32 x33 x34 x35 x36 x37 x38 x39 x40 x41 x42 x43 x44 x45 x46 x47 x48 x49 x50 => iT (dw x18 x19 x20 x21 x22 x23 x24 x25 x26 x27 x28 x29 x30 x31 x32 x33 x34 x35 x36 x37 x38 x39 x40 x41 x42 x43 x44 x45 x46 x47 x48 x49 x50) w11.drew.drew a12 0 fun w51 => fH w51 a12 fun y52 y53 y54 y55 y56 y57 y58 y59 y60 y61 y62 y63 y64 y65 y66 y67 y68 y69 y70 y71 y72 y73 y74 y75 y76 y77 y78 y79 y80 y81 y82 y83 y84 => K 8 y52 y53 y54 y55 y56 y57 y58 y59 y60 y61 y62 y63 y64 y65 y66 y67 y68 y69 y70 y71 y72 y73 y74 y75 y76 y77 y78 y79 y80 y81 y82 y83 y84 w51
 else
 Pt a0 fun a85 => Ld .ptr w11.drew.drew a85 fun x86 => Ld (.int .i64) w11.drew.drew (a6.add 0) fun x87 => Ld (.int .i64) w11.drew.drew (a6.add 1) fun x88 => Ld (.int .i64) w11.drew.drew (a6.add 2) fun x89 => Ld (.int .i64) w11.drew.drew (a6.add 3) fun x90 => Ld (.int .i64) w11.drew.drew (a8.add 0) fun x91 => Ld (.int .i64) w11.drew.drew (a8.add 1) fun x92 => Ld (.int .i64) w11.drew.drew (a8.add 2) fun x93 => iw x86 x87 x88 x89 x90 x91 x92 x93 w11.drew.drew fun r94 w95 => qj r94 w95 fun r96 w97 => (bif (r96 != 0) then
 fH w97.drew a10 fun x98 x99 x100 x101 x102 x103 x104 x105 x106 x107 x108 x109 x110 x111 x112 x113 x114 x115 x116 x117 x118 x119 x120 x121 x122 x123 x124 x125 x126 x127 x128 x129 x130 => iT (dw x98 x99 x100 x101 x102 x103 x104 x105 x106 x107 x108 x109 x110 x111 x112 x113 x114 x115 x116 x117 x118 x119 x120 x121 x122 x123 x124 x125 x126 x127 x128 x129 x130) w97.drew a12 0 fun w131 => fH w131 a12 fun y132 y133 y134 y135 y136 y137 y138 y139 y140 y141 y142 y143 y144 y145 y146 y147 y148 y149 y150 y151 y152 y153 y154 y155 y156 y157 y158 y159 y160 y161 y162 y163 y164 => K r96 y132 y133 y134 y135 y136 y137 y138 y139 y140 y141 y142 y143 y144 y145 y146 y147 y148 y149 y150 y151 y152 y153 y154 y155 y156 y157 y158 y159 y160 y161 y162 y163 y164 w131
 else
 cu (S := Unit) (fun s165 w166 next167 => Pt a0 fun a168 => Ld .map w166.drew (a168.add 3) fun x169 => Pt a0 fun a170 => Ld (.int .i64) w166.drew (a170.add 5) fun x171 => oL Tryz.prog 3 .ptr x169 (Value.int .i64 x171) (Value.pointer none) w166.drew fun x172 => (bif (!(Option.isNone x172)) then
 Pt a0 fun a173 => Ld (.int .i64) w166.drew (a173.add 5) fun x174 => (8192 : Int) ≠ 0 ∧
 Pt a0 fun a175 => St w166.drew (a175.add 5) (Value.int .i64 (Int.tmod (IntKind.i64.wrap (x174 + 1)) 8192)) fun w176 => next167 () w176
 else
 Ld (.int .i64) w166.drew.drew (a6.add 0) fun x177 => Ld (.int .i64) w166.drew.drew (a6.add 1) fun x178 => Ld (.int .i64) w166.drew.drew (a6.add 2) fun x179 => Ld (.int .i64) w166.drew.drew (a6.add 3) fun x180 => Ld (.int .i64) w166.drew.drew (a8.add 0) fun x181 => Ld (.int .i64) w166.drew.drew (a8.add 1) fun x182 => Ld (.int .i64) w166.drew.drew (a8.add 2) fun x183 => Pt a0 fun a184 => Ld (.int .i64) w166.drew.drew (a184.add 5) fun x185 => Al w166.drew.drew (.cells ⟨(abG x177 x178 x179 x180 x181 x182 x183 0 x185)⟩ 122) fun a187 w186 => Pt a0 fun a188 => Ld .map w186.drew (a188.add 2) fun x189 => Ld (.int .i64) w186.drew (a6.add 0) fun x190 => Ld (.int .i64) w186.drew (a6.add 1) fun x191 => Ld (.int .i64) w186.drew (a6.add 2) fun x192 => Ld (.int .i64) w186.drew (a6.add 3) fun x193 => Pt a0 fun a194 => Ld .map w186.drew (a194.add 3) fun x195 => Pt (some a187) fun a196 => Ld (.int .i64) w186.drew (a196.add 8) fun x197 => LY Tryz.prog 78 x189 (Value.agg ⟨[(Value.int .i64 x190), (Value.int .i64 x191), (Value.int .i64 x192), (Value.int .i64 x193)]⟩) (Value.pointer none) w186.drew fun v198 n199 w200 => Td x189 n199 (Value.pointer (some a187)) w200 fun w201 => LY Tryz.prog 3 x195 (Value.int .i64 x197) (Value.pointer none) w201 fun v202 n203 w204 => Td x195 n203 (Value.pointer (some a187)) w204 fun w205 => Ld (.int .i64) w205 a10 fun x206 => St w205 a10 (Value.int .i64 (if (86400 : Int) < x206 then 86400 else x206)) fun w207 => Ld (.int .i64) w207 a10 fun x208 => gU a0 (some a187) x208 w207 fun w209 => fH w209.drew a10 fun x210 x211 x212 x213 x214 x215 x216 x217 x218 x219 x220 x221 x222 x223 x224 x225 x226 x227 x228 x229 x230 x231 x232 x233 x234 x235 x236 x237 x238 x239 x240 x241 x242 => iT (dw x210 x211 x212 x213 x214 x215 x216 x217 x218 x219 x220 x221 x222 x223 x224 x225 x226 x227 x228 x229 x230 x231 x232 x233 x234 x235 x236 x237 x238 x239 x240 x241 x242) w209.drew a12 0 fun w243 => fH w243 a12 fun y244 y245 y246 y247 y248 y249 y250 y251 y252 y253 y254 y255 y256 y257 y258 y259 y260 y261 y262 y263 y264 y265 y266 y267 y268 y269 y270 y271 y272 y273 y274 y275 y276 => K 0 y244 y245 y246 y247 y248 y249 y250 y251 y252 y253 y254 y255 y256 y257 y258 y259 y260 y261 y262 y263 y264 y265 y266 y267 y268 y269 y270 y271 y272 y273 y274 y275 y276 w243)) () w97))) := okF cZ Tryz.func103 (.seq .leaf (.seq .leaf (.seq .leaf (.seq (.blk (.loop [] .leaf)) .leaf)))) (by kernel_rfl)
theorem KO {A0 A1 A2 A3 A4 A5 A6 A7 A8 A9 A10 A11 A12 A13 A14 A15 A16 A17 A18 A19 A20 A21 A22 A23 A24 A25 A26 A27 A28 A29 A30 A31 A32 w K} : aH (lM A0 A1 A2 A3 A4 A5 A6 A7 A8 A9 A10 A11 A12 A13 A14 A15 A16 A17 A18 A19 A20 A21 A22 A23 A24 A25 A26 A27 A28 A29 A30 A31 A32 w K)
 (Al w (.cells ⟨(dw A0 A1 A2 A3 A4 A5 A6 A7 A8 A9 A10 A11 A12 A13 A14 A15 A16 A17 A18 A19 A20 A21 A22 A23 A24 A25 A26 A27 A28 A29 A30 A31 A32)⟩ 51) fun a3 w2 => Ld (.int .i64) w2 a3 fun x4 => Ld (.int .i64) w2 (a3.add 29) fun x5 => Ld (.int .i64) w2 (a3.add 30) fun x6 => Ld (.int .i64) w2 (a3.add 31) fun x7 => Ld (.int .i64) w2 (a3.add 32) fun x8 => Al w2 (.cells ⟨(aaD x4 4 x5 1 x6 2 x7 2 x8 4)⟩ 233) fun a10 w9 => vP ⟨(some a10), 5, 5⟩ w9 fun r11 w12 => K r11 w12) := okF cZ Tryz.func104 .leaf (by kernel_rfl)
theorem U0 {a0 w K} : aH (vP a0 w K)
 (aY a0 (Value.func (.func 214) #[] #[]) w fun r2 w3 => K (!r2) w3) := okF cZ Tryz.func105 .leaf (by kernel_rfl)
theorem U7 {a0 a1 w K} : aH (og a0 a1 w K)
 (cu (S := ah × Int × Unit) (fun s3 w4 next5 => (bif (decide (s3.2.1 < (a1.len : Int))) then
 bM a1 2 s3.2.1 fun a6 => Ld (.int .i64) w4 (a6.add 0) fun x7 => Ld (.int .i64) w4 (a6.add 1) fun x8 => Al w4 (.cells ⟨[(Value.int .i64 0), (Value.int .i64 0)]⟩ 233) fun a10 w9 => iT [(Value.int .i64 x7), (Value.int .i64 x8)] w9 a10 0 fun w11 => Ld (.int .i64) w11 a10 fun x12 => Ld (.int .i64) w11 (a10.add 1) fun x13 => uh s3.1 x12 x13 w11 fun r14 w15 => next5 (r14, (IntKind.i64.wrap (s3.2.1 + 1)), ()) w15
 else
 K s3.1 w4)) (a0, 0, ()) w) := okF cZ Tryz.func106 (.seq .leaf (.seq (.seq .leaf (.blk (.loop [(0, .slice), (9, (.int .i64))] .leaf))) .leaf)) (by kernel_rfl)
theorem JG {A0 A1 A2 A3 A4 A5 A6 A7 A8 A9 A10 A11 A12 A13 A14 A15 A16 A17 A18 A19 A20 A21 A22 A23 A24 A25 A26 A27 A28 A29 A30 A31 A32 a1 w K} : aH (jR A0 A1 A2 A3 A4 A5 A6 A7 A8 A9 A10 A11 A12 A13 A14 A15 A16 A17 A18 A19 A20 A21 A22 A23 A24 A25 A26 A27 A28 A29 A30 A31 A32 a1 w K)
 (Al w (.cells ⟨(dw A0 A1 A2 A3 A4 A5 A6 A7 A8 A9 A10 A11 A12 A13 A14 A15 A16 A17 A18 A19 A20 A21 A22 A23 A24 A25 A26 A27 A28 A29 A30 A31 A32)⟩ 51) fun a4 w3 => Ld (.int .i64) w3 (a4.add 32) fun x5 => ru x5 w3 fun r6 r7 r8 r9 r10 r11 r12 r13 r14 r15 r16 r17 r18 r19 r20 r21 w22 => Al w22 (.cells ⟨(dF 0 0 0 0 0 0 0 0 0 0 0 0 0 0 0 0)⟩ 28) fun a24 w23 => iT (dF r6 r7 r8 r9 r10 r11 r12 r13 r14 r15 r16 r17 r18 r19 r20 r21) w23 a24 0 fun w25 => let J26 : ah -> World -> Prop := fun j27 w28 => (oG a24 16 1 0 (16 : Int) fun s29 => qg 5 1 1 [(Value.int .u8 0)] j27 s29 w28 fun s30 w31 => K s30 w31)
 oG (a4.add 17) 12 1 0 (12 : Int) fun s32 => Ld (.int .i64) w25.drew (a4.add 29) fun x33 => Ld (.int .i64) w25.drew (a4.add 30) fun x34 => Ld (.int .i64) w25.drew (a4.add 31) fun x35 => (qg 5 1 1 [(Value.int .u8 0)] a1 s32 w25.drew fun s36 w37 => w37.cell? (a4.add 31) = some (Value.int .i64 x35) ∧
 w37.cell? (a4.add 30) = some (Value.int .i64 x34) ∧
 w37.cell? (a4.add 29) = some (Value.int .i64 x33) ∧
 Al w37 (.cells ⟨[(Value.int .i64 x33), (Value.int .i64 1), (Value.int .i64 0), (Value.int .i64 3), (Value.int .i64 x34), (Value.int .i64 2), (Value.int .i64 x35), (Value.int .i64 2)]⟩ 233) fun a39 w38 => og s36 ⟨(some a39), 4, 4⟩ w38 fun r40 w41 => J26 r40 w41) ∧
 (Al w25.drew (.cells ⟨[(Value.int .i64 x33), (Value.int .i64 1), (Value.int .i64 0), (Value.int .i64 3), (Value.int .i64 x34), (Value.int .i64 2), (Value.int .i64 x35), (Value.int .i64 2)]⟩ 233) fun a43 w42 => qg 5 1 1 [(Value.int .u8 0)] a1 s32 w42 fun s44 w45 => w45.cell? (a4.add 31) = some (Value.int .i64 x35) ∧
 w45.cell? (a4.add 30) = some (Value.int .i64 x34) ∧
 w45.cell? (a4.add 29) = some (Value.int .i64 x33) ∧
 og s44 ⟨(some a43), 4, 4⟩ w45 fun r46 w47 => J26 r46 w47)) := okF cZ Tryz.func107 .leaf (by kernel_rfl)
theorem DZ {a0 B0 B1 B2 w K} : aH (gK a0 B0 B1 B2 w K)
 (Al w (.cells ⟨[(Value.int .i64 B0), (Value.int .i64 B1), (Value.int .i64 B2)]⟩ 237) fun a4 w3 => Ld (.int .i64) w3 (a4.add 1) fun x5 => fD a0 x5 w3 fun r6 w7 => Pt r6 fun a8 => Ld .slice w7 a8 fun x9 => aK x9 (Value.func (.func 215) #[] #[(Value.pointer (some a4))]) w7 fun r10 w11 => Pt r6 fun a12 => St w11 a12 (Value.slice r10.a r10.len r10.cap) fun w13 => K w13) := okF cZ Tryz.func108 .leaf (by kernel_rfl)
theorem Fp {a0 B0 B1 B2 w K} : aH (iq a0 B0 B1 B2 w K)
 (Al w (.cells ⟨[(Value.int .i64 B0), (Value.int .i64 B1), (Value.int .i64 B2)]⟩ 237) fun a4 w3 => Ld (.int .i64) w3 (a4.add 1) fun x5 => fD a0 x5 w3 fun r6 w7 => Pt r6 fun a8 => Ld .slice w7.drew a8 fun x9 => Ld (.int .i64) w7.drew (a4.add 0) fun x10 => Ld (.int .i64) w7.drew (a4.add 1) fun x11 => Ld (.int .i64) w7.drew (a4.add 2) fun x12 => Al w7.drew (.cells ⟨[(Value.int .i64 x10), (Value.int .i64 x11), (Value.int .i64 x12)]⟩ 237) fun a14 w13 => w13.cell? a8 = some (Value.slice x9.a x9.len x9.cap) ∧
 qg 237 3 24 [(Value.int .i64 0), (Value.int .i64 0), (Value.int .i64 0)] x9 ⟨(some a14), 1, 1⟩ w13 fun s15 w16 => Pt r6 fun a17 => St w16 a17 (Value.slice s15.a s15.len s15.cap) fun w18 => K w18) := okF cZ Tryz.func109 .leaf (by kernel_rfl)
theorem Bh {a0 B0 B1 B2 B3 w K} : aH (iI a0 B0 B1 B2 B3 w K)
 (Al w (.cells ⟨[(Value.int .i64 B0), (Value.int .i64 B1), (Value.int .i64 B2), (Value.int .i64 B3)]⟩ 78) fun a4 w3 => dJ a0 w3 fun r5 w6 => (bif (!r5) then
 K 2 w6
 else
 Pt a0 fun a7 => Ld .ptr w6.drew (a7.add 2) fun x8 => Ld (.int .i64) w6.drew (a4.add 0) fun x9 => Ld (.int .i64) w6.drew (a4.add 1) fun x10 => Ld (.int .i64) w6.drew (a4.add 2) fun x11 => Ld (.int .i64) w6.drew (a4.add 3) fun x12 => jg x8 x9 x10 x11 x12 w6.drew fun r13 r14 w15 => Pt a0 fun a16 => Ld .ptr w15 (a16.add 2) fun x17 => lS x17 r13 w15 fun r18 r19 r20 r21 r22 r23 r24 r25 r26 w27 => Al w27 (.cells ⟨[(Value.int .i64 0), (Value.int .i64 0), (Value.int .i64 0), (Value.int .i64 0), (Value.int .i64 0), (Value.int .i64 0), (Value.int .i64 0), (Value.bool false)]⟩ 130) fun a29 w28 => iT [(Value.int .i64 r18), (Value.int .i64 r19), (Value.int .i64 r20), (Value.int .i64 r21), (Value.int .i64 r22), (Value.int .i64 r23), (Value.int .i64 r24), (Value.bool r25)] w28 a29 0 fun w30 => let J31 : Bool -> Prop := fun j32 => ((bif j32 then
 K 8 w30
 else
 gJ a0 r13 w30 fun w33 => K 0 w33))
 (bif (!r14) then
 J31 true
 else
 Ld .bool w30 (a29.add 7) fun x34 => J31 (!x34)))) := okF cZ Tryz.func110 .leaf (by kernel_rfl)
theorem rV {a0 a1 w K} : aH (fE a0 a1 w K)
 (dL a0 w fun r3 w4 => (bif (!r3) then
 K false w4
 else
 Pt a0 fun a5 => Ld .map w4 (a5.add 448) fun x6 => xG Tryz.prog 3 x6 (Value.int .i64 a1) (Value.agg ⟨[(Value.int .i64 0), (Value.int .i64 0), (Value.int .i64 0)]⟩) w4 fun v7 b8 => ∃ r9 : Int, ∃ r10 : Int, ∃ r11 : Int, v7 = (Value.agg ⟨[(Value.int .i64 r9), (Value.int .i64 r10), (Value.int .i64 r11)]⟩) ∧
 Al w4 (.cells ⟨[(Value.int .i64 0), (Value.int .i64 0), (Value.int .i64 0)]⟩ 237) fun a13 w12 => iT [(Value.int .i64 r9), (Value.int .i64 r10), (Value.int .i64 r11)] w12 a13 0 fun w14 => (bif (!b8) then
 K false w14
 else
 Ld (.int .i64) w14 (a13.add 0) fun x15 => Ld (.int .i64) w14 (a13.add 1) fun x16 => Ld (.int .i64) w14 (a13.add 2) fun x17 => gK a0 x15 x16 x17 w14 fun w18 => Pt a0 fun a19 => Ld .map w18 (a19.add 448) fun x20 => zV Tryz.prog 3 x20 (Value.int .i64 a1) w18 fun w21 => K true w21))) := okF cZ Tryz.func111 .leaf (by kernel_rfl)
theorem Ik {a0 f0 w K} : aH (JQ a0 f0 w K)
 (Ld .ptr w f0 fun x2 => dQ x2 w fun r3 w4 => (bif (!r3) then
 K w4
 else
 Ld .ptr w4 f0 fun x5 => Pt x5 fun a6 => Ld .slice w4 a6 fun x7 => cu (S := Int × Unit) (fun s8 w9 next10 => (bif (decide (s8.1 < (x7.len : Int))) then
 bM x7 9 s8.1 fun a11 => aay w9 a11 fun x12 x13 x14 x15 x16 x17 x18 x19 x20 => Al w9 (.cells ⟨(MX 0 0 0 0 0 0 0 false false)⟩ 243) fun a22 w21 => iT (MX x12 x13 x14 x15 x16 x17 x18 x19 x20) w21 a22 0 fun w23 => let J24 : Bool -> World -> Prop := fun j25 w26 => ((bif j25 then
 K w26
 else
 next10 ((IntKind.i64.wrap (s8.1 + 1)), ()) w26))
 Ld .bool w23 (a22.add 8) fun x27 => (bif x27 then
 Ld (.int .i64) w23 (a22.add 0) fun x28 => Ld (.int .i64) w23 (a22.add 1) fun x29 => Ld (.int .i64) w23 (a22.add 2) fun x30 => Ld (.int .i64) w23 (a22.add 3) fun x31 => Ld (.int .i64) w23 (a22.add 4) fun x32 => Ld (.int .i64) w23 (a22.add 5) fun x33 => Ld (.int .i64) w23 (a22.add 6) fun x34 => Ld .bool w23 (a22.add 7) fun x35 => fM Tryz.prog [.one .bool] a0 [(Value.int .i64 s8.1), (Value.agg ⟨[(Value.int .i64 x28), (Value.int .i64 x29), (Value.int .i64 x30), (Value.int .i64 x31), (Value.int .i64 x32), (Value.int .i64 x33), (Value.int .i64 x34), (Value.bool x35)]⟩)] w23 fun r36 w37 => ∃ r38 : Bool, r36 = (Value.bool r38) ∧
 J24 (!r38) w37
 else
 J24 false w23)
 else
 K w9)) (0, ()) w4)) := okF cZ Tryz.func112 (.seq .leaf (.seq .leaf (.blk (.loop [(13, (.int .i64))] .leaf)))) (by kernel_rfl)
theorem Ia {a0 w K} : aH (dQ a0 w K)
 (let J2 : Bool -> Prop := fun j3 => (K j3 w)
 (bif (!(Option.isNone a0)) then
 Pt a0 fun a4 => Ld .ptr w (a4.add 1) fun x5 => J2 (!(Option.isNone x5))
 else
 J2 false)) := okF cZ Tryz.func113 .leaf (by kernel_rfl)
theorem zF {a0 f0 w K} : aH (Az a0 f0 w K)
 (Ld .ptr w f0 fun x2 => dZ x2 w fun r3 w4 => (bif (!r3) then
 K w4
 else
 Ld .ptr w4 f0 fun x5 => Pt x5 fun a6 => Ld .slice w4 a6 fun x7 => cu (S := Int × Unit) (fun s8 w9 next10 => (bif (decide (s8.1 < (x7.len : Int))) then
 bM x7 6 s8.1 fun a11 => Ld (.int .i64) w9 (a11.add 0) fun x12 => Ld (.int .i64) w9 (a11.add 1) fun x13 => Ld (.int .i64) w9 (a11.add 2) fun x14 => Ld (.int .i64) w9 (a11.add 3) fun x15 => Ld (.int .i64) w9 (a11.add 4) fun x16 => Ld .bool w9 (a11.add 5) fun x17 => Al w9 (.cells ⟨[(Value.int .i64 0), (Value.int .i64 0), (Value.int .i64 0), (Value.int .i64 0), (Value.int .i64 0), (Value.bool false)]⟩ 246) fun a19 w18 => iT [(Value.int .i64 x12), (Value.int .i64 x13), (Value.int .i64 x14), (Value.int .i64 x15), (Value.int .i64 x16), (Value.bool x17)] w18 a19 0 fun w20 => let J21 : Bool -> World -> Prop := fun j22 w23 => ((bif j22 then
 K w23
 else
 next10 ((IntKind.i64.wrap (s8.1 + 1)), ()) w23))
 Ld .bool w20 (a19.add 5) fun x24 => (bif x24 then
 Ld (.int .i64) w20 (a19.add 0) fun x25 => Ld (.int .i64) w20 (a19.add 1) fun x26 => Ld (.int .i64) w20 (a19.add 2) fun x27 => Ld (.int .i64) w20 (a19.add 3) fun x28 => Ld (.int .i64) w20 (a19.add 4) fun x29 => fM Tryz.prog [.one .bool] a0 [(Value.int .i64 s8.1), (Value.agg ⟨[(Value.int .i64 x25), (Value.int .i64 x26), (Value.int .i64 x27), (Value.int .i64 x28), (Value.int .i64 x29)]⟩)] w20 fun r30 w31 => ∃ r32 : Bool, r30 = (Value.bool r32) ∧
 J21 (!r32) w31
 else
 J21 false w20)
 else
 K w9)) (0, ()) w4)) := okF cZ Tryz.func114 (.seq .leaf (.seq .leaf (.blk (.loop [(13, (.int .i64))] .leaf)))) (by kernel_rfl)
theorem zy {a0 w K} : aH (dZ a0 w K)
 (let J2 : Bool -> Prop := fun j3 => (K j3 w)
 (bif (!(Option.isNone a0)) then
 Pt a0 fun a4 => Ld .ptr w (a4.add 1) fun x5 => J2 (!(Option.isNone x5))
 else
 J2 false)) := okF cZ Tryz.func115 .leaf (by kernel_rfl)
theorem Qy {A0 A1 A2 A3 A4 A5 A6 A7 A8 A9 A10 A11 A12 A13 A14 A15 w K} : aH (BN A0 A1 A2 A3 A4 A5 A6 A7 A8 A9 A10 A11 A12 A13 A14 A15 w K)
 (Al w (.cells ⟨(dF A0 A1 A2 A3 A4 A5 A6 A7 A8 A9 A10 A11 A12 A13 A14 A15)⟩ 28) fun a3 w2 => vH  w2 fun r4 r5 r6 r7 r8 r9 r10 r11 r12 r13 r14 r15 r16 r17 r18 r19 w20 => Al w20 (.cells ⟨(dF 0 0 0 0 0 0 0 0 0 0 0 0 0 0 0 0)⟩ 28) fun a22 w21 => iT (dF r4 r5 r6 r7 r8 r9 r10 r11 r12 r13 r14 r15 r16 r17 r18 r19) w21 a22 0 fun w23 => oG a3 16 1 0 12 fun s24 => oG a22 16 1 0 12 fun s25 => eG s24 s25 w23.drew fun r26 w27 => (bif (!r26) then
 K 0 false w27
 else
 oG a3 16 1 0 (16 : Int) fun s28 => wQ s28 12 4 w27 fun r29 r30 w31 => K r29 (r30 == 0) w31)) := okF cZ Tryz.func116 .leaf (by kernel_rfl)
theorem Oa {a0 a1 f0 w K} : aH (O8 a0 a1 f0 w K)
 (Ld .slice w f0 fun x3 => wQ x3 a0 a1 w fun r4 r5 w6 => K r4 w6) := okF cZ Tryz.func117 .leaf (by kernel_rfl)
theorem P6 {a0 a1 a2 w K} : aH (uN a0 a1 a2 w K)
 (let J4 : Bool -> World -> Prop := fun j5 w6 => ((bif j5 then
 K ⟨none, 0, 0⟩ 1 w6
 else
 let J7 : Bool -> Prop := fun j8 => ((bif j8 then
 K ⟨none, 0, 0⟩ 3 w6
 else
 L9 a0 1 a1 (IntKind.i64.wrap (a1 + a2)) (IntKind.i64.wrap (a1 + a2)) fun s9 => K s9 0 w6))
 (bif (decide ((a0.len : Int) < a2)) then
 J7 true
 else
 J7 (decide (a1 > (IntKind.i64.wrap ((a0.len : Int) - a2)))))))
 sZ a2 w fun r10 w11 => (bif (!r10) then
 J4 true w11
 else
 J4 (decide (a1 < 0)) w11)) := okF cZ Tryz.func118 .leaf (by kernel_rfl)
theorem Ie {A0 A1 A2 A3 A4 A5 A6 A7 A8 A9 A10 A11 A12 A13 A14 A15 A16 A17 A18 A19 A20 A21 A22 A23 A24 A25 A26 A27 A28 A29 A30 A31 A32 A33 A34 A35 w K} : aH (kZ A0 A1 A2 A3 A4 A5 A6 A7 A8 A9 A10 A11 A12 A13 A14 A15 A16 A17 A18 A19 A20 A21 A22 A23 A24 A25 A26 A27 A28 A29 A30 A31 A32 A33 A34 A35 w K)
 (Al w (.cells ⟨(fG A0 A1 A2 A3 A4 A5 A6 A7 A8 A9 A10 A11 A12 A13 A14 A15 A16 A17 A18 A19 A20 A21 A22 A23 A24 A25 A26 A27 A28 A29 A30 A31 A32 A33 A34 A35)⟩ 33) fun a3 w2 => let J4 : Bool -> World -> Prop := fun j5 w6 => (let J7 : Bool -> World -> Prop := fun j8 w9 => (let J10 : Bool -> World -> Prop := fun j11 w12 => (let J13 : Bool -> World -> Prop := fun j14 w15 => (K j14 w15)
 (bif j5 then
 (bif j8 then
 (bif j11 then
 Ld (.int .i64) w12 (a3.add 18) fun x16 => bf x16 1 65535 w12 fun r17 w18 => (bif r17 then
 Ld (.int .i64) w18 (a3.add 19) fun x19 => Ld (.int .i64) w18 (a3.add 18) fun x20 => bf x19 x20 65535 w18 fun r21 w22 => J13 r21 w22
 else
 J13 false w18)
 else
 J13 false w12)
 else
 J13 false w12)
 else
 J13 false w12))
 Ld (.int .i64) w9 (a3.add 30) fun x23 => bf x23 120 1048576 w9 fun r24 w25 => (bif r24 then
 Ld (.int .i64) w25 (a3.add 31) fun x26 => bf x26 7440 1048576 w25 fun r27 w28 => (bif r27 then
 Ld (.int .i64) w28 (a3.add 32) fun x29 => bf x29 240 1048576 w28 fun r30 w31 => (bif r30 then
 Ld (.int .i64) w31 (a3.add 33) fun x32 => bf x32 60 1048576 w31 fun r33 w34 => (bif r33 then
 Ld (.int .i64) w34 (a3.add 34) fun x35 => bf x35 1 1048576 w34 fun r36 w37 => J10 r36 w37
 else
 J10 false w34)
 else
 J10 false w31)
 else
 J10 false w28)
 else
 J10 false w25))
 Ld (.int .i64) w6 (a3.add 25) fun x38 => bf x38 1280 65535 w6 fun r39 w40 => (bif r39 then
 Ld (.int .i64) w40 (a3.add 26) fun x41 => bf x41 1280 65535 w40 fun r42 w43 => (bif r42 then
 Ld (.int .i64) w43 (a3.add 27) fun x44 => bf x44 1 255 w43 fun r45 w46 => (bif r45 then
 Ld (.int .i64) w46 (a3.add 28) fun x47 => (bif (x47 == 0) then
 Ld (.int .i64) w46 (a3.add 29) fun x48 => bf x48 0 2 w46 fun r49 w50 => J7 r49 w50
 else
 Ld (.int .i64) w46 (a3.add 28) fun x51 => bf x51 536 65535 w46 fun r52 w53 => (bif r52 then
 Ld (.int .i64) w53 (a3.add 29) fun x54 => bf x54 0 2 w53 fun r55 w56 => J7 r55 w56
 else
 J7 false w53))
 else
 J7 false w46)
 else
 J7 false w43)
 else
 J7 false w40))
 Ld (.int .i64) w2 (a3.add 20) fun x57 => bf x57 1 4096 w2 fun r58 w59 => (bif r58 then
 Ld (.int .i64) w59 (a3.add 21) fun x60 => bf x60 1 4096 w59 fun r61 w62 => (bif r61 then
 Ld (.int .i64) w62 (a3.add 22) fun x63 => bf x63 1 4096 w62 fun r64 w65 => (bif r64 then
 Ld (.int .i64) w65 (a3.add 23) fun x66 => bf x66 0 4096 w65 fun r67 w68 => (bif r67 then
 Ld (.int .i64) w68 (a3.add 24) fun x69 => bf x69 0 67108864 w68 fun r70 w71 => J4 r70 w71
 else
 J4 false w68)
 else
 J4 false w65)
 else
 J4 false w62)
 else
 J4 false w59)) := okF cZ Tryz.func119 .leaf (by kernel_rfl)
theorem MC {A0 A1 A2 A3 A4 A5 A6 A7 A8 A9 A10 A11 A12 A13 A14 A15 A16 A17 A18 A19 A20 A21 A22 A23 A24 A25 A26 A27 A28 A29 A30 A31 A32 A33 A34 A35 w K} : aH (pI A0 A1 A2 A3 A4 A5 A6 A7 A8 A9 A10 A11 A12 A13 A14 A15 A16 A17 A18 A19 A20 A21 A22 A23 A24 A25 A26 A27 A28 A29 A30 A31 A32 A33 A34 A35 w K)
 (Al w (.cells ⟨(fG A0 A1 A2 A3 A4 A5 A6 A7 A8 A9 A10 A11 A12 A13 A14 A15 A16 A17 A18 A19 A20 A21 A22 A23 A24 A25 A26 A27 A28 A29 A30 A31 A32 A33 A34 A35)⟩ 33) fun a3 w2 => let J4 : Bool -> World -> Prop := fun j5 w6 => ((bif j5 then
 K false w6
 else
 cu (S := Int × Unit) (fun s7 w8 next9 => Ld .slice w8 (a3.add 16) fun x10 => (bif (decide (s7.1 < (x10.len : Int))) then
 Ld .slice w8 (a3.add 16) fun x11 => bM x11 16 s7.1 fun a12 => ku w8 a12 fun x13 x14 x15 x16 x17 x18 x19 x20 x21 x22 x23 x24 x25 x26 x27 x28 => nS x13 x14 x15 x16 x17 x18 x19 x20 x21 x22 x23 x24 x25 x26 x27 x28 w8 fun r29 w30 => (bif (!r29) then
 K false w30
 else
 next9 ((IntKind.i64.wrap (s7.1 + 1)), ()) w30)
 else
 cu (S := Int × Unit) (fun s31 w32 next33 => Ld .slice w32 (a3.add 17) fun x34 => (bif (decide (s31.1 < (x34.len : Int))) then
 Ld .slice w32 (a3.add 17) fun x35 => bM x35 1 s31.1 fun a36 => Ld (.int .i64) w32 a36 fun x37 => nR x37 w32 fun r38 w39 => (bif (!r38) then
 K false w39
 else
 next33 ((IntKind.i64.wrap (s31.1 + 1)), ()) w39)
 else
 cu (S := Int × Unit) (fun s40 w41 next42 => Ld .slice w41 (a3.add 35) fun x43 => (bif (decide (s40.1 < (x43.len : Int))) then
 uT w41.drew a3 fun x44 x45 x46 x47 x48 x49 x50 x51 x52 x53 x54 x55 x56 x57 x58 x59 x60 x61 x62 x63 x64 x65 x66 x67 x68 x69 x70 x71 x72 x73 x74 x75 x76 x77 x78 x79 => Ld .slice w41.drew (a3.add 35) fun x80 => bM x80 7 s40.1 fun a81 => Ld (.int .i64) w41.drew (a81.add 0) fun x82 => Ld (.int .i64) w41.drew (a81.add 1) fun x83 => Ld (.int .i64) w41.drew (a81.add 2) fun x84 => Ld (.int .i64) w41.drew (a81.add 3) fun x85 => Ld (.int .i64) w41.drew (a81.add 4) fun x86 => Ld (.int .i64) w41.drew (a81.add 5) fun x87 => Ld (.int .i64) w41.drew (a81.add 6) fun x88 => mY x44 x45 x46 x47 x48 x49 x50 x51 x52 x53 x54 x55 x56 x57 x58 x59 x60 x61 x62 x63 x64 x65 x66 x67 x68 x69 x70 x71 x72 x73 x74 x75 x76 x77 x78 x79 x82 x83 x84 x85 x86 x87 x88 w41.drew fun r89 w90 => (bif (!r89) then
 K false w90
 else
 next42 ((IntKind.i64.wrap (s40.1 + 1)), ()) w90)
 else
 K true w41)) (0, ()) w32)) (0, ()) w8)) (0, ()) w6))
 ku w2 a3 fun x91 x92 x93 x94 x95 x96 x97 x98 x99 x100 x101 x102 x103 x104 x105 x106 => nS x91 x92 x93 x94 x95 x96 x97 x98 x99 x100 x101 x102 x103 x104 x105 x106 w2 fun r107 w108 => (bif (!r107) then
 J4 true w108
 else
 Ld .slice w108 (a3.add 16) fun x109 => bf (x109.len : Int) 1 64 w108 fun r110 w111 => (bif (!r110) then
 J4 true w111
 else
 Ld .slice w111 (a3.add 17) fun x112 => bf (x112.len : Int) 1 16 w111 fun r113 w114 => (bif (!r113) then
 J4 true w114
 else
 Ld .slice w114 (a3.add 35) fun x115 => (bif (decide ((x115.len : Int) > 64)) then
 J4 true w114
 else
 Ld .slice w114 (a3.add 35) fun x116 => Ld (.int .i64) w114 (a3.add 21) fun x117 => J4 (decide ((x116.len : Int) > x117)) w114))))) := okF cZ Tryz.func120 (.seq .leaf (.seq .leaf (.seq (.seq .leaf (.blk (.loop [(3, (.int .i64))] .leaf))) (.seq (.seq .leaf (.blk (.loop [(4, (.int .i64))] .leaf))) (.seq (.seq .leaf (.blk (.loop [(5, (.int .i64))] .leaf))) .leaf))))) (by kernel_rfl)
theorem MJ {A0 A1 A2 A3 A4 A5 A6 A7 A8 A9 A10 A11 A12 A13 A14 A15 A16 A17 A18 A19 A20 A21 A22 A23 A24 A25 A26 A27 A28 A29 A30 A31 A32 A33 A34 A35 w K} : aH (pO A0 A1 A2 A3 A4 A5 A6 A7 A8 A9 A10 A11 A12 A13 A14 A15 A16 A17 A18 A19 A20 A21 A22 A23 A24 A25 A26 A27 A28 A29 A30 A31 A32 A33 A34 A35 w K)
 (Al w (.cells ⟨(fG A0 A1 A2 A3 A4 A5 A6 A7 A8 A9 A10 A11 A12 A13 A14 A15 A16 A17 A18 A19 A20 A21 A22 A23 A24 A25 A26 A27 A28 A29 A30 A31 A32 A33 A34 A35)⟩ 33) fun a3 w2 => cu (S := Int × Unit) (fun s4 w5 next6 => Ld .slice w5 (a3.add 16) fun x7 => (bif (decide (s4.1 < (x7.len : Int))) then
 cu (S := Int × Unit) (fun s8 w9 next10 => (bif (decide (s8.1 < s4.1)) then
 Ld .slice w9.drew (a3.add 16) fun x11 => bM x11 16 s8.1 fun a12 => ku w9.drew a12 fun x13 x14 x15 x16 x17 x18 x19 x20 x21 x22 x23 x24 x25 x26 x27 x28 => Ld .slice w9.drew (a3.add 16) fun x29 => bM x29 16 s4.1 fun a30 => ku w9.drew a30 fun x31 x32 x33 x34 x35 x36 x37 x38 x39 x40 x41 x42 x43 x44 x45 x46 => (bif ((x13 == x31) && ((x14 == x32) && ((x15 == x33) && ((x16 == x34) && ((x17 == x35) && ((x18 == x36) && ((x19 == x37) && ((x20 == x38) && ((x21 == x39) && ((x22 == x40) && ((x23 == x41) && ((x24 == x42) && ((x25 == x43) && ((x26 == x44) && ((x27 == x45) && ((x28 == x46) && true)))))))))))))))) then
 K true w9.drew
 else
 next10 ((IntKind.i64.wrap (s8.1 + 1)), ()) w9.drew)
 else
 Ld .slice w9.drew (a3.add 16) fun x47 => bM x47 16 s4.1 fun a48 => ku w9.drew a48 fun x49 x50 x51 x52 x53 x54 x55 x56 x57 x58 x59 x60 x61 x62 x63 x64 => ku w9.drew a3 fun x65 x66 x67 x68 x69 x70 x71 x72 x73 x74 x75 x76 x77 x78 x79 x80 => (bif ((x49 == x65) && ((x50 == x66) && ((x51 == x67) && ((x52 == x68) && ((x53 == x69) && ((x54 == x70) && ((x55 == x71) && ((x56 == x72) && ((x57 == x73) && ((x58 == x74) && ((x59 == x75) && ((x60 == x76) && ((x61 == x77) && ((x62 == x78) && ((x63 == x79) && ((x64 == x80) && true)))))))))))))))) then
 K true w9.drew
 else
 next6 ((IntKind.i64.wrap (s4.1 + 1)), ()) w9.drew))) (0, ()) w5
 else
 cu (S := Int × Unit) (fun s81 w82 next83 => Ld .slice w82 (a3.add 17) fun x84 => (bif (decide (s81.1 < (x84.len : Int))) then
 cu (S := Int × Unit) (fun s85 w86 next87 => (bif (decide (s85.1 < s81.1)) then
 Ld .slice w86.drew (a3.add 17) fun x88 => bM x88 1 s85.1 fun a89 => Ld (.int .i64) w86.drew a89 fun x90 => Ld .slice w86.drew (a3.add 17) fun x91 => bM x91 1 s81.1 fun a92 => Ld (.int .i64) w86.drew a92 fun x93 => (bif (x90 == x93) then
 K true w86.drew
 else
 next87 ((IntKind.i64.wrap (s85.1 + 1)), ()) w86.drew)
 else
 next83 ((IntKind.i64.wrap (s81.1 + 1)), ()) w86)) (0, ()) w82
 else
 cu (S := Int × Unit) (fun s94 w95 next96 => Ld .slice w95 (a3.add 35) fun x97 => (bif (decide (s94.1 < (x97.len : Int))) then
 cu (S := Int × Int × Unit) (fun s98 w99 next100 => (bif (decide (s98.2.1 < s94.1)) then
 let J101 : Int -> World -> Prop := fun j102 w103 => (next100 (j102, (IntKind.i64.wrap (s98.2.1 + 1)), ()) w103)
 let J104 : Bool -> World -> Prop := fun j105 w106 => ((bif j105 then
 K true w106
 else
 Ld .slice w106.drew (a3.add 35) fun x107 => bM x107 7 s98.2.1 fun a108 => Ld (.int .i64) w106.drew a108 fun x109 => Ld .slice w106.drew (a3.add 35) fun x110 => bM x110 7 s94.1 fun a111 => Ld (.int .i64) w106.drew a111 fun x112 => (bif (x109 == x112) then
 J101 (IntKind.i64.wrap (s98.1 + 1)) w106.drew
 else
 J101 s98.1 w106.drew)))
 Ld .slice w99.drew (a3.add 35) fun x113 => bM x113 7 s98.2.1 fun a114 => Ld (.int .i64) w99.drew (a114.add 0) fun x115 => Ld (.int .i64) w99.drew (a114.add 1) fun x116 => Ld (.int .i64) w99.drew (a114.add 2) fun x117 => Ld (.int .i64) w99.drew (a114.add 3) fun x118 => Ld .slice w99.drew (a3.add 35) fun x119 => bM x119 7 s94.1 fun a120 => Ld (.int .i64) w99.drew (a120.add 0) fun x121 => Ld (.int .i64) w99.drew (a120.add 1) fun x122 => Ld (.int .i64) w99.drew (a120.add 2) fun x123 => Ld (.int .i64) w99.drew (a120.add 3) fun x124 => (bif ((x115 == x121) && ((x116 == x122) && ((x117 == x123) && ((x118 == x124) && true)))) then
 J104 true w99.drew
 else
 Ld .slice w99.drew (a3.add 35) fun x125 => bM x125 7 s98.2.1 fun a126 => Ld (.int .i64) w99.drew ((a126.add 4).add 0) fun x127 => Ld (.int .i64) w99.drew ((a126.add 4).add 1) fun x128 => Ld (.int .i64) w99.drew ((a126.add 4).add 2) fun x129 => Ld .slice w99.drew (a3.add 35) fun x130 => bM x130 7 s94.1 fun a131 => Ld (.int .i64) w99.drew ((a131.add 4).add 0) fun x132 => Ld (.int .i64) w99.drew ((a131.add 4).add 1) fun x133 => Ld (.int .i64) w99.drew ((a131.add 4).add 2) fun x134 => J104 ((x127 == x132) && ((x128 == x133) && ((x129 == x134) && true))) w99.drew)
 else
 Ld (.int .i64) w99 (a3.add 20) fun x135 => (bif (decide (s98.1 > x135)) then
 K true w99
 else
 next96 ((IntKind.i64.wrap (s94.1 + 1)), ()) w99))) (1, 0, ()) w95
 else
 K false w95)) (0, ()) w82)) (0, ()) w5)) (0, ()) w2) := okF cZ Tryz.func121 (.seq .leaf (.seq (.seq .leaf (.blk (.loop [(3, (.int .i64))] (.seq .leaf (.seq (.blk (.seq (.seq .leaf (.blk (.loop [(4, (.int .i64))] .leaf))) .leaf)) .leaf))))) (.seq (.seq .leaf (.blk (.loop [(5, (.int .i64))] (.seq .leaf (.seq (.blk (.seq .leaf (.blk (.loop [(6, (.int .i64))] .leaf)))) .leaf))))) (.seq (.seq .leaf (.blk (.loop [(7, (.int .i64))] (.seq .leaf (.seq (.blk (.seq .leaf (.seq (.seq .leaf (.blk (.loop [(8, (.int .i64)), (9, (.int .i64))] .leaf))) .leaf))) .leaf))))) .leaf)))) (by kernel_rfl)
theorem pX {a0 a1 a2 a3 a4 w K} : aH (dG a0 a1 a2 a3 a4 w K)
 (cu (S := Int × Int × Int × Bool × Bool × Unit) (fun s6 w7 next8 => (bif (decide ((IntKind.i64.wrap (s6.2.1 - s6.1)) <= 12)) then
 bg a0 s6.1 s6.2.1 a4 w7 fun w9 => K w9
 else
 (bif (s6.2.2.1 == 0) then
 qm a0 s6.1 s6.2.1 a4 w7 fun w10 => K w10
 else
 let J11 : Int -> World -> Prop := fun j12 w13 => (ny a0 s6.1 s6.2.1 a4 w13 fun r14 r15 w16 => let J17 : Int -> Int -> World -> Prop := fun j18 j19 w20 => (let J21 : World -> Prop := fun w22 => (let J23 : Bool -> World -> Prop := fun j24 w25 => ((bif j24 then
 lF a0 s6.1 s6.2.1 j18 a4 w25 fun r26 w27 => next8 (r26, s6.2.1, j12, s6.2.2.2.1, s6.2.2.2.2.1, ()) w27
 else
 oV a0 s6.1 s6.2.1 j18 a4 w25 fun r28 r29 w30 => (8 : Int) ≠ 0 ∧
 (bif (decide ((IntKind.i64.wrap (r28 - s6.1)) < (IntKind.i64.wrap (s6.2.1 - r28)))) then
 dG a0 s6.1 r28 j12 a4 w30 fun w31 => next8 ((IntKind.i64.wrap (r28 + 1)), s6.2.1, j12, (decide ((IntKind.i64.wrap (r28 - s6.1)) >= (IntKind.i64.wrap (Int.tdiv (IntKind.i64.wrap (s6.2.1 - s6.1)) 8)))), r29, ()) w31
 else
 dG a0 (IntKind.i64.wrap (r28 + 1)) s6.2.1 j12 a4 w30 fun w32 => next8 (s6.1, r28, j12, (decide ((IntKind.i64.wrap (s6.2.1 - r28)) >= (IntKind.i64.wrap (Int.tdiv (IntKind.i64.wrap (s6.2.1 - s6.1)) 8)))), r29, ()) w32)))
 (bif (decide (s6.1 > 0)) then
 bM a0 1 (IntKind.i64.wrap (s6.1 - 1)) fun a33 => Ld .ptr w22.drew a33 fun x34 => bM a0 1 j18 fun a35 => Ld .ptr w22.drew a35 fun x36 => fM Tryz.prog [.one (.int .i64)] a4 [(Value.pointer x34), (Value.pointer x36)] w22.drew fun r37 w38 => ∃ r39 : Int, r37 = (Value.int .i64 r39) ∧
 J23 (!(decide (r39 < 0))) w38
 else
 J23 false w22.drew))
 let J40 : Bool -> Prop := fun j41 => ((bif j41 then
 jC a0 s6.1 s6.2.1 a4 w20 fun r42 w43 => (bif r42 then
 K w43
 else
 J21 w43)
 else
 J21 w20))
 (bif s6.2.2.2.1 then
 (bif s6.2.2.2.2.1 then
 J40 (j19 == 1)
 else
 J40 false)
 else
 J40 false))
 (bif (r15 == 2) then
 mG a0 s6.1 s6.2.1 a4 w16 fun w44 => J17 (IntKind.i64.wrap ((IntKind.i64.wrap (s6.2.1 - 1)) - (IntKind.i64.wrap (r14 - s6.1)))) 1 w44
 else
 J17 r14 r15 w16))
 (bif (!s6.2.2.2.1) then
 lX a0 s6.1 s6.2.1 a4 w7 fun w45 => J11 (IntKind.i64.wrap (s6.2.2.1 - 1)) w45
 else
 J11 s6.2.2.1 w7)))) (a1, a2, a3, true, true, ()) w) := okF cZ Tryz.func122 (.seq .leaf (.seq .leaf (.blk (.loop [(1, (.int .i64)), (2, (.int .i64)), (3, (.int .i64)), (10, .bool), (11, .bool)] .leaf)))) (by kernel_rfl)
theorem I7 {a0 w K} : aH (jA a0 w K)
 (jF a0 w fun r2 w3 => K r2 w3) := okF cZ Tryz.func123 .leaf (by kernel_rfl)
theorem EX {a0 a1 w K} : aH (ig a0 a1 w K)
 (jr a0 w fun r3 w4 => jr a1 w4 fun r5 w6 => (bif r3 then
 (bif r5 then
 K 0 w6
 else
 K (-1) w6)
 else
 (bif r5 then
 K 1 w6
 else
 (bif (decide (a0 < a1)) then
 K (-1) w6
 else
 (bif (decide (a0 > a1)) then
 K 1 w6
 else
 K 0 w6))))) := okF cZ Tryz.func125 .leaf (by kernel_rfl)
theorem Ol {a0 w K} : aH (nR a0 w K)
 (let J2 : Bool -> Prop := fun j3 => (K j3 w)
 (bif (decide (a0 >= 16777216)) then
 (bif (decide (a0 < 3758096384)) then
 (16777216 : Int) ≠ 0 ∧
 J2 ((IntKind.i64.wrap (Int.tdiv a0 16777216)) != 127)
 else
 J2 false)
 else
 J2 false)) := okF cZ Tryz.func126 .leaf (by kernel_rfl)
theorem CX {a0 a1 w K} : aH (gu a0 a1 w K)
 (bK (Value.pointer a0) = true ∧
 Al w (.cells ⟨[(Value.pointer a0)]⟩ 200) fun a4 w3 => Ld .ptr w3 a4 fun x5 => fB x5 w3 fun r6 w7 => (bif (!r6) then
 K false w7
 else
 Ld .ptr w7 a4 fun x8 => bQ x8 a1 w7 fun r9 r10 w11 => (bif (!r10) then
 K false w11
 else
 Ld .ptr w11 a4 fun x12 => Pt x12 fun a13 => Ld .slice w11 a13 fun x14 => bM x14 3 r9 fun a15 => iT [(Value.string (bs [])), (Value.int .i64 0), (Value.bool false)] w11 a15 0 fun w16 => Ld .ptr w16 a4 fun x17 => Pt x17 fun a18 => Ld (.int .i64) w16 (a18.add 1) fun x19 => Pt x17 fun a20 => St w16 (a20.add 1) (Value.int .i64 (IntKind.i64.wrap (x19 - 1))) fun w21 => let J22 : List Nat -> World -> Prop := fun d23 w24 => (Fz d23 w24 fun w25 => K true w25)
 Ld .ptr w21.drew a4 fun x26 => Ld .ptr w21.drew a4 fun x27 => Pt x27 fun a28 => Ld .slice w21.drew a28 fun x29 => (x29.len : Int) ≠ 0 ∧
 h_ x26 (Int.tmod (IntKind.i64.wrap (r9 + 1)) (x29.len : Int)) w21.drew fun r30 w31 => Ep Tryz.prog none [.one (.int .i64)] r30 w31 (fun l32 x33 W34 Kb35 => W34.heap[l32]? = W34.heap[l32]? ∧
 Ld .ptr (aA W34 l32) a4 fun x36 => Pt x36 fun a37 => Ld .slice (aA W34 l32) a37 fun x38 => bM x38 3 x33.1 fun a39 => Ld .str (aA W34 l32) (a39.add 0) fun x40 => Ld (.int .i64) (aA W34 l32) (a39.add 1) fun x41 => Ld .bool (aA W34 l32) (a39.add 2) fun x42 => Al (aA W34 l32) (.cells ⟨[(Value.string (bs [])), (Value.int .i64 0), (Value.bool false)]⟩ 343) fun a44 w43 => iT [(Value.string x40), (Value.int .i64 x41), (Value.bool x42)] w43 a44 0 fun w45 => Ld .bool w45 (a44.add 2) fun x46 => (bif (!x46) then
 Kb35 (.exit 0) w45
 else
 Ld .ptr w45 a4 fun x47 => Pt x47 fun a48 => Ld .slice w45 a48 fun x49 => bM x49 3 x33.1 fun a50 => iT [(Value.string (bs [])), (Value.int .i64 0), (Value.bool false)] w45 a50 0 fun w51 => Ld .ptr w51 a4 fun x52 => Ld .str w51 a44 fun x53 => bQ x52 x53 w51 fun r54 r55 w56 => Ld .ptr w56.drew a4 fun x57 => Pt x57 fun a58 => Ld .slice w56.drew a58 fun x59 => Ld .str w56.drew (a44.add 0) fun x60 => Ld (.int .i64) w56.drew (a44.add 1) fun x61 => Ld .bool w56.drew (a44.add 2) fun x62 => bM x59 3 r54 fun a63 => iT [(Value.string x60), (Value.int .i64 x61), (Value.bool x62)] w56.drew a63 0 fun w64 => Kb35 .normal w64))
 (fun w66 => J22 (w31.heap.size :: []) w66)
 (fun w67 => w67.heap[w31.heap.size]? = some (.deferred (some [])) ∧
 K false (w67.putObj w31.heap.size (.deferred none)))
 [(0, (fun w65 => J22 (w31.heap.size :: []) w65))]))) := okF cZ Tryz.func144 (.seq .leaf (.seq .leaf (.seq .leaf (.seq .leaf (.seq .leaf (.seq .leaf (.seq .leaf (.seq (.seq .leaf (.blk (.rng [.one (.int .i64)] .leaf .leaf))) .leaf)))))))) (by kernel_rfl)
theorem KH {a0 a1 w K} : aH (lS a0 a1 w K)
 (Al w (.cells ⟨[(Value.int .i64 0), (Value.int .i64 0), (Value.int .i64 0), (Value.int .i64 0), (Value.int .i64 0), (Value.int .i64 0), (Value.int .i64 0), (Value.bool false)]⟩ 130) fun a4 w3 => lN a0 a1 w3 fun r5 w6 => (bif (!r5) then
 iT [(Value.int .i64 0), (Value.int .i64 0), (Value.int .i64 0), (Value.int .i64 0), (Value.int .i64 0), (Value.int .i64 0), (Value.int .i64 0), (Value.bool false)] w6 a4 0 fun w7 => Ld (.int .i64) w7 (a4.add 0) fun y8 => Ld (.int .i64) w7 (a4.add 1) fun y9 => Ld (.int .i64) w7 (a4.add 2) fun y10 => Ld (.int .i64) w7 (a4.add 3) fun y11 => Ld (.int .i64) w7 (a4.add 4) fun y12 => Ld (.int .i64) w7 (a4.add 5) fun y13 => Ld (.int .i64) w7 (a4.add 6) fun y14 => Ld .bool w7 (a4.add 7) fun y15 => K y8 y9 y10 y11 y12 y13 y14 y15 false w7
 else
 Pt a0 fun a16 => Ld .slice w6 a16 fun x17 => bM x17 9 a1 fun a18 => Ld (.int .i64) w6 (a18.add 0) fun x19 => Ld (.int .i64) w6 (a18.add 1) fun x20 => Ld (.int .i64) w6 (a18.add 2) fun x21 => Ld (.int .i64) w6 (a18.add 3) fun x22 => Ld (.int .i64) w6 (a18.add 4) fun x23 => Ld (.int .i64) w6 (a18.add 5) fun x24 => Ld (.int .i64) w6 (a18.add 6) fun x25 => Ld .bool w6 (a18.add 7) fun x26 => iT [(Value.int .i64 x19), (Value.int .i64 x20), (Value.int .i64 x21), (Value.int .i64 x22), (Value.int .i64 x23), (Value.int .i64 x24), (Value.int .i64 x25), (Value.bool x26)] w6 a4 0 fun w27 => Ld (.int .i64) w27 (a4.add 0) fun y28 => Ld (.int .i64) w27 (a4.add 1) fun y29 => Ld (.int .i64) w27 (a4.add 2) fun y30 => Ld (.int .i64) w27 (a4.add 3) fun y31 => Ld (.int .i64) w27 (a4.add 4) fun y32 => Ld (.int .i64) w27 (a4.add 5) fun y33 => Ld (.int .i64) w27 (a4.add 6) fun y34 => Ld .bool w27 (a4.add 7) fun y35 => K y28 y29 y30 y31 y32 y33 y34 y35 true w27)) := okF cZ Tryz.func148 .leaf (by kernel_rfl)
theorem Eu {a0 a1 w K} : aH (iZ a0 a1 w K)
 (bK (Value.pointer a0) = true ∧
 Al w (.cells ⟨[(Value.pointer a0)]⟩ 88) fun a4 w3 => bK (Value.int .i64 a1) = true ∧
 Al w3 (.cells ⟨[(Value.int .i64 a1)]⟩ 3) fun a6 w5 => K (Value.func (.func 244) #[] #[(Value.pointer (some a4)), (Value.pointer (some a6))]) w5) := okF cZ Tryz.func149 .leaf (by kernel_rfl)
theorem G5 {a0 a1 w K} : aH (jX a0 a1 w K)
 (lN a0 a1 w fun r3 w4 => (bif (!r3) then
 K false w4
 else
 Pt a0 fun a5 => Ld .slice w4 a5 fun x6 => bM x6 9 a1 fun a7 => aay w4 a7 fun x8 x9 x10 x11 x12 x13 x14 x15 x16 => Al w4 (.cells ⟨(MX 0 0 0 0 0 0 0 false false)⟩ 243) fun a18 w17 => iT (MX x8 x9 x10 x11 x12 x13 x14 x15 x16) w17 a18 0 fun w19 => Pt a0 fun a20 => Ld .ptr w19.drew (a20.add 1) fun x21 => Ld (.int .i64) w19.drew (a18.add 0) fun x22 => Ld (.int .i64) w19.drew (a18.add 1) fun x23 => Ld (.int .i64) w19.drew (a18.add 2) fun x24 => Ld (.int .i64) w19.drew (a18.add 3) fun x25 => iy x22 x23 x24 x25 w19.drew fun r26 w27 => w27.cell? (a20.add 1) = some (Value.pointer x21) ∧
 gu x21 r26 w27 fun r28 w29 => Pt a0 fun a30 => Ld .ptr w29.drew (a30.add 2) fun x31 => Ld (.int .i64) w29.drew ((a18.add 4).add 0) fun x32 => Ld (.int .i64) w29.drew ((a18.add 4).add 1) fun x33 => Ld (.int .i64) w29.drew ((a18.add 4).add 2) fun x34 => iD x32 x33 x34 w29.drew fun r35 w36 => w36.cell? (a30.add 2) = some (Value.pointer x31) ∧
 gu x31 r35 w36 fun r37 w38 => Pt a0 fun a39 => Ld .slice w38 a39 fun x40 => bM x40 9 a1 fun a41 => iT (MX 0 0 0 0 0 0 0 false false) w38 a41 0 fun w42 => Pt a0 fun a43 => Ld (.int .i64) w42 (a43.add 3) fun x44 => Pt a0 fun a45 => St w42 (a45.add 3) (Value.int .i64 (IntKind.i64.wrap (x44 - 1))) fun w46 => K true w46)) := okF cZ Tryz.func150 .leaf (by kernel_rfl)
theorem GX {a0 B0 B1 B2 w K} : aH (jS a0 B0 B1 B2 w K)
 (Al w (.cells ⟨[(Value.int .i64 B0), (Value.int .i64 B1), (Value.int .i64 B2)]⟩ 80) fun a4 w3 => let J5 : Bool -> World -> Prop := fun j6 w7 => ((bif j6 then
 K false w7
 else
 Pt a0 fun a8 => Ld .map w7.drew (a8.add 3) fun x9 => Ld (.int .i64) w7.drew (a4.add 0) fun x10 => Ld (.int .i64) w7.drew (a4.add 1) fun x11 => Ld (.int .i64) w7.drew (a4.add 2) fun x12 => zV Tryz.prog 80 x9 (Value.agg ⟨[(Value.int .i64 x10), (Value.int .i64 x11), (Value.int .i64 x12)]⟩) w7.drew fun w13 => K true w13))
 fZ a0 w3.drew fun r14 w15 => (bif (!r14) then
 J5 true w15
 else
 Pt a0 fun a16 => Ld .map w15 (a16.add 3) fun x17 => Ld (.int .i64) w15 (a4.add 0) fun x18 => Ld (.int .i64) w15 (a4.add 1) fun x19 => Ld (.int .i64) w15 (a4.add 2) fun x20 => oL Tryz.prog 80 .bool x17 (Value.agg ⟨[(Value.int .i64 x18), (Value.int .i64 x19), (Value.int .i64 x20)]⟩) (Value.bool false) w15 fun x21 => J5 (!x21) w15)) := okF cZ Tryz.func151 .leaf (by kernel_rfl)
theorem DN {a0 a1 w K} : aH (iW a0 a1 w K)
 (gQ a0 a1 w fun r3 r4 w5 => (bif (r4 != 0) then
 K r4 w5
 else
 Pt r3 fun a6 => Ld (.int .i64) w5 a6 fun x7 => (bif (x7 == 0) then
 K 8 w5
 else
 Pt r3 fun a8 => Ld (.int .i64) w5 a8 fun x9 => Pt r3 fun a10 => St w5 a10 (Value.int .i64 (IntKind.i64.wrap (x9 - 1))) fun w11 => K 0 w11))) := okF cZ Tryz.func152 .leaf (by kernel_rfl)
theorem GU {A0 A1 A2 A3 A4 A5 A6 A7 A8 A9 A10 A11 A12 A13 A14 A15 w K} : aH (II A0 A1 A2 A3 A4 A5 A6 A7 A8 A9 A10 A11 A12 A13 A14 A15 w K)
 (Al w (.cells ⟨(dF A0 A1 A2 A3 A4 A5 A6 A7 A8 A9 A10 A11 A12 A13 A14 A15)⟩ 28) fun a3 w2 => ku w2 a3 fun x4 x5 x6 x7 x8 x9 x10 x11 x12 x13 x14 x15 x16 x17 x18 x19 => sQ x4 x5 x6 x7 x8 x9 x10 x11 x12 x13 x14 x15 x16 x17 x18 x19 w2 fun r20 w21 => K (!r20) w21) := okF cZ Tryz.func159 .leaf (by kernel_rfl)
theorem Tf {A0 A1 A2 A3 A4 A5 A6 A7 A8 A9 A10 A11 A12 A13 A14 A15 w K} : aH (sQ A0 A1 A2 A3 A4 A5 A6 A7 A8 A9 A10 A11 A12 A13 A14 A15 w K)
 (Al w (.cells ⟨(dF A0 A1 A2 A3 A4 A5 A6 A7 A8 A9 A10 A11 A12 A13 A14 A15)⟩ 28) fun a3 w2 => Al w2 (.cells ⟨(dF 0 0 0 0 0 0 0 0 0 0 0 0 0 0 0 0)⟩ 28) fun a5 w4 => let J6 : Bool -> Prop := fun j7 => (K j7 w4)
 ku w4 a3 fun x8 x9 x10 x11 x12 x13 x14 x15 x16 x17 x18 x19 x20 x21 x22 x23 => ku w4 a5 fun x24 x25 x26 x27 x28 x29 x30 x31 x32 x33 x34 x35 x36 x37 x38 x39 => (bif (!((x8 == x24) && ((x9 == x25) && ((x10 == x26) && ((x11 == x27) && ((x12 == x28) && ((x13 == x29) && ((x14 == x30) && ((x15 == x31) && ((x16 == x32) && ((x17 == x33) && ((x18 == x34) && ((x19 == x35) && ((x20 == x36) && ((x21 == x37) && ((x22 == x38) && ((x23 == x39) && true))))))))))))))))) then
 (0 : Int) <= 0 ∧ 0 < (16 : Int) ∧
 Ld (.int .u8) w4 (a3.add (Int.toNat 0 * 1)) fun x40 => J6 (x40 != 255)
 else
 J6 false)) := okF cZ Tryz.func160 .leaf (by kernel_rfl)
theorem F7 {a0 w K} : aH (Ih a0 w K)
 (jH a0 w fun r2 w3 => K (!r2) w3) := okF cZ Tryz.func161 .leaf (by kernel_rfl)
theorem H6 {A0 A1 A2 A3 A4 A5 A6 f0 w K} : aH (I_ A0 A1 A2 A3 A4 A5 A6 f0 w K)
 (Al w (.cells ⟨[(Value.int .i64 A0), (Value.int .i64 A1), (Value.int .i64 A2), (Value.int .i64 A3), (Value.int .i64 A4), (Value.int .i64 A5), (Value.int .i64 A6)]⟩ 105) fun a3 w2 => uT w2 f0 fun x4 x5 x6 x7 x8 x9 x10 x11 x12 x13 x14 x15 x16 x17 x18 x19 x20 x21 x22 x23 x24 x25 x26 x27 x28 x29 x30 x31 x32 x33 x34 x35 x36 x37 x38 x39 => Ld (.int .i64) w2 (a3.add 0) fun x40 => Ld (.int .i64) w2 (a3.add 1) fun x41 => Ld (.int .i64) w2 (a3.add 2) fun x42 => Ld (.int .i64) w2 (a3.add 3) fun x43 => Ld (.int .i64) w2 (a3.add 4) fun x44 => Ld (.int .i64) w2 (a3.add 5) fun x45 => Ld (.int .i64) w2 (a3.add 6) fun x46 => pR x4 x5 x6 x7 x8 x9 x10 x11 x12 x13 x14 x15 x16 x17 x18 x19 x20 x21 x22 x23 x24 x25 x26 x27 x28 x29 x30 x31 x32 x33 x34 x35 x36 x37 x38 x39 x40 x41 x42 x43 x44 x45 x46 w2 fun r47 w48 => K (!r47) w48) := okF cZ Tryz.func162 .leaf (by kernel_rfl)
theorem K_ {A0 A1 A2 A3 A4 A5 A6 A7 A8 A9 A10 A11 A12 A13 A14 A15 A16 A17 A18 A19 A20 A21 A22 A23 A24 A25 A26 A27 A28 A29 A30 A31 A32 A33 A34 A35 B0 B1 B2 B3 B4 B5 B6 w K} : aH (pR A0 A1 A2 A3 A4 A5 A6 A7 A8 A9 A10 A11 A12 A13 A14 A15 A16 A17 A18 A19 A20 A21 A22 A23 A24 A25 A26 A27 A28 A29 A30 A31 A32 A33 A34 A35 B0 B1 B2 B3 B4 B5 B6 w K)
 (Al w (.cells ⟨(fG A0 A1 A2 A3 A4 A5 A6 A7 A8 A9 A10 A11 A12 A13 A14 A15 A16 A17 A18 A19 A20 A21 A22 A23 A24 A25 A26 A27 A28 A29 A30 A31 A32 A33 A34 A35)⟩ 33) fun a4 w3 => Al w3 (.cells ⟨[(Value.int .i64 B0), (Value.int .i64 B1), (Value.int .i64 B2), (Value.int .i64 B3), (Value.int .i64 B4), (Value.int .i64 B5), (Value.int .i64 B6)]⟩ 105) fun a6 w5 => let J7 : Bool -> World -> Prop := fun j8 w9 => (let J10 : Bool -> World -> Prop := fun j11 w12 => (let J13 : Bool -> World -> Prop := fun j14 w15 => (let J16 : Bool -> World -> Prop := fun j17 w18 => (K j17 w18)
 (bif j8 then
 (bif j11 then
 (bif j14 then
 Ld (.int .i64) w15 a6 fun x19 => Ld .slice w15 (a4.add 16) fun x20 => dM x19 0 (IntKind.i64.wrap ((x20.len : Int) - 1)) w15 fun r21 w22 => J16 r21 w22
 else
 J16 false w15)
 else
 J16 false w15)
 else
 J16 false w15))
 Ld (.int .i64) w12 (a6.add 1) fun x23 => mZ x23 w12 fun r24 w25 => (bif r24 then
 Ld (.int .i64) w25 (a6.add 1) fun x26 => Ld (.int .i64) w25 (a6.add 4) fun x27 => J13 (x26 == x27) w25
 else
 J13 false w25))
 Ld (.int .i64) w9 (a6.add 2) fun x28 => jH x28 w9 fun r29 w30 => (bif r29 then
 Ld .slice w30 (a4.add 17) fun x31 => Ld (.int .i64) w30 ((a6.add 4).add 1) fun x32 => bJ x31 x32 w30 fun r33 w34 => J10 r33 w34
 else
 J10 false w30))
 Ld (.int .i64) w5 (a6.add 3) fun x35 => dM x35 0 65535 w5 fun r36 w37 => (bif r36 then
 Ld (.int .i64) w37 ((a6.add 4).add 2) fun x38 => dM x38 0 65535 w37 fun r39 w40 => J7 r39 w40
 else
 J7 false w37)) := okF cZ Tryz.func163 .leaf (by kernel_rfl)
theorem nC {a0 a1 w K} : aH (bI a0 a1 w K)
 (bV a0 a1 w fun r3 w4 => K (decide (r3 >= 0)) w4) := okF cZ Tryz.func164 .leaf (by kernel_rfl)
theorem sD {a0 a1 w K} : aH (bZ a0 a1 w K)
 (dO a0 a1 w fun r3 w4 => K (decide (r3 >= 0)) w4) := okF cZ Tryz.func165 .leaf (by kernel_rfl)
theorem jZ {a0 a1 w K} : aH (aV a0 a1 w K)
 (bD a0 a1 w fun r3 w4 => K (decide (r3 >= 0)) w4) := okF cZ Tryz.func166 .leaf (by kernel_rfl)
theorem rU {a0 w K} : aH (bP a0 w K)
 ((bif (Option.isNone a0.a) then
 K ⟨none, 0, 0⟩ w
 else
 Al w (.cells ⟨[]⟩ 28) fun a3 w2 => qg 28 16 16 (dF 0 0 0 0 0 0 0 0 0 0 0 0 0 0 0 0) ⟨(some a3), 0, 0⟩ a0 w2 fun s4 w5 => K s4 w5)) := okF cZ Tryz.func167 .leaf (by kernel_rfl)
theorem Ew {A0 A1 A2 A3 A4 A5 A6 w K} : aH (wP A0 A1 A2 A3 A4 A5 A6 w K)
 (Al w (.cells ⟨[(Value.int .i64 A0), (Value.int .i64 A1), (Value.int .i64 A2), (Value.int .i64 A3), (Value.int .i64 A4), (Value.int .i64 A5), (Value.int .i64 A6)]⟩ 105) fun a3 w2 => Al w2 (.cells ⟨[(Value.int .i64 0), (Value.int .i64 0), (Value.int .i64 0), (Value.int .i64 0)]⟩ 78) fun a5 w4 => Ld (.int .i64) w4 (a3.add 0) fun x6 => Ld (.int .i64) w4 (a3.add 1) fun x7 => Ld (.int .i64) w4 (a3.add 2) fun x8 => Ld (.int .i64) w4 (a3.add 3) fun x9 => iT [(Value.int .i64 x6), (Value.int .i64 x7), (Value.int .i64 x8), (Value.int .i64 x9)] w4 a5 0 fun w10 => Ld (.int .i64) w10 (a5.add 0) fun y11 => Ld (.int .i64) w10 (a5.add 1) fun y12 => Ld (.int .i64) w10 (a5.add 2) fun y13 => Ld (.int .i64) w10 (a5.add 3) fun y14 => K y11 y12 y13 y14 w10) := okF cZ Tryz.func168 .leaf (by kernel_rfl)
theorem DU {A0 A1 A2 A3 A4 A5 A6 w K} : aH (vV A0 A1 A2 A3 A4 A5 A6 w K)
 (Al w (.cells ⟨[(Value.int .i64 A0), (Value.int .i64 A1), (Value.int .i64 A2), (Value.int .i64 A3), (Value.int .i64 A4), (Value.int .i64 A5), (Value.int .i64 A6)]⟩ 105) fun a3 w2 => Al w2 (.cells ⟨[(Value.int .i64 0), (Value.int .i64 0), (Value.int .i64 0)]⟩ 80) fun a5 w4 => Ld (.int .i64) w4 ((a3.add 4).add 0) fun x6 => Ld (.int .i64) w4 ((a3.add 4).add 1) fun x7 => Ld (.int .i64) w4 ((a3.add 4).add 2) fun x8 => iT [(Value.int .i64 x6), (Value.int .i64 x7), (Value.int .i64 x8)] w4 a5 0 fun w9 => Ld (.int .i64) w9 (a5.add 0) fun y10 => Ld (.int .i64) w9 (a5.add 1) fun y11 => Ld (.int .i64) w9 (a5.add 2) fun y12 => K y10 y11 y12 w9) := okF cZ Tryz.func169 .leaf (by kernel_rfl)
theorem yV {a0 w K} : aH (fU a0 w K)
 (Al w (.cells ⟨[(Value.bool false)]⟩ 4) fun a3 w2 => Al w2 (.map #[] 0) fun a5 w4 => Al w4 (.cells ⟨[(Value.map none)]⟩ 348) fun a7 w6 => St w6 a7 (Value.map (some w2.heap.size)) fun w8 => Ep Tryz.prog none [.agg La] a0 w8 (fun l9 x10 W11 Kb12 => Al W11 (.cells ⟨(dF 0 0 0 0 0 0 0 0 0 0 0 0 0 0 0 0)⟩ 28) fun a14 w13 => iT (dF x10.1.1 x10.1.2.1 x10.1.2.2.1 x10.1.2.2.2.1 x10.1.2.2.2.2.1 x10.1.2.2.2.2.2.1 x10.1.2.2.2.2.2.2.1 x10.1.2.2.2.2.2.2.2.1 x10.1.2.2.2.2.2.2.2.2.1 x10.1.2.2.2.2.2.2.2.2.2.1 x10.1.2.2.2.2.2.2.2.2.2.2.1 x10.1.2.2.2.2.2.2.2.2.2.2.2.1 x10.1.2.2.2.2.2.2.2.2.2.2.2.2.1 x10.1.2.2.2.2.2.2.2.2.2.2.2.2.2.1 x10.1.2.2.2.2.2.2.2.2.2.2.2.2.2.2.1 x10.1.2.2.2.2.2.2.2.2.2.2.2.2.2.2.2.1) w13 a14 0 fun w15 => w15.heap[l9]? = W11.heap[l9]? ∧
 Ld .map (aA w15 l9) a7 fun x16 => ku (aA w15 l9) a14 fun x17 x18 x19 x20 x21 x22 x23 x24 x25 x26 x27 x28 x29 x30 x31 x32 => oL Tryz.prog 28 .bool x16 (Value.agg ⟨dF x17 x18 x19 x20 x21 x22 x23 x24 x25 x26 x27 x28 x29 x30 x31 x32⟩) (Value.bool false) (aA w15 l9) fun x33 => (bif x33 then
 St (aA w15 l9) a3 (Value.bool true) fun w34 => Kb12 .ret w34
 else
 Ld .map (aA w15 l9) a7 fun x35 => ku (aA w15 l9) a14 fun x36 x37 x38 x39 x40 x41 x42 x43 x44 x45 x46 x47 x48 x49 x50 x51 => tH Tryz.prog 28 x35 (Value.agg ⟨dF x36 x37 x38 x39 x40 x41 x42 x43 x44 x45 x46 x47 x48 x49 x50 x51⟩) (Value.bool true) (aA w15 l9) fun w52 => Kb12 .normal w52))
 (fun w53 => St w53 a3 (Value.bool false) fun w54 => w54.heap[w8.heap.size]? = some (.deferred (some [])) ∧
 Ld .bool (w54.putObj w8.heap.size (.deferred none)) a3 fun y55 => K y55 (w54.putObj w8.heap.size (.deferred none)))
 (fun w56 => w56.heap[w8.heap.size]? = some (.deferred (some [])) ∧
 Ld .bool (w56.putObj w8.heap.size (.deferred none)) a3 fun y57 => K y57 (w56.putObj w8.heap.size (.deferred none)))
 []) := okF cZ Tryz.func170 (.seq .leaf (.seq .leaf (.seq (.seq .leaf (.blk (.rng [.agg La] .leaf .leaf))) .leaf))) (by kernel_rfl)
theorem sV {a0 a1 w K} : aH (dD a0 a1 w K)
 (bK (Value.slice a0.a a0.len a0.cap) = true ∧
 Al w (.cells ⟨[(Value.slice a0.a a0.len a0.cap)]⟩ 29) fun a4 w3 => bK a1 = true ∧
 Al w3 (.cells ⟨[a1]⟩ 285) fun a6 w5 => K (Value.func (.func 248) #[] #[(Value.pointer (some a4)), (Value.pointer (some a6))]) w5) := okF cZ Tryz.func171 .leaf (by kernel_rfl)
theorem yh {A0 A1 A2 A3 A4 A5 A6 A7 A8 A9 A10 A11 A12 A13 A14 A15 w K} : aH (qG A0 A1 A2 A3 A4 A5 A6 A7 A8 A9 A10 A11 A12 A13 A14 A15 w K)
 (Al w (.cells ⟨(dF A0 A1 A2 A3 A4 A5 A6 A7 A8 A9 A10 A11 A12 A13 A14 A15)⟩ 28) fun a3 w2 => Al w2 (.cells ⟨(dF 0 0 0 0 0 0 0 0 0 0 0 0 0 0 0 0)⟩ 28) fun a5 w4 => ku w4 a3 fun x6 x7 x8 x9 x10 x11 x12 x13 x14 x15 x16 x17 x18 x19 x20 x21 => iT (dF x6 x7 x8 x9 x10 x11 x12 x13 x14 x15 x16 x17 x18 x19 x20 x21) w4 a5 0 fun w22 => ku w22 a5 fun y23 y24 y25 y26 y27 y28 y29 y30 y31 y32 y33 y34 y35 y36 y37 y38 => K y23 y24 y25 y26 y27 y28 y29 y30 y31 y32 y33 y34 y35 y36 y37 y38 w22) := okF cZ Tryz.func172 .leaf (by kernel_rfl)
theorem DX {a0 w K} : aH (jc a0 w K)
 (Al w (.cells ⟨[(Value.bool false)]⟩ 4) fun a3 w2 => Al w2 (.map #[] 0) fun a5 w4 => Al w4 (.cells ⟨[(Value.map none)]⟩ 349) fun a7 w6 => St w6 a7 (Value.map (some w2.heap.size)) fun w8 => Ep Tryz.prog none [.one (.int .i64)] a0 w8 (fun l9 x10 W11 Kb12 => W11.heap[l9]? = W11.heap[l9]? ∧
 Ld .map (aA W11 l9) a7 fun x13 => oL Tryz.prog 3 .bool x13 (Value.int .i64 x10.1) (Value.bool false) (aA W11 l9) fun x14 => (bif x14 then
 St (aA W11 l9) a3 (Value.bool true) fun w15 => Kb12 .ret w15
 else
 Ld .map (aA W11 l9) a7 fun x16 => tH Tryz.prog 3 x16 (Value.int .i64 x10.1) (Value.bool true) (aA W11 l9) fun w17 => Kb12 .normal w17))
 (fun w18 => St w18 a3 (Value.bool false) fun w19 => w19.heap[w8.heap.size]? = some (.deferred (some [])) ∧
 Ld .bool (w19.putObj w8.heap.size (.deferred none)) a3 fun y20 => K y20 (w19.putObj w8.heap.size (.deferred none)))
 (fun w21 => w21.heap[w8.heap.size]? = some (.deferred (some [])) ∧
 Ld .bool (w21.putObj w8.heap.size (.deferred none)) a3 fun y22 => K y22 (w21.putObj w8.heap.size (.deferred none)))
 []) := okF cZ Tryz.func173 (.seq .leaf (.seq .leaf (.seq (.seq .leaf (.blk (.rng [.one (.int .i64)] .leaf .leaf))) .leaf))) (by kernel_rfl)
theorem zM {a0 a1 w K} : aH (gI a0 a1 w K)
 (bK (Value.slice a0.a a0.len a0.cap) = true ∧
 Al w (.cells ⟨[(Value.slice a0.a a0.len a0.cap)]⟩ 30) fun a4 w3 => bK a1 = true ∧
 Al w3 (.cells ⟨[a1]⟩ 43) fun a6 w5 => K (Value.func (.func 249) #[] #[(Value.pointer (some a4)), (Value.pointer (some a6))]) w5) := okF cZ Tryz.func174 .leaf (by kernel_rfl)
theorem CS {a0 w K} : aH (Es a0 w K)
 (K a0 w) := okF cZ Tryz.func175 .leaf (by kernel_rfl)
theorem wZ {a0 w K} : aH (eH a0 w K)
 (Al w (.cells ⟨[(Value.bool false)]⟩ 4) fun a3 w2 => Al w2 (.map #[] 0) fun a5 w4 => Al w4 (.cells ⟨[(Value.map none)]⟩ 350) fun a7 w6 => St w6 a7 (Value.map (some w2.heap.size)) fun w8 => Ep Tryz.prog none [.agg [(.int .i64), (.int .i64), (.int .i64), (.int .i64)]] a0 w8 (fun l9 x10 W11 Kb12 => Al W11 (.cells ⟨[(Value.int .i64 0), (Value.int .i64 0), (Value.int .i64 0), (Value.int .i64 0)]⟩ 78) fun a14 w13 => iT [(Value.int .i64 x10.1.1), (Value.int .i64 x10.1.2.1), (Value.int .i64 x10.1.2.2.1), (Value.int .i64 x10.1.2.2.2.1)] w13 a14 0 fun w15 => w15.heap[l9]? = W11.heap[l9]? ∧
 Ld .map (aA w15 l9) a7 fun x16 => Ld (.int .i64) (aA w15 l9) (a14.add 0) fun x17 => Ld (.int .i64) (aA w15 l9) (a14.add 1) fun x18 => Ld (.int .i64) (aA w15 l9) (a14.add 2) fun x19 => Ld (.int .i64) (aA w15 l9) (a14.add 3) fun x20 => oL Tryz.prog 78 .bool x16 (Value.agg ⟨[(Value.int .i64 x17), (Value.int .i64 x18), (Value.int .i64 x19), (Value.int .i64 x20)]⟩) (Value.bool false) (aA w15 l9) fun x21 => (bif x21 then
 St (aA w15 l9) a3 (Value.bool true) fun w22 => Kb12 .ret w22
 else
 Ld .map (aA w15 l9) a7 fun x23 => Ld (.int .i64) (aA w15 l9) (a14.add 0) fun x24 => Ld (.int .i64) (aA w15 l9) (a14.add 1) fun x25 => Ld (.int .i64) (aA w15 l9) (a14.add 2) fun x26 => Ld (.int .i64) (aA w15 l9) (a14.add 3) fun x27 => tH Tryz.prog 78 x23 (Value.agg ⟨[(Value.int .i64 x24), (Value.int .i64 x25), (Value.int .i64 x26), (Value.int .i64 x27)]⟩) (Value.bool true) (aA w15 l9) fun w28 => Kb12 .normal w28))
 (fun w29 => St w29 a3 (Value.bool false) fun w30 => w30.heap[w8.heap.size]? = some (.deferred (some [])) ∧
 Ld .bool (w30.putObj w8.heap.size (.deferred none)) a3 fun y31 => K y31 (w30.putObj w8.heap.size (.deferred none)))
 (fun w32 => w32.heap[w8.heap.size]? = some (.deferred (some [])) ∧
 Ld .bool (w32.putObj w8.heap.size (.deferred none)) a3 fun y33 => K y33 (w32.putObj w8.heap.size (.deferred none)))
 []) := okF cZ Tryz.func176 (.seq .leaf (.seq .leaf (.seq (.seq .leaf (.blk (.rng [.agg [(.int .i64), (.int .i64), (.int .i64), (.int .i64)]] .leaf .leaf))) .leaf))) (by kernel_rfl)
theorem qp {a0 a1 w K} : aH (bU a0 a1 w K)
 (bK (Value.slice a0.a a0.len a0.cap) = true ∧
 Al w (.cells ⟨[(Value.slice a0.a a0.len a0.cap)]⟩ 31) fun a4 w3 => bK a1 = true ∧
 Al w3 (.cells ⟨[a1]⟩ 279) fun a6 w5 => K (Value.func (.func 250) #[] #[(Value.pointer (some a4)), (Value.pointer (some a6))]) w5) := okF cZ Tryz.func177 .leaf (by kernel_rfl)
theorem xg {a0 w K} : aH (eY a0 w K)
 (Al w (.cells ⟨[(Value.bool false)]⟩ 4) fun a3 w2 => Al w2 (.map #[] 0) fun a5 w4 => Al w4 (.cells ⟨[(Value.map none)]⟩ 192) fun a7 w6 => St w6 a7 (Value.map (some w2.heap.size)) fun w8 => Ep Tryz.prog none [.agg [(.int .i64), (.int .i64), (.int .i64)]] a0 w8 (fun l9 x10 W11 Kb12 => Al W11 (.cells ⟨[(Value.int .i64 0), (Value.int .i64 0), (Value.int .i64 0)]⟩ 80) fun a14 w13 => iT [(Value.int .i64 x10.1.1), (Value.int .i64 x10.1.2.1), (Value.int .i64 x10.1.2.2.1)] w13 a14 0 fun w15 => w15.heap[l9]? = W11.heap[l9]? ∧
 Ld .map (aA w15 l9) a7 fun x16 => Ld (.int .i64) (aA w15 l9) (a14.add 0) fun x17 => Ld (.int .i64) (aA w15 l9) (a14.add 1) fun x18 => Ld (.int .i64) (aA w15 l9) (a14.add 2) fun x19 => oL Tryz.prog 80 .bool x16 (Value.agg ⟨[(Value.int .i64 x17), (Value.int .i64 x18), (Value.int .i64 x19)]⟩) (Value.bool false) (aA w15 l9) fun x20 => (bif x20 then
 St (aA w15 l9) a3 (Value.bool true) fun w21 => Kb12 .ret w21
 else
 Ld .map (aA w15 l9) a7 fun x22 => Ld (.int .i64) (aA w15 l9) (a14.add 0) fun x23 => Ld (.int .i64) (aA w15 l9) (a14.add 1) fun x24 => Ld (.int .i64) (aA w15 l9) (a14.add 2) fun x25 => tH Tryz.prog 80 x22 (Value.agg ⟨[(Value.int .i64 x23), (Value.int .i64 x24), (Value.int .i64 x25)]⟩) (Value.bool true) (aA w15 l9) fun w26 => Kb12 .normal w26))
 (fun w27 => St w27 a3 (Value.bool false) fun w28 => w28.heap[w8.heap.size]? = some (.deferred (some [])) ∧
 Ld .bool (w28.putObj w8.heap.size (.deferred none)) a3 fun y29 => K y29 (w28.putObj w8.heap.size (.deferred none)))
 (fun w30 => w30.heap[w8.heap.size]? = some (.deferred (some [])) ∧
 Ld .bool (w30.putObj w8.heap.size (.deferred none)) a3 fun y31 => K y31 (w30.putObj w8.heap.size (.deferred none)))
 []) := okF cZ Tryz.func178 (.seq .leaf (.seq .leaf (.seq (.seq .leaf (.blk (.rng [.agg [(.int .i64), (.int .i64), (.int .i64)]] .leaf .leaf))) .leaf))) (by kernel_rfl)
theorem pY {a0 a1 w K} : aH (bT a0 a1 w K)
 (bK (Value.slice a0.a a0.len a0.cap) = true ∧
 Al w (.cells ⟨[(Value.slice a0.a a0.len a0.cap)]⟩ 31) fun a4 w3 => bK a1 = true ∧
 Al w3 (.cells ⟨[a1]⟩ 280) fun a6 w5 => K (Value.func (.func 251) #[] #[(Value.pointer (some a4)), (Value.pointer (some a6))]) w5) := okF cZ Tryz.func179 .leaf (by kernel_rfl)
theorem Ef {a0 f0 w K} : aH (FV a0 f0 w K)
 (Ld (.int .i64) w (f0.add 20) fun x2 => K (decide (a0 > x2)) w) := okF cZ Tryz.func180 .leaf (by kernel_rfl)
theorem Oc {a0 w K} : aH (nV a0 w K)
 (let J2 : Bool -> Prop := fun j3 => (K j3 w)
 (bif (decide (a0 >= 0)) then
 J2 (decide (a0 < 4294967296))
 else
 J2 false)) := okF cZ Tryz.func181 .leaf (by kernel_rfl)
theorem Jd {a0 a1 w K} : aH (zA a0 a1 w K)
 (cu (S := Int × Unit) (fun s3 w4 next5 => (bif (decide (s3.1 < (a1.len : Int))) then
 bM a1 2 s3.1 fun a6 => Ld (.int .i64) w4 (a6.add 0) fun x7 => Ld (.int .i64) w4 (a6.add 1) fun x8 => Al w4 (.cells ⟨[(Value.int .i64 0), (Value.int .i64 0)]⟩ 300) fun a10 w9 => iT [(Value.int .i64 x7), (Value.int .i64 x8)] w9 a10 0 fun w11 => Ld (.int .i64) w11 (a10.add 0) fun x12 => Ld (.int .i64) w11 (a10.add 1) fun x13 => jV x12 x13 a0 w11 fun r14 w15 => (bif r14 then
 K true w15
 else
 next5 ((IntKind.i64.wrap (s3.1 + 1)), ()) w15)
 else
 K false w4)) (0, ()) w) := okF cZ Tryz.func182 (.seq .leaf (.seq (.seq .leaf (.blk (.loop [(9, (.int .i64))] .leaf))) .leaf)) (by kernel_rfl)
theorem yT {a0 a1 w K} : aH (fV a0 a1 w K)
 (cu (S := Int × Unit) (fun s3 w4 next5 => (bif (decide (s3.1 < (a0.len : Int))) then
 bM a0 1 s3.1 fun a6 => Ld (.int .i64) w4 a6 fun x7 => (bif (a1 == x7) then
 K s3.1 w4
 else
 next5 ((IntKind.i64.wrap (s3.1 + 1)), ()) w4)
 else
 K (-1) w4)) (0, ()) w) := okF cZ Tryz.func183 (.seq .leaf (.seq (.seq .leaf (.blk (.loop [(8, (.int .i64))] .leaf))) .leaf)) (by kernel_rfl)
theorem Iy {a0 a1 w K} : aH (jv a0 a1 w K)
 (let J3 : Bool -> World -> Prop := fun j4 w5 => (K j4 w5)
 fZ a0 w fun r6 w7 => (bif r6 then
 Pt a0 fun a8 => Ld .slice w7 (a8.add 2) fun x9 => bJ x9 a1 w7 fun r10 w11 => J3 r10 w11
 else
 J3 false w7)) := okF cZ Tryz.func184 .leaf (by kernel_rfl)
theorem Pe {a0 w K} : aH (qM a0 w K)
 (let J2 : Bool -> Prop := fun j3 => (K j3 w)
 (bif (decide (a0 >= 0)) then
 J2 (decide (a0 <= 65535))
 else
 J2 false)) := okF cZ Tryz.func185 .leaf (by kernel_rfl)
theorem yM {a0 a1 w K} : aH (fQ a0 a1 w K)
 (let J3 : Bool -> Prop := fun j4 => (K j4 w)
 (bif (decide (a1 >= 0)) then
 Pt a0 fun a5 => Ld .slice w ((a5.add 5).add 16) fun x6 => J3 (decide (a1 < (x6.len : Int)))
 else
 J3 false)) := okF cZ Tryz.func186 .leaf (by kernel_rfl)
theorem GH {a0 a1 w K} : aH (iR a0 a1 w K)
 (fB a0 w fun r3 w4 => (bif (!r3) then
 K 0 false w4
 else
 bQ a0 a1 w4 fun r5 r6 w7 => (bif (!r6) then
 K 0 false w7
 else
 Pt a0 fun a8 => Ld .slice w7 a8 fun x9 => bM x9 3 r5 fun a10 => Ld (.int .i64) w7 (a10.add 1) fun x11 => K x11 true w7))) := okF cZ Tryz.func187 .leaf (by kernel_rfl)
theorem I8 {A0 A1 A2 A3 w K} : aH (iy A0 A1 A2 A3 w K)
 (Al w (.cells ⟨[(Value.int .i64 A0), (Value.int .i64 A1), (Value.int .i64 A2), (Value.int .i64 A3)]⟩ 78) fun a3 w2 => Ld (.int .i64) w2 a3 fun x4 => Ld (.int .i64) w2 (a3.add 1) fun x5 => Ld (.int .i64) w2 (a3.add 2) fun x6 => Ld (.int .i64) w2 (a3.add 3) fun x7 => Al w2 (.cells ⟨[(Value.int .i64 x4), (Value.int .i64 x5), (Value.int .i64 x6), (Value.int .i64 x7)]⟩ 3) fun a9 w8 => sK ⟨(some a9), 4, 4⟩ w8 fun r10 w11 => K r10 w11) := okF cZ Tryz.func188 .leaf (by kernel_rfl)
theorem Ig {A0 A1 A2 w K} : aH (iD A0 A1 A2 w K)
 (Al w (.cells ⟨[(Value.int .i64 A0), (Value.int .i64 A1), (Value.int .i64 A2)]⟩ 80) fun a3 w2 => Ld (.int .i64) w2 a3 fun x4 => Ld (.int .i64) w2 (a3.add 1) fun x5 => Ld (.int .i64) w2 (a3.add 2) fun x6 => Al w2 (.cells ⟨[(Value.int .i64 x4), (Value.int .i64 x5), (Value.int .i64 x6)]⟩ 3) fun a8 w7 => sK ⟨(some a8), 3, 3⟩ w7 fun r9 w10 => K r9 w10) := okF cZ Tryz.func189 .leaf (by kernel_rfl)
theorem Gt {a0 a1 w K} : aH (gQ a0 a1 w K)
 (let J3 : Bool -> Prop := fun j4 => ((bif j4 then
 K none 2 w
 else
 let J5 : Bool -> Prop := fun j6 => ((bif j6 then
 K none 1 w
 else
 Pt a0 fun a7 => Ld .slice w a7 fun x8 => bM x8 2 a1 fun a9 => K (some a9) 0 w))
 (bif (decide (a1 < 0)) then
 J5 true
 else
 Pt a0 fun a10 => Ld .slice w a10 fun x11 => J5 (decide (a1 >= (x11.len : Int))))))
 (bif (Option.isNone a0) then
 J3 true
 else
 Pt a0 fun a12 => Ld .slice w a12 fun x13 => J3 (Option.isNone x13.a))) := okF cZ Tryz.func190 .leaf (by kernel_rfl)
theorem KY {a0 w K} : aH (pW a0 w K)
 (dQ a0 w fun r2 w3 => (bif (!r2) then
 K 0 w3
 else
 Pt a0 fun a4 => Ld (.int .i64) w3 (a4.add 3) fun x5 => K x5 w3)) := okF cZ Tryz.func191 .leaf (by kernel_rfl)
theorem DY {A0 A1 w K} : aH (jd A0 A1 w K)
 (Al w (.cells ⟨[(Value.int .i64 A0), (Value.int .i64 A1)]⟩ 199) fun a3 w2 => Ld (.int .i64) w2 a3 fun x4 => Ld (.int .i64) w2 (a3.add 1) fun x5 => K (decide (x4 >= x5)) w2) := okF cZ Tryz.func192 .leaf (by kernel_rfl)
theorem FM {a0 w K} : aH (fZ a0 w K)
 (let J2 : Bool -> Prop := fun j3 => (K j3 w)
 (bif (!(Option.isNone a0)) then
 Pt a0 fun a4 => Ld .map w (a4.add 3) fun x5 => J2 (!(Option.isNone x5))
 else
 J2 false)) := okF cZ Tryz.func193 .leaf (by kernel_rfl)
theorem N_ {a0 w K} : aH (rO a0 w K)
 (let J2 : Bool -> Prop := fun j3 => ((bif j3 then
 K true w
 else
 K false w))
 (bif (a0 == 1) then
 J2 (a0 == 1)
 else
 (bif (a0 == 6) then
 J2 (a0 == 6)
 else
 J2 (a0 == 17)))) := okF cZ Tryz.func194 .leaf (by kernel_rfl)
theorem JK {a0 w K} : aH (nJ a0 w K)
 (Pt a0 fun a2 => Ld .slice w a2 fun x3 => cu (S := Int × Unit) (fun s4 w5 next6 => (bif (decide (s4.1 < (x3.len : Int))) then
 Pt a0 fun a7 => Ld .slice w5 a7 fun x8 => bM x8 9 s4.1 fun a9 => Ld .bool w5 (a9.add 8) fun x10 => (bif (!x10) then
 K s4.1 true w5
 else
 next6 ((IntKind.i64.wrap (s4.1 + 1)), ()) w5)
 else
 K 0 false w5)) (0, ()) w) := okF cZ Tryz.func195 (.seq .leaf (.seq (.seq .leaf (.blk (.loop [(10, (.int .i64))] .leaf))) .leaf)) (by kernel_rfl)
theorem H9 {a0 a1 a2 w K} : aH (iQ a0 a1 a2 w K)
 (fB a0 w fun r4 w5 => (bif (!r4) then
 K 2 w5
 else
 bQ a0 a1 w5 fun r6 r7 w8 => (bif r7 then
 Pt a0 fun a9 => Ld .slice w8 a9 fun x10 => bM x10 3 r6 fun a11 => St w8 (a11.add 1) (Value.int .i64 a2) fun w12 => K 0 w12
 else
 Pt a0 fun a13 => Ld (.int .i64) w8.drew (a13.add 1) fun x14 => Pt a0 fun a15 => Ld (.int .i64) w8.drew (a15.add 2) fun x16 => (bif (decide (x14 >= x16)) then
 K 7 w8.drew
 else
 jG a0 w8.drew fun w17 => bQ a0 a1 w17 fun r18 r19 w20 => Pt a0 fun a21 => Ld .slice w20 a21 fun x22 => bM x22 3 r18 fun a23 => iT [(Value.string a1), (Value.int .i64 a2), (Value.bool true)] w20 a23 0 fun w24 => Pt a0 fun a25 => Ld (.int .i64) w24 (a25.add 1) fun x26 => Pt a0 fun a27 => St w24 (a27.add 1) (Value.int .i64 (IntKind.i64.wrap (x26 + 1))) fun w28 => K 0 w28)))) := okF cZ Tryz.func196 .leaf (by kernel_rfl)
theorem kY {a0 a1 w K} : aH (bC a0 a1 w K)
 (Al w (.cells ⟨[(Value.int .i64 0), (Value.int .i64 0), (Value.int .i64 0)]⟩ 237) fun a4 w3 => (bif (decide ((a0.len : Int) < 1)) then
 False
 else
 bM a0 3 0 fun a5 => Ld (.int .i64) w3 (a5.add 0) fun x6 => Ld (.int .i64) w3 (a5.add 1) fun x7 => Ld (.int .i64) w3 (a5.add 2) fun x8 => Al w3 (.cells ⟨[(Value.int .i64 0), (Value.int .i64 0), (Value.int .i64 0)]⟩ 237) fun a10 w9 => iT [(Value.int .i64 x6), (Value.int .i64 x7), (Value.int .i64 x8)] w9 a10 0 fun w11 => cu (S := Int × Unit) (fun s12 w13 next14 => (bif (decide (s12.1 < (a0.len : Int))) then
 let J15 : World -> Prop := fun w16 => (next14 ((IntKind.i64.wrap (s12.1 + 1)), ()) w16)
 bM a0 3 s12.1 fun a17 => Ld (.int .i64) w13.drew (a17.add 0) fun x18 => Ld (.int .i64) w13.drew (a17.add 1) fun x19 => Ld (.int .i64) w13.drew (a17.add 2) fun x20 => Ld (.int .i64) w13.drew (a10.add 0) fun x21 => Ld (.int .i64) w13.drew (a10.add 1) fun x22 => Ld (.int .i64) w13.drew (a10.add 2) fun x23 => fM Tryz.prog [.one (.int .i64)] a1 [(Value.agg ⟨[(Value.int .i64 x18), (Value.int .i64 x19), (Value.int .i64 x20)]⟩), (Value.agg ⟨[(Value.int .i64 x21), (Value.int .i64 x22), (Value.int .i64 x23)]⟩)] w13.drew fun r24 w25 => ∃ r26 : Int, r24 = (Value.int .i64 r26) ∧
 (bif (decide (r26 < 0)) then
 bM a0 3 s12.1 fun a27 => Ld (.int .i64) w25 (a27.add 0) fun x28 => Ld (.int .i64) w25 (a27.add 1) fun x29 => Ld (.int .i64) w25 (a27.add 2) fun x30 => iT [(Value.int .i64 x28), (Value.int .i64 x29), (Value.int .i64 x30)] w25 a10 0 fun w31 => J15 w31
 else
 J15 w25)
 else
 Ld (.int .i64) w13 (a10.add 0) fun x32 => Ld (.int .i64) w13 (a10.add 1) fun x33 => Ld (.int .i64) w13 (a10.add 2) fun x34 => iT [(Value.int .i64 x32), (Value.int .i64 x33), (Value.int .i64 x34)] w13 a4 0 fun w35 => Ld (.int .i64) w35 (a4.add 0) fun y36 => Ld (.int .i64) w35 (a4.add 1) fun y37 => Ld (.int .i64) w35 (a4.add 2) fun y38 => K y36 y37 y38 w35)) (1, ()) w11)) := okF cZ Tryz.func197 (.seq .leaf (.seq .leaf (.seq .leaf (.seq (.seq .leaf (.blk (.loop [(6, (.int .i64))] .leaf))) .leaf)))) (by kernel_rfl)
theorem Aw {A0 A1 A2 B0 B1 B2 w K} : aH (uI A0 A1 A2 B0 B1 B2 w K)
 (Al w (.cells ⟨[(Value.int .i64 A0), (Value.int .i64 A1), (Value.int .i64 A2)]⟩ 237) fun a4 w3 => Al w3 (.cells ⟨[(Value.int .i64 B0), (Value.int .i64 B1), (Value.int .i64 B2)]⟩ 237) fun a6 w5 => Ld (.int .i64) w5 (a4.add 1) fun x7 => Ld (.int .i64) w5 (a6.add 1) fun x8 => ig x7 x8 w5 fun r9 w10 => K r9 w10) := okF cZ Tryz.func198 .leaf (by kernel_rfl)
theorem NG {a0 a1 w K} : aH (lJ a0 a1 w K)
 (cu (S := Int × Int × Unit) (fun s3 w4 next5 => (bif (decide (s3.2.1 >= 64)) then
 0 <= (6 : Int) ∧
 next5 ((IntKind.i64.wrap (s3.1 + 1)), (gG .i64 s3.2.1 6), ()) w4
 else
 K s3.1 w4)) (0, (Uz .i64 a0 a1), ()) w) := okF cZ Tryz.func199 (.seq .leaf (.seq .leaf (.seq (.seq .leaf (.blk (.loop [(5, (.int .i64)), (6, (.int .i64))] .leaf))) .leaf))) (by kernel_rfl)
theorem DT {a0 a1 w K} : aH (fD a0 a1 w K)
 (Pt a0 fun a3 => Ld (.int .i64) w (a3.add 449) fun x4 => lJ x4 a1 w fun r5 w6 => 0 <= (IntKind.i64.wrap (6 * r5)) ∧
 Pt a0 fun a7 => (0 : Int) <= r5 ∧ r5 < (7 : Int) ∧
 (0 : Int) <= (sW .i64 (gG .i64 a1 (IntKind.i64.wrap (6 * r5))) 63) ∧ (sW .i64 (gG .i64 a1 (IntKind.i64.wrap (6 * r5))) 63) < (64 : Int) ∧
 K (some ((a7.add (Int.toNat r5 * 64)).add (Int.toNat (sW .i64 (gG .i64 a1 (IntKind.i64.wrap (6 * r5))) 63) * 1))) w6.drew) := okF cZ Tryz.func200 .leaf (by kernel_rfl)
theorem jW {a0 a1 w K} : aH (aK a0 a1 w K)
 (aW a0 a1 w fun r3 w4 => (bif (r3 == (-1)) then
 K a0 w4
 else
 cu (S := Int × Int × Unit) (fun s5 w6 next7 => (bif (decide (s5.2.1 < (a0.len : Int))) then
 let J8 : Int -> World -> Prop := fun j9 w10 => (next7 (j9, (IntKind.i64.wrap (s5.2.1 + 1)), ()) w10)
 bM a0 3 s5.2.1 fun a11 => Ld (.int .i64) w6 (a11.add 0) fun x12 => Ld (.int .i64) w6 (a11.add 1) fun x13 => Ld (.int .i64) w6 (a11.add 2) fun x14 => Al w6 (.cells ⟨[(Value.int .i64 0), (Value.int .i64 0), (Value.int .i64 0)]⟩ 237) fun a16 w15 => iT [(Value.int .i64 x12), (Value.int .i64 x13), (Value.int .i64 x14)] w15 a16 0 fun w17 => Ld (.int .i64) w17 (a16.add 0) fun x18 => Ld (.int .i64) w17 (a16.add 1) fun x19 => Ld (.int .i64) w17 (a16.add 2) fun x20 => fM Tryz.prog [.one .bool] a1 [(Value.agg ⟨[(Value.int .i64 x18), (Value.int .i64 x19), (Value.int .i64 x20)]⟩)] w17 fun r21 w22 => ∃ r23 : Bool, r21 = (Value.bool r23) ∧
 (bif (!r23) then
 Ld (.int .i64) w22 (a16.add 0) fun x24 => Ld (.int .i64) w22 (a16.add 1) fun x25 => Ld (.int .i64) w22 (a16.add 2) fun x26 => bM a0 3 s5.1 fun a27 => iT [(Value.int .i64 x24), (Value.int .i64 x25), (Value.int .i64 x26)] w22 a27 0 fun w28 => J8 (IntKind.i64.wrap (s5.1 + 1)) w28
 else
 J8 s5.1 w22)
 else
 Bj a0 3 s5.1 (a0.len : Int) fun s29 => Kw [(Value.int .i64 0), (Value.int .i64 0), (Value.int .i64 0)] s29 w6 fun w30 => Bj a0 3 0 s5.1 fun s31 => K s31 w30)) (r3, (IntKind.i64.wrap (r3 + 1)), ()) w4)) := okF cZ Tryz.func201 (.seq .leaf (.seq .leaf (.seq .leaf (.seq (.seq .leaf (.blk (.loop [(5, (.int .i64)), (6, (.int .i64))] .leaf))) .leaf)))) (by kernel_rfl)
theorem mM {a0 w K} : aH (bG a0 w K)
 ((bif (Option.isNone a0.a) then
 K ⟨none, 0, 0⟩ w
 else
 Al w (.cells ⟨[]⟩ 237) fun a3 w2 => qg 237 3 24 [(Value.int .i64 0), (Value.int .i64 0), (Value.int .i64 0)] ⟨(some a3), 0, 0⟩ a0 w2 fun s4 w5 => K s4 w5)) := okF cZ Tryz.func202 .leaf (by kernel_rfl)
theorem BK {A0 A1 A2 f0 w K} : aH (u_ A0 A1 A2 f0 w K)
 (Al w (.cells ⟨[(Value.int .i64 A0), (Value.int .i64 A1), (Value.int .i64 A2)]⟩ 237) fun a3 w2 => Ld (.int .i64) w2.drew (a3.add 1) fun x4 => Ld .ptr w2.drew f0 fun x5 => Pt x5 fun a6 => Ld (.int .i64) w2.drew (a6.add 449) fun x7 => K (x4 != x7) w2.drew) := okF cZ Tryz.func203 .leaf (by kernel_rfl)
theorem Ce {A0 A1 A2 f0 w K} : aH (uZ A0 A1 A2 f0 w K)
 (Al w (.cells ⟨[(Value.int .i64 A0), (Value.int .i64 A1), (Value.int .i64 A2)]⟩ 237) fun a3 w2 => Ld (.int .i64) w2.drew (a3.add 1) fun x4 => Ld .ptr w2.drew f0 fun x5 => Pt x5 fun a6 => Ld (.int .i64) w2.drew (a6.add 449) fun x7 => K (x4 == x7) w2.drew) := okF cZ Tryz.func204 .leaf (by kernel_rfl)
theorem kK {a0 a1 w K} : aH (aS a0 a1 w K)
 (jA (IntKind.u64.wrap (a0.len : Int)) w fun r3 w4 => aU a0 0 (a0.len : Int) r3 a1 w4 fun w5 => K w5) := okF cZ Tryz.func205 .leaf (by kernel_rfl)
theorem BZ {A0 A1 A2 B0 B1 B2 w K} : aH (oJ A0 A1 A2 B0 B1 B2 w K)
 (Al w (.cells ⟨[(Value.int .i64 A0), (Value.int .i64 A1), (Value.int .i64 A2)]⟩ 237) fun a4 w3 => Al w3 (.cells ⟨[(Value.int .i64 B0), (Value.int .i64 B1), (Value.int .i64 B2)]⟩ 237) fun a6 w5 => Ld (.int .i64) w5 (a4.add 2) fun x7 => Ld (.int .i64) w5 (a6.add 2) fun x8 => ig x7 x8 w5 fun r9 w10 => K r9 w10) := okF cZ Tryz.func206 .leaf (by kernel_rfl)
theorem wV {a0 w K} : aH (eX a0 w K)
 ((bif (Option.isNone a0.a) then
 K ⟨none, 0, 0⟩ w
 else
 Al w (.cells ⟨[]⟩ 5) fun a3 w2 => qg 5 1 1 [(Value.int .u8 0)] ⟨(some a3), 0, 0⟩ a0 w2 fun s4 w5 => K s4 w5)) := okF cZ Tryz.func207 .leaf (by kernel_rfl)
theorem UA {a0 a1 w K} : aH (vT a0 a1 w K)
 (let J3 : Bool -> World -> Prop := fun j4 w5 => (K j4 w5)
 sZ a1 w fun r6 w7 => (bif r6 then
 (bif (decide (a0 >= 0)) then
 0 <= (IntKind.i64.wrap (8 * a1)) ∧
 J3 ((gG .i64 a0 (IntKind.i64.wrap (8 * a1))) == 0) w7
 else
 J3 false w7)
 else
 J3 false w7)) := okF cZ Tryz.func208 .leaf (by kernel_rfl)
theorem uM {a0 a1 w K} : aH (dH a0 a1 w K)
 (bK (Value.slice a0.a a0.len a0.cap) = true ∧
 Al w (.cells ⟨[(Value.slice a0.a a0.len a0.cap)]⟩ 39) fun a4 w3 => Ep Tryz.prog none [.one (.int .u8)] a1 w3 (fun l5 x6 W7 Kb8 => W7.heap[l5]? = W7.heap[l5]? ∧
 Ld .slice (aA W7 l5) a4 fun x9 => Al (aA W7 l5) (.cells ⟨[(Value.int .u8 x6.1)]⟩ 5) fun a11 w10 => qg 5 1 1 [(Value.int .u8 0)] x9 ⟨(some a11), 1, 1⟩ w10 fun s12 w13 => St w13 a4 (Value.slice s12.a s12.len s12.cap) fun w14 => Kb8 .normal w14)
 (fun w15 => Ld .slice w15 a4 fun x16 => w15.heap[w3.heap.size]? = some (.deferred (some [])) ∧
 K x16 (w15.putObj w3.heap.size (.deferred none)))
 (fun w17 => w17.heap[w3.heap.size]? = some (.deferred (some [])) ∧
 K ⟨none, 0, 0⟩ (w17.putObj w3.heap.size (.deferred none)))
 []) := okF cZ Tryz.func209 (.seq .leaf (.seq (.seq .leaf (.blk (.rng [.one (.int .u8)] .leaf .leaf))) .leaf)) (by kernel_rfl)
theorem QW {a0 a1 w K} : aH (uz a0 a1 w K)
 (bK (Value.int .i64 a0) = true ∧
 Al w (.cells ⟨[(Value.int .i64 a0)]⟩ 3) fun a4 w3 => bK (Value.int .i64 a1) = true ∧
 Al w3 (.cells ⟨[(Value.int .i64 a1)]⟩ 3) fun a6 w5 => K (Value.func (.func 257) #[] #[(Value.pointer (some a6)), (Value.pointer (some a4))]) w5) := okF cZ Tryz.func210 .leaf (by kernel_rfl)
theorem Eb {a0 a1 a2 w K} : aH (gU a0 a1 a2 w K)
 (Pt a0 fun a4 => Ld (.int .i64) w (a4.add 4) fun x5 => Pt a1 fun a6 => St w (a6.add 7) (Value.int .i64 (IntKind.i64.wrap (x5 + a2))) fun w7 => Pt a0 fun a8 => Ld .ptr w7.drew (a8.add 1) fun x9 => Pt a1 fun a10 => Ld (.int .i64) w7.drew (a10.add 8) fun x11 => Pt a1 fun a12 => Ld (.int .i64) w7.drew (a12.add 7) fun x13 => g_ x9 x11 (if (1099511627776 : Int) < x13 then 1099511627776 else x13) w7.drew fun r14 w15 => K w15) := okF cZ Tryz.func211 .leaf (by kernel_rfl)
theorem Ns {a0 w K} : aH (qj a0 w K)
 ((bif (a0 == 0) then
 K 0 w
 else
 (bif (a0 == 10) then
 K 8 w
 else
 (bif (a0 == 7) then
 K 4 w
 else
 (bif (a0 == 9) then
 K 11 w
 else
 K 3 w))))) := okF cZ Tryz.func212 .leaf (by kernel_rfl)
theorem kQ {a0 a1 w K} : aH (aY a0 a1 w K)
 (bH a0 a1 w fun r3 w4 => K (decide (r3 >= 0)) w4) := okF cZ Tryz.func213 .leaf (by kernel_rfl)
theorem P8 {A0 A1 w K} : aH (RP A0 A1 w K)
 (Al w (.cells ⟨[(Value.int .i64 A0), (Value.int .i64 A1)]⟩ 233) fun a3 w2 => Ld (.int .i64) w2 a3 fun x4 => Ld (.int .i64) w2 (a3.add 1) fun x5 => vT x4 x5 w2 fun r6 w7 => K (!r6) w7) := okF cZ Tryz.func214 .leaf (by kernel_rfl)
theorem Ar {A0 A1 A2 f0 w K} : aH (uD A0 A1 A2 f0 w K)
 (Al w (.cells ⟨[(Value.int .i64 A0), (Value.int .i64 A1), (Value.int .i64 A2)]⟩ 237) fun a3 w2 => Ld (.int .i64) w2 a3 fun x4 => Ld (.int .i64) w2 f0 fun x5 => K (x4 == x5) w2) := okF cZ Tryz.func215 .leaf (by kernel_rfl)
theorem xq {a0 a1 w K} : aH (eG a0 a1 w K)
 ((bif ((a0.len : Int) != (a1.len : Int)) then
 K false w
 else
 cu (S := Int × Unit) (fun s3 w4 next5 => (bif (decide (s3.1 < (a0.len : Int))) then
 bM a0 1 s3.1 fun a6 => Ld (.int .u8) w4.drew a6 fun x7 => bM a1 1 s3.1 fun a8 => Ld (.int .u8) w4.drew a8 fun x9 => (bif (x7 != x9) then
 K false w4.drew
 else
 next5 ((IntKind.i64.wrap (s3.1 + 1)), ()) w4.drew)
 else
 K true w4)) (0, ()) w)) := okF cZ Tryz.func216 (.seq .leaf (.seq .leaf (.seq (.seq .leaf (.blk (.loop [(13, (.int .i64))] .leaf))) .leaf))) (by kernel_rfl)
theorem RN {a0 w K} : aH (sZ a0 w K)
 (let J2 : Bool -> Prop := fun j3 => (K j3 w)
 (bif (decide (a0 >= 1)) then
 J2 (decide (a0 <= 4))
 else
 J2 false)) := okF cZ Tryz.func217 .leaf (by kernel_rfl)
theorem TJ {a0 a1 a2 w K} : aH (bf a0 a1 a2 w K)
 (let J4 : Bool -> Prop := fun j5 => (K j5 w)
 (bif (decide (a0 >= a1)) then
 J4 (decide (a0 <= a2))
 else
 J4 false)) := okF cZ Tryz.func218 .leaf (by kernel_rfl)
theorem NW {A0 A1 A2 A3 A4 A5 A6 A7 A8 A9 A10 A11 A12 A13 A14 A15 w K} : aH (nS A0 A1 A2 A3 A4 A5 A6 A7 A8 A9 A10 A11 A12 A13 A14 A15 w K)
 (Al w (.cells ⟨(dF A0 A1 A2 A3 A4 A5 A6 A7 A8 A9 A10 A11 A12 A13 A14 A15)⟩ 28) fun a3 w2 => let J4 : Bool -> Prop := fun j5 => (K j5 w2)
 ku w2 a3 fun x6 x7 x8 x9 x10 x11 x12 x13 x14 x15 x16 x17 x18 x19 x20 x21 => (bif (!((x6 == 0) && ((x7 == 0) && ((x8 == 0) && ((x9 == 0) && ((x10 == 0) && ((x11 == 0) && ((x12 == 0) && ((x13 == 0) && ((x14 == 0) && ((x15 == 0) && ((x16 == 0) && ((x17 == 0) && ((x18 == 0) && ((x19 == 0) && ((x20 == 0) && ((x21 == 0) && true))))))))))))))))) then
 (0 : Int) <= 0 ∧ 0 < (16 : Int) ∧
 Ld (.int .u8) w2 (a3.add (Int.toNat 0 * 1)) fun x22 => J4 (x22 != 255)
 else
 J4 false)) := okF cZ Tryz.func219 .leaf (by kernel_rfl)
theorem JV {A0 A1 A2 A3 A4 A5 A6 A7 A8 A9 A10 A11 A12 A13 A14 A15 A16 A17 A18 A19 A20 A21 A22 A23 A24 A25 A26 A27 A28 A29 A30 A31 A32 A33 A34 A35 B0 B1 B2 B3 B4 B5 B6 w K} : aH (mY A0 A1 A2 A3 A4 A5 A6 A7 A8 A9 A10 A11 A12 A13 A14 A15 A16 A17 A18 A19 A20 A21 A22 A23 A24 A25 A26 A27 A28 A29 A30 A31 A32 A33 A34 A35 B0 B1 B2 B3 B4 B5 B6 w K)
 (Al w (.cells ⟨(fG A0 A1 A2 A3 A4 A5 A6 A7 A8 A9 A10 A11 A12 A13 A14 A15 A16 A17 A18 A19 A20 A21 A22 A23 A24 A25 A26 A27 A28 A29 A30 A31 A32 A33 A34 A35)⟩ 33) fun a4 w3 => Al w3 (.cells ⟨[(Value.int .i64 B0), (Value.int .i64 B1), (Value.int .i64 B2), (Value.int .i64 B3), (Value.int .i64 B4), (Value.int .i64 B5), (Value.int .i64 B6)]⟩ 105) fun a6 w5 => let J7 : Bool -> Prop := fun j8 => (let J9 : Bool -> World -> Prop := fun j10 w11 => (let J12 : Bool -> World -> Prop := fun j13 w14 => (K j13 w14)
 (bif j8 then
 (bif j10 then
 Ld (.int .i64) w11 (a6.add 4) fun x15 => Ld (.int .i64) w11 (a6.add 1) fun x16 => (bif (x15 == x16) then
 Ld (.int .i64) w11 a6 fun x17 => Ld .slice w11 (a4.add 16) fun x18 => bf x17 0 (IntKind.i64.wrap ((x18.len : Int) - 1)) w11 fun r19 w20 => (bif r19 then
 Ld (.int .i64) w20 (a6.add 2) fun x21 => nR x21 w20 fun r22 w23 => (bif r22 then
 uT w23 a4 fun x24 x25 x26 x27 x28 x29 x30 x31 x32 x33 x34 x35 x36 x37 x38 x39 x40 x41 x42 x43 x44 x45 x46 x47 x48 x49 x50 x51 x52 x53 x54 x55 x56 x57 x58 x59 => Ld (.int .i64) w23 ((a6.add 4).add 1) fun x60 => rH x24 x25 x26 x27 x28 x29 x30 x31 x32 x33 x34 x35 x36 x37 x38 x39 x40 x41 x42 x43 x44 x45 x46 x47 x48 x49 x50 x51 x52 x53 x54 x55 x56 x57 x58 x59 x60 w23 fun r61 w62 => J12 r61 w62
 else
 J12 false w23)
 else
 J12 false w20)
 else
 J12 false w11)
 else
 J12 false w11)
 else
 J12 false w11))
 Ld (.int .i64) w5 (a6.add 3) fun x63 => bf x63 0 65535 w5 fun r64 w65 => (bif r64 then
 Ld (.int .i64) w65 ((a6.add 4).add 2) fun x66 => bf x66 0 65535 w65 fun r67 w68 => J9 r67 w68
 else
 J9 false w65))
 Ld (.int .i64) w5 (a6.add 1) fun x69 => (bif (x69 == 1) then
 J7 true
 else
 Ld (.int .i64) w5 (a6.add 1) fun x70 => (bif (x70 == 6) then
 J7 true
 else
 Ld (.int .i64) w5 (a6.add 1) fun x71 => J7 (x71 == 17)))) := okF cZ Tryz.func220 .leaf (by kernel_rfl)
theorem lH {a0 a1 a2 a3 w K} : aH (bg a0 a1 a2 a3 w K)
 (cu (S := Int × Unit) (fun s5 w6 next7 => (bif (decide (s5.1 < a2)) then
 cu (S := Int × Unit) (fun s8 w9 next10 => let J11 : Bool -> World -> Prop := fun j12 w13 => ((bif j12 then
 bM a0 1 (IntKind.i64.wrap (s8.1 - 1)) fun a14 => Ld .ptr w13.drew a14 fun x15 => bM a0 1 s8.1 fun a16 => Ld .ptr w13.drew a16 fun x17 => bM a0 1 s8.1 fun a18 => St w13.drew a18 (Value.pointer x15) fun w19 => bM a0 1 (IntKind.i64.wrap (s8.1 - 1)) fun a20 => St w19 a20 (Value.pointer x17) fun w21 => next10 ((IntKind.i64.wrap (s8.1 - 1)), ()) w21
 else
 next7 ((IntKind.i64.wrap (s5.1 + 1)), ()) w13))
 (bif (decide (s8.1 > a1)) then
 bM a0 1 s8.1 fun a22 => Ld .ptr w9.drew a22 fun x23 => bM a0 1 (IntKind.i64.wrap (s8.1 - 1)) fun a24 => Ld .ptr w9.drew a24 fun x25 => fM Tryz.prog [.one (.int .i64)] a3 [(Value.pointer x23), (Value.pointer x25)] w9.drew fun r26 w27 => ∃ r28 : Int, r26 = (Value.int .i64 r28) ∧
 J11 (decide (r28 < 0)) w27
 else
 J11 false w9.drew)) (s5.1, ()) w6
 else
 K w6)) ((IntKind.i64.wrap (a1 + 1)), ()) w) := okF cZ Tryz.func221 (.seq .leaf (.blk (.loop [(8, (.int .i64))] (.seq .leaf (.seq (.blk (.seq .leaf (.blk (.loop [(9, (.int .i64))] .leaf)))) .leaf))))) (by kernel_rfl)
theorem FB {a0 w K} : aH (jF a0 w K)
 (let J2 : Int -> Int -> Prop := fun j3 j4 => (let J5 : Int -> Int -> Prop := fun j6 j7 => (let J8 : Int -> Int -> Prop := fun j9 j10 => (XZ (bs [0, 1, 2, 2, 3, 3, 3, 3, 4, 4, 4, 4, 4, 4, 4, 4, 5, 5, 5, 5, 5, 5, 5, 5, 5, 5, 5, 5, 5, 5, 5, 5, 6, 6, 6, 6, 6, 6, 6, 6, 6, 6, 6, 6, 6, 6, 6, 6, 6, 6, 6, 6, 6, 6, 6, 6, 6, 6, 6, 6, 6, 6, 6, 6, 7, 7, 7, 7, 7, 7, 7, 7, 7, 7, 7, 7, 7, 7, 7, 7, 7, 7, 7, 7, 7, 7, 7, 7, 7, 7, 7, 7, 7, 7, 7, 7, 7, 7, 7, 7, 7, 7, 7, 7, 7, 7, 7, 7, 7, 7, 7, 7, 7, 7, 7, 7, 7, 7, 7, 7, 7, 7, 7, 7, 7, 7, 7, 7, 8, 8, 8, 8, 8, 8, 8, 8, 8, 8, 8, 8, 8, 8, 8, 8, 8, 8, 8, 8, 8, 8, 8, 8, 8, 8, 8, 8, 8, 8, 8, 8, 8, 8, 8, 8, 8, 8, 8, 8, 8, 8, 8, 8, 8, 8, 8, 8, 8, 8, 8, 8, 8, 8, 8, 8, 8, 8, 8, 8, 8, 8, 8, 8, 8, 8, 8, 8, 8, 8, 8, 8, 8, 8, 8, 8, 8, 8, 8, 8, 8, 8, 8, 8, 8, 8, 8, 8, 8, 8, 8, 8, 8, 8, 8, 8, 8, 8, 8, 8, 8, 8, 8, 8, 8, 8, 8, 8, 8, 8, 8, 8, 8, 8, 8, 8, 8, 8, 8, 8, 8, 8, 8, 8, 8, 8, 8, 8]) (IntKind.u8.wrap j9) fun x11 => K (IntKind.i64.wrap (j10 + (IntKind.i64.wrap x11))) w)
 (bif (decide (j6 >= 256)) then
 0 <= (8 : Int) ∧
 J8 (gG .u64 j6 8) (IntKind.i64.wrap (j7 + 8))
 else
 J8 j6 j7))
 (bif (decide (j3 >= 65536)) then
 0 <= (16 : Int) ∧
 J5 (gG .u64 j3 16) (IntKind.i64.wrap (j4 + 16))
 else
 J5 j3 j4))
 (bif (decide (a0 >= 4294967296)) then
 0 <= (32 : Int) ∧
 J2 (gG .u64 a0 32) 32
 else
 J2 a0 0)) := okF cZ Tryz.func230 .leaf (by kernel_rfl)
theorem Ib {a0 w K} : aH (jr a0 w K)
 (K (a0 != a0) w) := okF cZ Tryz.func231 .leaf (by kernel_rfl)
theorem Em {a0 w K} : aH (fB a0 w K)
 (let J2 : Bool -> Prop := fun j3 => (K j3 w)
 (bif (!(Option.isNone a0)) then
 Pt a0 fun a4 => Ld .bool w (a4.add 3) fun x5 => J2 x5
 else
 J2 false)) := okF cZ Tryz.func239 .leaf (by kernel_rfl)
theorem wM {a0 a1 w K} : aH (bQ a0 a1 w K)
 (bK (Value.pointer a0) = true ∧
 Al w (.cells ⟨[(Value.pointer a0)]⟩ 200) fun a4 w3 => bK (Value.string a1) = true ∧
 Al w3 (.cells ⟨[(Value.string a1)]⟩ 9) fun a6 w5 => Al w5 (.cells ⟨[(Value.int .i64 0)]⟩ 3) fun a8 w7 => Al w7 (.cells ⟨[(Value.bool false)]⟩ 4) fun a10 w9 => Ld .ptr w9 a4 fun x11 => Pt x11 fun a12 => Ld .slice w9 a12 fun x13 => (bif ((x13.len : Int) == 0) then
 St w9 a8 (Value.int .i64 0) fun w14 => St w14 a10 (Value.bool false) fun w15 => Ld (.int .i64) w15 a8 fun y16 => Ld .bool w15 a10 fun y17 => K y16 y17 w15
 else
 Ld .ptr w9.drew a4 fun x18 => Ld .str w9.drew a6 fun x19 => Ld .ptr w9.drew a4 fun x20 => Pt x20 fun a21 => Ld .slice w9.drew a21 fun x22 => uO x19 (x22.len : Int) w9.drew fun r23 w24 => w24.cell? a4 = some (Value.pointer x18) ∧
 h_ x18 r23 w24 fun r25 w26 => Ep Tryz.prog none [.one (.int .i64)] r25 w26 (fun l27 x28 W29 Kb30 => W29.heap[l27]? = W29.heap[l27]? ∧
 Ld .ptr (aA W29 l27) a4 fun x31 => Pt x31 fun a32 => Ld .slice (aA W29 l27) a32 fun x33 => bM x33 3 x28.1 fun a34 => Ld .str (aA W29 l27) (a34.add 0) fun x35 => Ld (.int .i64) (aA W29 l27) (a34.add 1) fun x36 => Ld .bool (aA W29 l27) (a34.add 2) fun x37 => Al (aA W29 l27) (.cells ⟨[(Value.string (bs [])), (Value.int .i64 0), (Value.bool false)]⟩ 343) fun a39 w38 => iT [(Value.string x35), (Value.int .i64 x36), (Value.bool x37)] w38 a39 0 fun w40 => Ld .bool w40 (a39.add 2) fun x41 => (bif (!x41) then
 St w40 a8 (Value.int .i64 x28.1) fun w42 => St w42 a10 (Value.bool false) fun w43 => Kb30 .ret w43
 else
 Ld .str w40 a39 fun x44 => Ld .str w40 a6 fun x45 => (bif (strEq x44 x45) then
 St w40 a8 (Value.int .i64 x28.1) fun w46 => St w46 a10 (Value.bool true) fun w47 => Kb30 .ret w47
 else
 Kb30 .normal w40)))
 (fun w48 => St w48 a8 (Value.int .i64 0) fun w49 => St w49 a10 (Value.bool false) fun w50 => w50.heap[w26.heap.size]? = some (.deferred (some [])) ∧
 Ld (.int .i64) (w50.putObj w26.heap.size (.deferred none)) a8 fun y51 => Ld .bool (w50.putObj w26.heap.size (.deferred none)) a10 fun y52 => K y51 y52 (w50.putObj w26.heap.size (.deferred none)))
 (fun w53 => w53.heap[w26.heap.size]? = some (.deferred (some [])) ∧
 Ld (.int .i64) (w53.putObj w26.heap.size (.deferred none)) a8 fun y54 => Ld .bool (w53.putObj w26.heap.size (.deferred none)) a10 fun y55 => K y54 y55 (w53.putObj w26.heap.size (.deferred none)))
 [])) := okF cZ Tryz.func240 (.seq .leaf (.seq .leaf (.seq (.seq .leaf (.blk (.rng [.one (.int .i64)] .leaf .leaf))) .leaf))) (by kernel_rfl)
theorem EW {a0 a1 w K} : aH (h_ a0 a1 w K)
 (bK (Value.pointer a0) = true ∧
 Al w (.cells ⟨[(Value.pointer a0)]⟩ 200) fun a4 w3 => bK (Value.int .i64 a1) = true ∧
 Al w3 (.cells ⟨[(Value.int .i64 a1)]⟩ 3) fun a6 w5 => K (Value.func (.func 267) #[] #[(Value.pointer (some a4)), (Value.pointer (some a6))]) w5) := okF cZ Tryz.func241 .leaf (by kernel_rfl)
theorem vC {a0 a1 w K} : aH (dO a0 a1 w K)
 (cu (S := Int × Unit) (fun s3 w4 next5 => (bif (decide (s3.1 < (a0.len : Int))) then
 bM a0 1 s3.1 fun a6 => Ld (.int .i64) w4 a6 fun x7 => fM Tryz.prog [.one .bool] a1 [(Value.int .i64 x7)] w4 fun r8 w9 => ∃ r10 : Bool, r8 = (Value.bool r10) ∧
 (bif r10 then
 K s3.1 w9
 else
 next5 ((IntKind.i64.wrap (s3.1 + 1)), ()) w9)
 else
 K (-1) w4)) (0, ()) w) := okF cZ Tryz.func242 (.seq .leaf (.seq (.seq .leaf (.blk (.loop [(8, (.int .i64))] .leaf))) .leaf)) (by kernel_rfl)
theorem MO {a0 a1 w K} : aH (lN a0 a1 w K)
 (let J3 : Bool -> World -> Prop := fun j4 w5 => (K j4 w5)
 dQ a0 w fun r6 w7 => (bif r6 then
 (bif (decide (a1 >= 0)) then
 Pt a0 fun a8 => Ld .slice w7 a8 fun x9 => (bif (decide (a1 < (x9.len : Int))) then
 Pt a0 fun a10 => Ld .slice w7 a10 fun x11 => bM x11 9 a1 fun a12 => Ld .bool w7 (a12.add 8) fun x13 => J3 x13 w7
 else
 J3 false w7)
 else
 J3 false w7)
 else
 J3 false w7)) := okF cZ Tryz.func243 .leaf (by kernel_rfl)
theorem AA {a0 f0 f1 w K} : aH (CJ a0 f0 f1 w K)
 (Ld .ptr w f0 fun x2 => dZ x2 w fun r3 w4 => (bif (!r3) then
 K w4
 else
 Ld .ptr w4.drew f0 fun x5 => Pt x5 fun a6 => Ld .map w4.drew (a6.add 2) fun x7 => Ld (.int .i64) w4.drew f1 fun x8 => oL Tryz.prog 3 .slice x7 (Value.int .i64 x8) (Value.slice none 0 0) w4.drew fun x9 => dR x9 w4.drew fun r10 w11 => cu (S := Int × Unit) (fun s12 w13 next14 => (bif (decide (s12.1 < (r10.len : Int))) then
 bM r10 1 s12.1 fun a15 => Ld (.int .i64) w13 a15 fun x16 => Ld .ptr w13 f0 fun x17 => Pt x17 fun a18 => Ld .slice w13 a18 fun x19 => bM x19 6 x16 fun a20 => Ld (.int .i64) w13 (a20.add 0) fun x21 => Ld (.int .i64) w13 (a20.add 1) fun x22 => Ld (.int .i64) w13 (a20.add 2) fun x23 => Ld (.int .i64) w13 (a20.add 3) fun x24 => Ld (.int .i64) w13 (a20.add 4) fun x25 => fM Tryz.prog [.one .bool] a0 [(Value.int .i64 x16), (Value.agg ⟨[(Value.int .i64 x21), (Value.int .i64 x22), (Value.int .i64 x23), (Value.int .i64 x24), (Value.int .i64 x25)]⟩)] w13 fun r26 w27 => ∃ r28 : Bool, r26 = (Value.bool r28) ∧
 (bif (!r28) then
 K w27
 else
 next14 ((IntKind.i64.wrap (s12.1 + 1)), ()) w27)
 else
 K w13)) (0, ()) w11)) := okF cZ Tryz.func244 (.seq .leaf (.seq .leaf (.blk (.loop [(17, (.int .i64))] .leaf)))) (by kernel_rfl)
theorem JJ {a0 w K} : aH (mZ a0 w K)
 (Al w (.cells ⟨[(Value.int .i64 1), (Value.int .i64 6), (Value.int .i64 17)]⟩ 3) fun a3 w2 => bJ ⟨(some a3), 3, 3⟩ a0 w2 fun r4 w5 => K r4 w5) := okF cZ Tryz.func245 .leaf (by kernel_rfl)
theorem pG {a0 a1 w K} : aH (bV a0 a1 w K)
 (cu (S := Int × Unit) (fun s3 w4 next5 => (bif (decide (s3.1 < (a0.len : Int))) then
 bM a0 16 s3.1 fun a6 => ku w4 a6 fun x7 x8 x9 x10 x11 x12 x13 x14 x15 x16 x17 x18 x19 x20 x21 x22 => fM Tryz.prog [.one .bool] a1 [(Value.agg ⟨dF x7 x8 x9 x10 x11 x12 x13 x14 x15 x16 x17 x18 x19 x20 x21 x22⟩)] w4 fun r23 w24 => ∃ r25 : Bool, r23 = (Value.bool r25) ∧
 (bif r25 then
 K s3.1 w24
 else
 next5 ((IntKind.i64.wrap (s3.1 + 1)), ()) w24)
 else
 K (-1) w4)) (0, ()) w) := okF cZ Tryz.func246 (.seq .leaf (.seq (.seq .leaf (.blk (.loop [(8, (.int .i64))] .leaf))) .leaf)) (by kernel_rfl)
theorem kX {a0 a1 w K} : aH (bD a0 a1 w K)
 (cu (S := Int × Unit) (fun s3 w4 next5 => (bif (decide (s3.1 < (a0.len : Int))) then
 bM a0 7 s3.1 fun a6 => Ld (.int .i64) w4 (a6.add 0) fun x7 => Ld (.int .i64) w4 (a6.add 1) fun x8 => Ld (.int .i64) w4 (a6.add 2) fun x9 => Ld (.int .i64) w4 (a6.add 3) fun x10 => Ld (.int .i64) w4 (a6.add 4) fun x11 => Ld (.int .i64) w4 (a6.add 5) fun x12 => Ld (.int .i64) w4 (a6.add 6) fun x13 => fM Tryz.prog [.one .bool] a1 [(Value.agg ⟨[(Value.int .i64 x7), (Value.int .i64 x8), (Value.int .i64 x9), (Value.int .i64 x10), (Value.int .i64 x11), (Value.int .i64 x12), (Value.int .i64 x13)]⟩)] w4 fun r14 w15 => ∃ r16 : Bool, r14 = (Value.bool r16) ∧
 (bif r16 then
 K s3.1 w15
 else
 next5 ((IntKind.i64.wrap (s3.1 + 1)), ()) w15)
 else
 K (-1) w4)) (0, ()) w) := okF cZ Tryz.func247 (.seq .leaf (.seq (.seq .leaf (.blk (.loop [(8, (.int .i64))] .leaf))) .leaf)) (by kernel_rfl)
theorem qU {a0 f0 f1 w K} : aH (rQ a0 f0 f1 w K)
 (Ld .slice w f0 fun x2 => cu (S := Int × Unit) (fun s3 w4 next5 => (bif (decide (s3.1 < (x2.len : Int))) then
 bM x2 16 s3.1 fun a6 => ku w4 a6 fun x7 x8 x9 x10 x11 x12 x13 x14 x15 x16 x17 x18 x19 x20 x21 x22 => Al w4 (.cells ⟨(dF 0 0 0 0 0 0 0 0 0 0 0 0 0 0 0 0)⟩ 28) fun a24 w23 => iT (dF x7 x8 x9 x10 x11 x12 x13 x14 x15 x16 x17 x18 x19 x20 x21 x22) w23 a24 0 fun w25 => Ld .any w25 f1 fun x26 => ku w25 a24 fun x27 x28 x29 x30 x31 x32 x33 x34 x35 x36 x37 x38 x39 x40 x41 x42 => fM Tryz.prog [.agg La] x26 [(Value.agg ⟨dF x27 x28 x29 x30 x31 x32 x33 x34 x35 x36 x37 x38 x39 x40 x41 x42⟩)] w25 fun r43 w44 => ∃ r45 : Int, ∃ r46 : Int, ∃ r47 : Int, ∃ r48 : Int, ∃ r49 : Int, ∃ r50 : Int, ∃ r51 : Int, ∃ r52 : Int, ∃ r53 : Int, ∃ r54 : Int, ∃ r55 : Int, ∃ r56 : Int, ∃ r57 : Int, ∃ r58 : Int, ∃ r59 : Int, ∃ r60 : Int, r43 = (Value.agg ⟨dF r45 r46 r47 r48 r49 r50 r51 r52 r53 r54 r55 r56 r57 r58 r59 r60⟩) ∧
 fM Tryz.prog [.one .bool] a0 [(Value.agg ⟨dF r45 r46 r47 r48 r49 r50 r51 r52 r53 r54 r55 r56 r57 r58 r59 r60⟩)] w44 fun r61 w62 => ∃ r63 : Bool, r61 = (Value.bool r63) ∧
 (bif (!r63) then
 K w62
 else
 next5 ((IntKind.i64.wrap (s3.1 + 1)), ()) w62)
 else
 K w4)) (0, ()) w) := okF cZ Tryz.func248 (.seq .leaf (.blk (.loop [(8, (.int .i64))] .leaf))) (by kernel_rfl)
theorem yc {a0 f0 f1 w K} : aH (zl a0 f0 f1 w K)
 (Ld .slice w f0 fun x2 => cu (S := Int × Unit) (fun s3 w4 next5 => (bif (decide (s3.1 < (x2.len : Int))) then
 bM x2 1 s3.1 fun a6 => Ld (.int .i64) w4 a6 fun x7 => Ld .any w4 f1 fun x8 => fM Tryz.prog [.one (.int .i64)] x8 [(Value.int .i64 x7)] w4 fun r9 w10 => ∃ r11 : Int, r9 = (Value.int .i64 r11) ∧
 fM Tryz.prog [.one .bool] a0 [(Value.int .i64 r11)] w10 fun r12 w13 => ∃ r14 : Bool, r12 = (Value.bool r14) ∧
 (bif (!r14) then
 K w13
 else
 next5 ((IntKind.i64.wrap (s3.1 + 1)), ()) w13)
 else
 K w4)) (0, ()) w) := okF cZ Tryz.func249 (.seq .leaf (.blk (.loop [(8, (.int .i64))] .leaf))) (by kernel_rfl)
theorem nX {a0 f0 f1 w K} : aH (oP a0 f0 f1 w K)
 (Ld .slice w f0 fun x2 => cu (S := Int × Unit) (fun s3 w4 next5 => (bif (decide (s3.1 < (x2.len : Int))) then
 bM x2 7 s3.1 fun a6 => Ld (.int .i64) w4 (a6.add 0) fun x7 => Ld (.int .i64) w4 (a6.add 1) fun x8 => Ld (.int .i64) w4 (a6.add 2) fun x9 => Ld (.int .i64) w4 (a6.add 3) fun x10 => Ld (.int .i64) w4 (a6.add 4) fun x11 => Ld (.int .i64) w4 (a6.add 5) fun x12 => Ld (.int .i64) w4 (a6.add 6) fun x13 => Al w4 (.cells ⟨[(Value.int .i64 0), (Value.int .i64 0), (Value.int .i64 0), (Value.int .i64 0), (Value.int .i64 0), (Value.int .i64 0), (Value.int .i64 0)]⟩ 105) fun a15 w14 => iT [(Value.int .i64 x7), (Value.int .i64 x8), (Value.int .i64 x9), (Value.int .i64 x10), (Value.int .i64 x11), (Value.int .i64 x12), (Value.int .i64 x13)] w14 a15 0 fun w16 => Ld .any w16 f1 fun x17 => Ld (.int .i64) w16 (a15.add 0) fun x18 => Ld (.int .i64) w16 (a15.add 1) fun x19 => Ld (.int .i64) w16 (a15.add 2) fun x20 => Ld (.int .i64) w16 (a15.add 3) fun x21 => Ld (.int .i64) w16 (a15.add 4) fun x22 => Ld (.int .i64) w16 (a15.add 5) fun x23 => Ld (.int .i64) w16 (a15.add 6) fun x24 => fM Tryz.prog [.agg [(.int .i64), (.int .i64), (.int .i64), (.int .i64)]] x17 [(Value.agg ⟨[(Value.int .i64 x18), (Value.int .i64 x19), (Value.int .i64 x20), (Value.int .i64 x21), (Value.int .i64 x22), (Value.int .i64 x23), (Value.int .i64 x24)]⟩)] w16 fun r25 w26 => ∃ r27 : Int, ∃ r28 : Int, ∃ r29 : Int, ∃ r30 : Int, r25 = (Value.agg ⟨[(Value.int .i64 r27), (Value.int .i64 r28), (Value.int .i64 r29), (Value.int .i64 r30)]⟩) ∧
 fM Tryz.prog [.one .bool] a0 [(Value.agg ⟨[(Value.int .i64 r27), (Value.int .i64 r28), (Value.int .i64 r29), (Value.int .i64 r30)]⟩)] w26 fun r31 w32 => ∃ r33 : Bool, r31 = (Value.bool r33) ∧
 (bif (!r33) then
 K w32
 else
 next5 ((IntKind.i64.wrap (s3.1 + 1)), ()) w32)
 else
 K w4)) (0, ()) w) := okF cZ Tryz.func250 (.seq .leaf (.blk (.loop [(8, (.int .i64))] .leaf))) (by kernel_rfl)
theorem nY {a0 f0 f1 w K} : aH (oN a0 f0 f1 w K)
 (Ld .slice w f0 fun x2 => cu (S := Int × Unit) (fun s3 w4 next5 => (bif (decide (s3.1 < (x2.len : Int))) then
 bM x2 7 s3.1 fun a6 => Ld (.int .i64) w4 (a6.add 0) fun x7 => Ld (.int .i64) w4 (a6.add 1) fun x8 => Ld (.int .i64) w4 (a6.add 2) fun x9 => Ld (.int .i64) w4 (a6.add 3) fun x10 => Ld (.int .i64) w4 (a6.add 4) fun x11 => Ld (.int .i64) w4 (a6.add 5) fun x12 => Ld (.int .i64) w4 (a6.add 6) fun x13 => Al w4 (.cells ⟨[(Value.int .i64 0), (Value.int .i64 0), (Value.int .i64 0), (Value.int .i64 0), (Value.int .i64 0), (Value.int .i64 0), (Value.int .i64 0)]⟩ 105) fun a15 w14 => iT [(Value.int .i64 x7), (Value.int .i64 x8), (Value.int .i64 x9), (Value.int .i64 x10), (Value.int .i64 x11), (Value.int .i64 x12), (Value.int .i64 x13)] w14 a15 0 fun w16 => Ld .any w16 f1 fun x17 => Ld (.int .i64) w16 (a15.add 0) fun x18 => Ld (.int .i64) w16 (a15.add 1) fun x19 => Ld (.int .i64) w16 (a15.add 2) fun x20 => Ld (.int .i64) w16 (a15.add 3) fun x21 => Ld (.int .i64) w16 (a15.add 4) fun x22 => Ld (.int .i64) w16 (a15.add 5) fun x23 => Ld (.int .i64) w16 (a15.add 6) fun x24 => fM Tryz.prog [.agg [(.int .i64), (.int .i64), (.int .i64)]] x17 [(Value.agg ⟨[(Value.int .i64 x18), (Value.int .i64 x19), (Value.int .i64 x20), (Value.int .i64 x21), (Value.int .i64 x22), (Value.int .i64 x23), (Value.int .i64 x24)]⟩)] w16 fun r25 w26 => ∃ r27 : Int, ∃ r28 : Int, ∃ r29 : Int, r25 = (Value.agg ⟨[(Value.int .i64 r27), (Value.int .i64 r28), (Value.int .i64 r29)]⟩) ∧
 fM Tryz.prog [.one .bool] a0 [(Value.agg ⟨[(Value.int .i64 r27), (Value.int .i64 r28), (Value.int .i64 r29)]⟩)] w26 fun r30 w31 => ∃ r32 : Bool, r30 = (Value.bool r32) ∧
 (bif (!r32) then
 K w31
 else
 next5 ((IntKind.i64.wrap (s3.1 + 1)), ()) w31)
 else
 K w4)) (0, ()) w) := okF cZ Tryz.func251 (.seq .leaf (.blk (.loop [(8, (.int .i64))] .leaf))) (by kernel_rfl)
theorem Gx {A0 A1 a1 w K} : aH (jV A0 A1 a1 w K)
 (Al w (.cells ⟨[(Value.int .i64 A0), (Value.int .i64 A1)]⟩ 300) fun a4 w3 => Ld (.int .i64) w3 (a4.add 1) fun x5 => let J6 : Bool -> World -> Prop := fun j7 w8 => (K j7 w8)
 nV a1 w3.drew fun r9 w10 => (bif r9 then
 0 <= (IntKind.i64.wrap (32 - x5)) ∧
 Ld (.int .i64) w10 a4 fun x11 => 0 <= (IntKind.i64.wrap (32 - x5)) ∧
 J6 ((gG .i64 a1 (IntKind.i64.wrap (32 - x5))) == (gG .i64 x11 (IntKind.i64.wrap (32 - x5)))) w10
 else
 J6 false w10)) := okF cZ Tryz.func252 .leaf (by kernel_rfl)
theorem Tn {a0 w K} : aH (sK a0 w K)
 (cu (S := ah × Int × Unit) (fun s2 w3 next4 => (bif (decide (s2.2.1 < (a0.len : Int))) then
 bM a0 1 s2.2.1 fun a5 => Ld (.int .i64) w3 a5 fun x6 => 0 <= (32 : Int) ∧
 uh s2.1 (sW .i64 (gG .i64 x6 32) 4294967295) 4 w3 fun r7 w8 => uh r7 (sW .i64 x6 4294967295) 4 w8 fun r9 w10 => next4 (r9, (IntKind.i64.wrap (s2.2.1 + 1)), ()) w10
 else
 Gy w3 s2.1 fun b11 => K b11 w3)) (⟨none, 0, 0⟩, 0, ()) w) := okF cZ Tryz.func253 (.seq .leaf (.seq .leaf (.seq (.seq .leaf (.blk (.loop [(3, .slice), (8, (.int .i64))] .leaf))) .leaf))) (by kernel_rfl)
theorem Fq {a0 w K} : aH (jG a0 w K)
 (Pt a0 fun a2 => Ld (.int .i64) w.drew (a2.add 1) fun x3 => Pt a0 fun a4 => Ld .slice w.drew a4 fun x5 => (bif (decide ((IntKind.i64.wrap (2 * (IntKind.i64.wrap (x3 + 1)))) <= (x5.len : Int))) then
 K w.drew
 else
 Pt a0 fun a6 => Ld .slice w.drew a6 fun x7 => Ro 343 3 32 [(Value.string (bs [])), (Value.int .i64 0), (Value.bool false)] (if (IntKind.i64.wrap (2 * (x7.len : Int))) > 8 then (IntKind.i64.wrap (2 * (x7.len : Int))) else 8) (if (IntKind.i64.wrap (2 * (x7.len : Int))) > 8 then (IntKind.i64.wrap (2 * (x7.len : Int))) else 8) w.drew fun s8 w9 => Pt a0 fun a10 => St w9 a10 (Value.slice s8.a s8.len s8.cap) fun w11 => cu (S := Int × Unit) (fun s12 w13 next14 => (bif (decide (s12.1 < (x7.len : Int))) then
 let J15 : World -> Prop := fun w16 => (next14 ((IntKind.i64.wrap (s12.1 + 1)), ()) w16)
 bM x7 3 s12.1 fun a17 => Ld .str w13 (a17.add 0) fun x18 => Ld (.int .i64) w13 (a17.add 1) fun x19 => Ld .bool w13 (a17.add 2) fun x20 => Al w13 (.cells ⟨[(Value.string (bs [])), (Value.int .i64 0), (Value.bool false)]⟩ 343) fun a22 w21 => iT [(Value.string x18), (Value.int .i64 x19), (Value.bool x20)] w21 a22 0 fun w23 => Ld .bool w23 (a22.add 2) fun x24 => (bif x24 then
 Ld .str w23 a22 fun x25 => bQ a0 x25 w23 fun r26 r27 w28 => Pt a0 fun a29 => Ld .slice w28.drew a29 fun x30 => Ld .str w28.drew (a22.add 0) fun x31 => Ld (.int .i64) w28.drew (a22.add 1) fun x32 => Ld .bool w28.drew (a22.add 2) fun x33 => bM x30 3 r26 fun a34 => iT [(Value.string x31), (Value.int .i64 x32), (Value.bool x33)] w28.drew a34 0 fun w35 => J15 w35
 else
 J15 w23)
 else
 K w13)) (0, ()) w11)) := okF cZ Tryz.func254 (.seq .leaf (.seq .leaf (.seq .leaf (.seq .leaf (.blk (.loop [(33, (.int .i64))] .leaf)))))) (by kernel_rfl)
theorem kD {a0 a1 w K} : aH (aW a0 a1 w K)
 (cu (S := Int × Unit) (fun s3 w4 next5 => (bif (decide (s3.1 < (a0.len : Int))) then
 bM a0 3 s3.1 fun a6 => Ld (.int .i64) w4 (a6.add 0) fun x7 => Ld (.int .i64) w4 (a6.add 1) fun x8 => Ld (.int .i64) w4 (a6.add 2) fun x9 => fM Tryz.prog [.one .bool] a1 [(Value.agg ⟨[(Value.int .i64 x7), (Value.int .i64 x8), (Value.int .i64 x9)]⟩)] w4 fun r10 w11 => ∃ r12 : Bool, r10 = (Value.bool r12) ∧
 (bif r12 then
 K s3.1 w11
 else
 next5 ((IntKind.i64.wrap (s3.1 + 1)), ()) w11)
 else
 K (-1) w4)) (0, ()) w) := okF cZ Tryz.func255 (.seq .leaf (.seq (.seq .leaf (.blk (.loop [(8, (.int .i64))] .leaf))) .leaf)) (by kernel_rfl)
theorem oO {a0 a1 a2 a3 a4 w K} : aH (aU a0 a1 a2 a3 a4 w K)
 (cu (S := Int × Int × Int × Bool × Bool × Unit) (fun s6 w7 next8 => (bif (decide ((IntKind.i64.wrap (s6.2.1 - s6.1)) <= 12)) then
 aX a0 s6.1 s6.2.1 a4 w7 fun w9 => K w9
 else
 (bif (s6.2.2.1 == 0) then
 oH a0 s6.1 s6.2.1 a4 w7 fun w10 => K w10
 else
 let J11 : Int -> World -> Prop := fun j12 w13 => (mD a0 s6.1 s6.2.1 a4 w13 fun r14 r15 w16 => let J17 : Int -> Int -> World -> Prop := fun j18 j19 w20 => (let J21 : World -> Prop := fun w22 => (let J23 : Bool -> World -> Prop := fun j24 w25 => ((bif j24 then
 kU a0 s6.1 s6.2.1 j18 a4 w25 fun r26 w27 => next8 (r26, s6.2.1, j12, s6.2.2.2.1, s6.2.2.2.2.1, ()) w27
 else
 nO a0 s6.1 s6.2.1 j18 a4 w25 fun r28 r29 w30 => (8 : Int) ≠ 0 ∧
 (bif (decide ((IntKind.i64.wrap (r28 - s6.1)) < (IntKind.i64.wrap (s6.2.1 - r28)))) then
 aU a0 s6.1 r28 j12 a4 w30 fun w31 => next8 ((IntKind.i64.wrap (r28 + 1)), s6.2.1, j12, (decide ((IntKind.i64.wrap (r28 - s6.1)) >= (IntKind.i64.wrap (Int.tdiv (IntKind.i64.wrap (s6.2.1 - s6.1)) 8)))), r29, ()) w31
 else
 aU a0 (IntKind.i64.wrap (r28 + 1)) s6.2.1 j12 a4 w30 fun w32 => next8 (s6.1, r28, j12, (decide ((IntKind.i64.wrap (s6.2.1 - r28)) >= (IntKind.i64.wrap (Int.tdiv (IntKind.i64.wrap (s6.2.1 - s6.1)) 8)))), r29, ()) w32)))
 (bif (decide (s6.1 > 0)) then
 bM a0 3 (IntKind.i64.wrap (s6.1 - 1)) fun a33 => Ld (.int .i64) w22.drew (a33.add 0) fun x34 => Ld (.int .i64) w22.drew (a33.add 1) fun x35 => Ld (.int .i64) w22.drew (a33.add 2) fun x36 => bM a0 3 j18 fun a37 => Ld (.int .i64) w22.drew (a37.add 0) fun x38 => Ld (.int .i64) w22.drew (a37.add 1) fun x39 => Ld (.int .i64) w22.drew (a37.add 2) fun x40 => fM Tryz.prog [.one (.int .i64)] a4 [(Value.agg ⟨[(Value.int .i64 x34), (Value.int .i64 x35), (Value.int .i64 x36)]⟩), (Value.agg ⟨[(Value.int .i64 x38), (Value.int .i64 x39), (Value.int .i64 x40)]⟩)] w22.drew fun r41 w42 => ∃ r43 : Int, r41 = (Value.int .i64 r43) ∧
 J23 (!(decide (r43 < 0))) w42
 else
 J23 false w22.drew))
 let J44 : Bool -> Prop := fun j45 => ((bif j45 then
 jm a0 s6.1 s6.2.1 a4 w20 fun r46 w47 => (bif r46 then
 K w47
 else
 J21 w47)
 else
 J21 w20))
 (bif s6.2.2.2.1 then
 (bif s6.2.2.2.2.1 then
 J44 (j19 == 1)
 else
 J44 false)
 else
 J44 false))
 (bif (r15 == 2) then
 lV a0 s6.1 s6.2.1 a4 w16 fun w48 => J17 (IntKind.i64.wrap ((IntKind.i64.wrap (s6.2.1 - 1)) - (IntKind.i64.wrap (r14 - s6.1)))) 1 w48
 else
 J17 r14 r15 w16))
 (bif (!s6.2.2.2.1) then
 lu a0 s6.1 s6.2.1 a4 w7 fun w49 => J11 (IntKind.i64.wrap (s6.2.2.1 - 1)) w49
 else
 J11 s6.2.2.1 w7)))) (a1, a2, a3, true, true, ()) w) := okF cZ Tryz.func256 (.seq .leaf (.seq .leaf (.blk (.loop [(1, (.int .i64)), (2, (.int .i64)), (3, (.int .i64)), (10, .bool), (11, .bool)] .leaf)))) (by kernel_rfl)
theorem Nv {a0 f0 f1 w K} : aH (Og a0 f0 f1 w K)
 (Ld (.int .i64) w f0 fun x2 => cu (S := Int × Unit) (fun s3 w4 next5 => (bif (decide (s3.1 >= 0)) then
 Ld (.int .i64) w4 f1 fun x6 => 0 <= (IntKind.i64.wrap (8 * s3.1)) ∧
 fM Tryz.prog [.one .bool] a0 [(Value.int .u8 (IntKind.u8.wrap (gG .i64 x6 (IntKind.i64.wrap (8 * s3.1)))))] w4 fun r7 w8 => ∃ r9 : Bool, r7 = (Value.bool r9) ∧
 (bif (!r9) then
 K w8
 else
 next5 ((IntKind.i64.wrap (s3.1 - 1)), ()) w8)
 else
 K w4)) ((IntKind.i64.wrap (x2 - 1)), ()) w) := okF cZ Tryz.func257 (.seq .leaf (.blk (.loop [(4, (.int .i64))] .leaf))) (by kernel_rfl)
theorem mg {a0 a1 w K} : aH (bH a0 a1 w K)
 (cu (S := Int × Unit) (fun s3 w4 next5 => (bif (decide (s3.1 < (a0.len : Int))) then
 bM a0 2 s3.1 fun a6 => Ld (.int .i64) w4 (a6.add 0) fun x7 => Ld (.int .i64) w4 (a6.add 1) fun x8 => fM Tryz.prog [.one .bool] a1 [(Value.agg ⟨[(Value.int .i64 x7), (Value.int .i64 x8)]⟩)] w4 fun r9 w10 => ∃ r11 : Bool, r9 = (Value.bool r11) ∧
 (bif r11 then
 K s3.1 w10
 else
 next5 ((IntKind.i64.wrap (s3.1 + 1)), ()) w10)
 else
 K (-1) w4)) (0, ()) w) := okF cZ Tryz.func258 (.seq .leaf (.seq (.seq .leaf (.blk (.loop [(8, (.int .i64))] .leaf))) .leaf)) (by kernel_rfl)
theorem NY {A0 A1 A2 A3 A4 A5 A6 A7 A8 A9 A10 A11 A12 A13 A14 A15 A16 A17 A18 A19 A20 A21 A22 A23 A24 A25 A26 A27 A28 A29 A30 A31 A32 A33 A34 A35 a1 w K} : aH (rH A0 A1 A2 A3 A4 A5 A6 A7 A8 A9 A10 A11 A12 A13 A14 A15 A16 A17 A18 A19 A20 A21 A22 A23 A24 A25 A26 A27 A28 A29 A30 A31 A32 A33 A34 A35 a1 w K)
 (Al w (.cells ⟨(fG A0 A1 A2 A3 A4 A5 A6 A7 A8 A9 A10 A11 A12 A13 A14 A15 A16 A17 A18 A19 A20 A21 A22 A23 A24 A25 A26 A27 A28 A29 A30 A31 A32 A33 A34 A35)⟩ 33) fun a4 w3 => cu (S := Int × Unit) (fun s5 w6 next7 => Ld .slice w6 (a4.add 17) fun x8 => (bif (decide (s5.1 < (x8.len : Int))) then
 Ld .slice w6 (a4.add 17) fun x9 => bM x9 1 s5.1 fun a10 => Ld (.int .i64) w6 a10 fun x11 => (bif (x11 == a1) then
 K true w6
 else
 next7 ((IntKind.i64.wrap (s5.1 + 1)), ()) w6)
 else
 K false w6)) (0, ()) w3) := okF cZ Tryz.func259 (.seq .leaf (.seq (.seq .leaf (.blk (.loop [(5, (.int .i64))] .leaf))) .leaf)) (by kernel_rfl)
theorem P_ {a0 a1 w K} : aH (uO a0 a1 w K)
 (cu (S := Int × Int × Unit) (fun s3 w4 next5 => (bif (decide (s3.2.1 < (a0.size : Int))) then
 XZ a0 s3.2.1 fun x6 => next5 ((IntKind.u32.wrap ((Uz .u32 s3.1 (IntKind.u32.wrap x6)) * 16777619)), (IntKind.i64.wrap (s3.2.1 + 1)), ()) w4
 else
 (IntKind.u32.wrap a1) ≠ 0 ∧
 K (IntKind.i64.wrap (Int.tmod s3.1 (IntKind.u32.wrap a1))) w4)) (2166136261, 0, ()) w) := okF cZ Tryz.func266 (.seq .leaf (.seq .leaf (.seq (.seq .leaf (.blk (.loop [(5, (.int .u32)), (9, (.int .i64))] .leaf))) .leaf))) (by kernel_rfl)
theorem AY {a0 f0 f1 w K} : aH (DR a0 f0 f1 w K)
 (Ld .ptr w f0 fun x2 => Pt x2 fun a3 => Ld .slice w a3 fun x4 => cu (S := Int × Unit) (fun s5 w6 next7 => (bif (decide (s5.1 < (x4.len : Int))) then
 Ld (.int .i64) w6.drew f1 fun x8 => Ld .ptr w6.drew f0 fun x9 => Pt x9 fun a10 => Ld .slice w6.drew a10 fun x11 => (x11.len : Int) ≠ 0 ∧
 fM Tryz.prog [.one .bool] a0 [(Value.int .i64 (Int.tmod (IntKind.i64.wrap (x8 + s5.1)) (x11.len : Int)))] w6.drew fun r12 w13 => ∃ r14 : Bool, r12 = (Value.bool r14) ∧
 (bif (!r14) then
 K w13
 else
 next7 ((IntKind.i64.wrap (s5.1 + 1)), ()) w13)
 else
 K w6)) (0, ()) w) := okF cZ Tryz.func267 (.seq .leaf (.blk (.loop [(10, (.int .i64))] .leaf))) (by kernel_rfl)
theorem kM {a0 a1 a2 a3 w K} : aH (aX a0 a1 a2 a3 w K)
 (cu (S := Int × Unit) (fun s5 w6 next7 => (bif (decide (s5.1 < a2)) then
 cu (S := Int × Unit) (fun s8 w9 next10 => let J11 : Bool -> World -> Prop := fun j12 w13 => ((bif j12 then
 bM a0 3 (IntKind.i64.wrap (s8.1 - 1)) fun a14 => Ld (.int .i64) w13.drew (a14.add 0) fun x15 => Ld (.int .i64) w13.drew (a14.add 1) fun x16 => Ld (.int .i64) w13.drew (a14.add 2) fun x17 => bM a0 3 s8.1 fun a18 => Ld (.int .i64) w13.drew (a18.add 0) fun x19 => Ld (.int .i64) w13.drew (a18.add 1) fun x20 => Ld (.int .i64) w13.drew (a18.add 2) fun x21 => bM a0 3 s8.1 fun a22 => iT [(Value.int .i64 x15), (Value.int .i64 x16), (Value.int .i64 x17)] w13.drew a22 0 fun w23 => bM a0 3 (IntKind.i64.wrap (s8.1 - 1)) fun a24 => iT [(Value.int .i64 x19), (Value.int .i64 x20), (Value.int .i64 x21)] w23 a24 0 fun w25 => next10 ((IntKind.i64.wrap (s8.1 - 1)), ()) w25
 else
 next7 ((IntKind.i64.wrap (s5.1 + 1)), ()) w13))
 (bif (decide (s8.1 > a1)) then
 bM a0 3 s8.1 fun a26 => Ld (.int .i64) w9.drew (a26.add 0) fun x27 => Ld (.int .i64) w9.drew (a26.add 1) fun x28 => Ld (.int .i64) w9.drew (a26.add 2) fun x29 => bM a0 3 (IntKind.i64.wrap (s8.1 - 1)) fun a30 => Ld (.int .i64) w9.drew (a30.add 0) fun x31 => Ld (.int .i64) w9.drew (a30.add 1) fun x32 => Ld (.int .i64) w9.drew (a30.add 2) fun x33 => fM Tryz.prog [.one (.int .i64)] a3 [(Value.agg ⟨[(Value.int .i64 x27), (Value.int .i64 x28), (Value.int .i64 x29)]⟩), (Value.agg ⟨[(Value.int .i64 x31), (Value.int .i64 x32), (Value.int .i64 x33)]⟩)] w9.drew fun r34 w35 => ∃ r36 : Int, r34 = (Value.int .i64 r36) ∧
 J11 (decide (r36 < 0)) w35
 else
 J11 false w9.drew)) (s5.1, ()) w6
 else
 K w6)) ((IntKind.i64.wrap (a1 + 1)), ()) w) := okF cZ Tryz.func268 (.seq .leaf (.blk (.loop [(8, (.int .i64))] (.seq .leaf (.seq (.blk (.seq .leaf (.blk (.loop [(9, (.int .i64))] .leaf)))) .leaf))))) (by kernel_rfl)
end Go.Proofs
