import Derived.Test.YtliadndafhdigaaGreatDoorW3
import Derived.Test.YtliadndafhdigaaGreatDoorProg
import Derived.KernelRfl
import Derived.Test.YtliadndafhdigaaGreatDoorMA5
import Derived.Test.YtliadndafhdigaaGreatDoorRows
import GoSem.ClaimGoes
section
namespace Go.Proofs
open Gp
set_option maxRecDepth 100000
set_option maxHeartbeats 4000000
theorem D5 : jA Tryz.prog := jA.FQ (by kernel_rfl) (by kernel_rfl)
@[reducible] def I7 (x0 x1 : Option Addr) (x2 x3 x4 x5 x6 x7 x8 x9 x10 x11 x12 x13 x14 x15 x16 x17 : Int) (x18 x19 : ah) (x20 x21 x22 x23 x24 x25 x26 x27 x28 x29 x30 x31 x32 x33 x34 x35 x36 : Int) (x37 : ah) (x38 x39 : Option Addr) (x40 x41 : Int) : List Value := .pointer x0 :: .pointer x1 :: .int .u8 x2 :: .int .u8 x3 :: .int .u8 x4 :: .int .u8 x5 :: .int .u8 x6 :: .int .u8 x7 :: .int .u8 x8 :: .int .u8 x9 :: .int .u8 x10 :: .int .u8 x11 :: .int .u8 x12 :: .int .u8 x13 :: .int .u8 x14 :: .int .u8 x15 :: .int .u8 x16 :: .int .u8 x17 :: .slice x18.a x18.len x18.cap :: .slice x19.a x19.len x19.cap :: .int .i64 x20 :: .int .i64 x21 :: .int .i64 x22 :: .int .i64 x23 :: .int .i64 x24 :: .int .i64 x25 :: .int .i64 x26 :: .int .i64 x27 :: .int .i64 x28 :: .int .i64 x29 :: .int .i64 x30 :: .int .i64 x31 :: .int .i64 x32 :: .int .i64 x33 :: .int .i64 x34 :: .int .i64 x35 :: .int .i64 x36 :: .slice x37.a x37.len x37.cap :: .pointer x38 :: .pointer x39 :: .int .i64 x40 :: .int .i64 x41 :: []
abbrev IL : List Kind := (.int .i64) :: (.int .i64) :: (.int .i64) :: (.int .i64) :: (.int .u8) :: (.int .u8) :: (.int .u8) :: (.int .u8) :: (.int .u8) :: (.int .u8) :: (.int .u8) :: (.int .u8) :: (.int .u8) :: (.int .u8) :: (.int .u8) :: (.int .u8) :: (.int .u8) :: (.int .u8) :: (.int .u8) :: (.int .u8) :: (.int .u8) :: (.int .u8) :: (.int .u8) :: (.int .u8) :: (.int .u8) :: (.int .u8) :: (.int .u8) :: (.int .u8) :: (.int .u8) :: (.int .u8) :: (.int .u8) :: (.int .u8) :: (.int .u8) :: (.int .u8) :: (.int .u8) :: (.int .u8) :: .slice :: []
@[reducible] def yM (x0 x1 x2 x3 x4 x5 x6 x7 x8 x9 x10 x11 x12 x13 x14 x15 x16 x17 x18 x19 x20 x21 x22 x23 x24 x25 x26 x27 x28 x29 x30 x31 x32 x33 x34 x35 : Int) (x36 : ah) : List Value := .int .i64 x0 :: .int .i64 x1 :: .int .i64 x2 :: .int .i64 x3 :: .int .u8 x4 :: .int .u8 x5 :: .int .u8 x6 :: .int .u8 x7 :: .int .u8 x8 :: .int .u8 x9 :: .int .u8 x10 :: .int .u8 x11 :: .int .u8 x12 :: .int .u8 x13 :: .int .u8 x14 :: .int .u8 x15 :: .int .u8 x16 :: .int .u8 x17 :: .int .u8 x18 :: .int .u8 x19 :: .int .u8 x20 :: .int .u8 x21 :: .int .u8 x22 :: .int .u8 x23 :: .int .u8 x24 :: .int .u8 x25 :: .int .u8 x26 :: .int .u8 x27 :: .int .u8 x28 :: .int .u8 x29 :: .int .u8 x30 :: .int .u8 x31 :: .int .u8 x32 :: .int .u8 x33 :: .int .u8 x34 :: .int .u8 x35 :: .slice x36.a x36.len x36.cap :: []
@[reducible] def Fz (w : World) (a : Addr) (K : Int -> Int -> Int -> Int -> Int -> Int -> Int -> Int -> Int -> Int -> Int -> Int -> Int -> Int -> Int -> Int -> Int -> Int -> Int -> Int -> Int -> Int -> Int -> Int -> Int -> Int -> Int -> Int -> Int -> Int -> Int -> Int -> Int -> Int -> Int -> Int -> ah -> Prop) : Prop := Ld (.int .i64) w (a.add 0) fun x0 => Ld (.int .i64) w (a.add 1) fun x1 => Ld (.int .i64) w (a.add 2) fun x2 => Ld (.int .i64) w (a.add 3) fun x3 => Ld (.int .u8) w (a.add 4) fun x4 => Ld (.int .u8) w (a.add 5) fun x5 => Ld (.int .u8) w (a.add 6) fun x6 => Ld (.int .u8) w (a.add 7) fun x7 => Ld (.int .u8) w (a.add 8) fun x8 => Ld (.int .u8) w (a.add 9) fun x9 => Ld (.int .u8) w (a.add 10) fun x10 => Ld (.int .u8) w (a.add 11) fun x11 => Ld (.int .u8) w (a.add 12) fun x12 => Ld (.int .u8) w (a.add 13) fun x13 => Ld (.int .u8) w (a.add 14) fun x14 => Ld (.int .u8) w (a.add 15) fun x15 => Ld (.int .u8) w (a.add 16) fun x16 => Ld (.int .u8) w (a.add 17) fun x17 => Ld (.int .u8) w (a.add 18) fun x18 => Ld (.int .u8) w (a.add 19) fun x19 => Ld (.int .u8) w (a.add 20) fun x20 => Ld (.int .u8) w (a.add 21) fun x21 => Ld (.int .u8) w (a.add 22) fun x22 => Ld (.int .u8) w (a.add 23) fun x23 => Ld (.int .u8) w (a.add 24) fun x24 => Ld (.int .u8) w (a.add 25) fun x25 => Ld (.int .u8) w (a.add 26) fun x26 => Ld (.int .u8) w (a.add 27) fun x27 => Ld (.int .u8) w (a.add 28) fun x28 => Ld (.int .u8) w (a.add 29) fun x29 => Ld (.int .u8) w (a.add 30) fun x30 => Ld (.int .u8) w (a.add 31) fun x31 => Ld (.int .u8) w (a.add 32) fun x32 => Ld (.int .u8) w (a.add 33) fun x33 => Ld (.int .u8) w (a.add 34) fun x34 => Ld (.int .u8) w (a.add 35) fun x35 => Ld .slice w (a.add 36) fun x36 => K x0 x1 x2 x3 x4 x5 x6 x7 x8 x9 x10 x11 x12 x13 x14 x15 x16 x17 x18 x19 x20 x21 x22 x23 x24 x25 x26 x27 x28 x29 x30 x31 x32 x33 x34 x35 x36
@[reducible] def H9 (x0 x1 x2 x3 x4 x5 x6 x7 x8 x9 x10 x11 x12 x13 x14 x15 : Int) : List Value := .int .u8 x0 :: .int .u8 x1 :: .int .u8 x2 :: .int .u8 x3 :: .int .u8 x4 :: .int .u8 x5 :: .int .u8 x6 :: .int .u8 x7 :: .int .u8 x8 :: .int .u8 x9 :: .int .u8 x10 :: .int .u8 x11 :: .int .u8 x12 :: .int .u8 x13 :: .int .u8 x14 :: .int .u8 x15 :: []
@[reducible] def Bl (w : World) (a : Addr) (K : Int -> Int -> Int -> Int -> Int -> Int -> Int -> Int -> Int -> Int -> Int -> Int -> Int -> Int -> Int -> Int -> Prop) : Prop := Ld (.int .u8) w (a.add 0) fun x0 => Ld (.int .u8) w (a.add 1) fun x1 => Ld (.int .u8) w (a.add 2) fun x2 => Ld (.int .u8) w (a.add 3) fun x3 => Ld (.int .u8) w (a.add 4) fun x4 => Ld (.int .u8) w (a.add 5) fun x5 => Ld (.int .u8) w (a.add 6) fun x6 => Ld (.int .u8) w (a.add 7) fun x7 => Ld (.int .u8) w (a.add 8) fun x8 => Ld (.int .u8) w (a.add 9) fun x9 => Ld (.int .u8) w (a.add 10) fun x10 => Ld (.int .u8) w (a.add 11) fun x11 => Ld (.int .u8) w (a.add 12) fun x12 => Ld (.int .u8) w (a.add 13) fun x13 => Ld (.int .u8) w (a.add 14) fun x14 => Ld (.int .u8) w (a.add 15) fun x15 => K x0 x1 x2 x3 x4 x5 x6 x7 x8 x9 x10 x11 x12 x13 x14 x15
@[reducible] def IC (x0 x1 x2 x3 x4 x5 x6 x7 x8 x9 x10 x11 x12 x13 x14 x15 : Int) (x16 x17 : ah) (x18 x19 x20 x21 x22 x23 x24 x25 x26 x27 x28 x29 x30 x31 x32 x33 x34 : Int) (x35 : ah) : List Value := .int .u8 x0 :: .int .u8 x1 :: .int .u8 x2 :: .int .u8 x3 :: .int .u8 x4 :: .int .u8 x5 :: .int .u8 x6 :: .int .u8 x7 :: .int .u8 x8 :: .int .u8 x9 :: .int .u8 x10 :: .int .u8 x11 :: .int .u8 x12 :: .int .u8 x13 :: .int .u8 x14 :: .int .u8 x15 :: .slice x16.a x16.len x16.cap :: .slice x17.a x17.len x17.cap :: .int .i64 x18 :: .int .i64 x19 :: .int .i64 x20 :: .int .i64 x21 :: .int .i64 x22 :: .int .i64 x23 :: .int .i64 x24 :: .int .i64 x25 :: .int .i64 x26 :: .int .i64 x27 :: .int .i64 x28 :: .int .i64 x29 :: .int .i64 x30 :: .int .i64 x31 :: .int .i64 x32 :: .int .i64 x33 :: .int .i64 x34 :: .slice x35.a x35.len x35.cap :: []
@[reducible] def IQ (w : World) (a : Addr) (K : Int -> Int -> Int -> Int -> Int -> Int -> Int -> Int -> Int -> Int -> Int -> Int -> Int -> Int -> Int -> Int -> ah -> ah -> Int -> Int -> Int -> Int -> Int -> Int -> Int -> Int -> Int -> Int -> Int -> Int -> Int -> Int -> Int -> Int -> Int -> ah -> Prop) : Prop := Ld (.int .u8) w (a.add 0) fun x0 => Ld (.int .u8) w (a.add 1) fun x1 => Ld (.int .u8) w (a.add 2) fun x2 => Ld (.int .u8) w (a.add 3) fun x3 => Ld (.int .u8) w (a.add 4) fun x4 => Ld (.int .u8) w (a.add 5) fun x5 => Ld (.int .u8) w (a.add 6) fun x6 => Ld (.int .u8) w (a.add 7) fun x7 => Ld (.int .u8) w (a.add 8) fun x8 => Ld (.int .u8) w (a.add 9) fun x9 => Ld (.int .u8) w (a.add 10) fun x10 => Ld (.int .u8) w (a.add 11) fun x11 => Ld (.int .u8) w (a.add 12) fun x12 => Ld (.int .u8) w (a.add 13) fun x13 => Ld (.int .u8) w (a.add 14) fun x14 => Ld (.int .u8) w (a.add 15) fun x15 => Ld .slice w (a.add 16) fun x16 => Ld .slice w (a.add 17) fun x17 => Ld (.int .i64) w (a.add 18) fun x18 => Ld (.int .i64) w (a.add 19) fun x19 => Ld (.int .i64) w (a.add 20) fun x20 => Ld (.int .i64) w (a.add 21) fun x21 => Ld (.int .i64) w (a.add 22) fun x22 => Ld (.int .i64) w (a.add 23) fun x23 => Ld (.int .i64) w (a.add 24) fun x24 => Ld (.int .i64) w (a.add 25) fun x25 => Ld (.int .i64) w (a.add 26) fun x26 => Ld (.int .i64) w (a.add 27) fun x27 => Ld (.int .i64) w (a.add 28) fun x28 => Ld (.int .i64) w (a.add 29) fun x29 => Ld (.int .i64) w (a.add 30) fun x30 => Ld (.int .i64) w (a.add 31) fun x31 => Ld (.int .i64) w (a.add 32) fun x32 => Ld (.int .i64) w (a.add 33) fun x33 => Ld (.int .i64) w (a.add 34) fun x34 => Ld .slice w (a.add 35) fun x35 => K x0 x1 x2 x3 x4 x5 x6 x7 x8 x9 x10 x11 x12 x13 x14 x15 x16 x17 x18 x19 x20 x21 x22 x23 x24 x25 x26 x27 x28 x29 x30 x31 x32 x33 x34 x35
abbrev FK : List Kind := (.int .i64) :: (.int .i64) :: (.int .i64) :: (.int .i64) :: (.int .i64) :: (.int .i64) :: (.int .i64) :: .bool :: .bool :: .slice :: .slice :: []
@[reducible] def l9 (x0 x1 x2 x3 x4 x5 x6 : Int) (x7 x8 : Bool) (x9 x10 : ah) : List Value := .int .i64 x0 :: .int .i64 x1 :: .int .i64 x2 :: .int .i64 x3 :: .int .i64 x4 :: .int .i64 x5 :: .int .i64 x6 :: .bool x7 :: .bool x8 :: .slice x9.a x9.len x9.cap :: .slice x10.a x10.len x10.cap :: []
@[reducible] def zk (w : World) (a : Addr) (K : Int -> Int -> Int -> Int -> Int -> Int -> Int -> Bool -> Bool -> ah -> ah -> Prop) : Prop := Ld (.int .i64) w (a.add 0) fun x0 => Ld (.int .i64) w (a.add 1) fun x1 => Ld (.int .i64) w (a.add 2) fun x2 => Ld (.int .i64) w (a.add 3) fun x3 => Ld (.int .i64) w (a.add 4) fun x4 => Ld (.int .i64) w (a.add 5) fun x5 => Ld (.int .i64) w (a.add 6) fun x6 => Ld .bool w (a.add 7) fun x7 => Ld .bool w (a.add 8) fun x8 => Ld .slice w (a.add 9) fun x9 => Ld .slice w (a.add 10) fun x10 => K x0 x1 x2 x3 x4 x5 x6 x7 x8 x9 x10
def gG (a0 : ah) (a1 : Int) (w : World) (K : Bool -> World -> Prop) : Prop :=
 aT Tryz.prog 3 [.slice a0.a a0.len a0.cap, .int .i64 a1] [.one .bool] w K
def bn (a0 : Option Addr) (a1 : ah) (w : World) (K : ah -> Int -> World -> Prop) : Prop :=
 aT Tryz.prog 4 [.pointer a0, .slice a1.a a1.len a1.cap] [.one .slice, .one (.int .i64)] w K
theorem jX {a0 a1 w K K'} : bn a0 a1 w K -> (∀ x0 x1 w, K x0 x1 w -> K' x0 x1 w) -> bn a0 a1 w K' := aT.mono
def bP (a0 : Option Addr) (a1 : ah) (w : World) (K : ah -> Int -> World -> Prop) : Prop :=
 aT Tryz.prog 5 [.pointer a0, .slice a1.a a1.len a1.cap] [.one .slice, .one (.int .i64)] w K
theorem mM {a0 a1 w K K'} : bP a0 a1 w K -> (∀ x0 x1 w, K x0 x1 w -> K' x0 x1 w) -> bP a0 a1 w K' := aT.mono
def aW (a0 : Option Addr) (a1 : Int) (w : World) (K : Int -> World -> Prop) : Prop :=
 aT Tryz.prog 6 [.pointer a0, .int .i64 a1] [.one (.int .i64)] w K
theorem jI {a0 a1 w K K'} : aW a0 a1 w K -> (∀ x0 w, K x0 w -> K' x0 w) -> aW a0 a1 w K' := aT.mono
def aU (a0 : Option Addr) (w : World) (K : (Option Addr) -> World -> Prop) : Prop :=
 aT Tryz.prog 7 [.pointer a0] [.one .ptr] w K
theorem fJ {a0 w K K'} : aU a0 w K -> (∀ x0 w, K x0 w -> K' x0 w) -> aU a0 w K' := aT.mono
def aZ (a0 : Option Addr) (w : World) (K : Int -> ah -> ah -> Int -> Int -> Int -> ah -> World -> Prop) : Prop :=
 aT Tryz.prog 8 [.pointer a0] [.agg [(.int .i64), .slice, .slice, (.int .i64), (.int .i64), (.int .i64), .slice]] w K
theorem gV {a0 w K K'} : aZ a0 w K -> (∀ x0 x1 x2 x3 x4 x5 x6 w, K x0 x1 x2 x3 x4 x5 x6 w -> K' x0 x1 x2 x3 x4 x5 x6 w) -> aZ a0 w K' := aT.mono
def fA  (w : World) (K : Int -> World -> Prop) : Prop :=
 aT Tryz.prog 9 [] [.one (.int .i64)] w K
theorem sN { w K K'} : fA  w K -> (∀ x0 w, K x0 w -> K' x0 w) -> fA  w K' := aT.mono
def eU  (w : World) (K : Bool -> World -> Prop) : Prop :=
 aT Tryz.prog 10 [] [.one .bool] w K
theorem pR { w K K'} : eU  w K -> (∀ x0 w, K x0 w -> K' x0 w) -> eU  w K' := aT.mono
def aH (a0 : Option Addr) (w : World) (K : Bool -> World -> Prop) : Prop :=
 aT Tryz.prog 11 [.pointer a0] [.one .bool] w K
theorem bg {a0 w K K'} : aH a0 w K -> (∀ x0 w, K x0 w -> K' x0 w) -> aH a0 w K' := aT.mono
def yj (a0 : ah) (w : World) (K : Int -> Int -> Int -> Int -> Int -> Int -> Int -> Int -> Int -> Int -> Int -> Int -> Int -> Int -> Int -> Int -> Int -> Int -> Int -> Int -> Int -> Int -> Int -> Int -> Int -> Int -> Int -> Int -> Int -> Int -> Int -> Int -> Int -> Int -> Int -> Int -> ah -> Int -> World -> Prop) : Prop :=
 aT Tryz.prog 12 [.slice a0.a a0.len a0.cap] [.agg IL, .one (.int .i64)] w K
def aC (a0 : Option Addr) (a1 : Int) (w : World) (K : ah -> Int -> World -> Prop) : Prop :=
 aT Tryz.prog 13 [.pointer a0, .int .i64 a1] [.one .slice, .one (.int .i64)] w K
def j_ (a0 : Option Addr) (B0 B1 B2 B3 B4 B5 B6 B7 B8 B9 B10 B11 B12 B13 B14 B15 B16 B17 B18 B19 B20 B21 B22 B23 B24 B25 B26 B27 B28 B29 B30 B31 B32 B33 B34 B35 : Int) (B36 : ah) (w : World) (K : ah -> Int -> World -> Prop) : Prop :=
 aT Tryz.prog 14 [.pointer a0, .agg ⟨yM B0 B1 B2 B3 B4 B5 B6 B7 B8 B9 B10 B11 B12 B13 B14 B15 B16 B17 B18 B19 B20 B21 B22 B23 B24 B25 B26 B27 B28 B29 B30 B31 B32 B33 B34 B35 B36⟩] [.one .slice, .one (.int .i64)] w K
def l7 (A0 A1 A2 A3 A4 A5 A6 A7 A8 A9 A10 A11 A12 A13 A14 A15 : Int) (A16 A17 : ah) (A18 A19 A20 A21 A22 A23 A24 A25 A26 A27 A28 A29 A30 A31 A32 A33 A34 : Int) (A35 : ah) (B0 B1 B2 B3 B4 B5 B6 B7 B8 B9 B10 B11 B12 B13 B14 B15 : Int) (w : World) (K : Int -> Bool -> World -> Prop) : Prop :=
 aT Tryz.prog 15 [.agg ⟨IC A0 A1 A2 A3 A4 A5 A6 A7 A8 A9 A10 A11 A12 A13 A14 A15 A16 A17 A18 A19 A20 A21 A22 A23 A24 A25 A26 A27 A28 A29 A30 A31 A32 A33 A34 A35⟩, .agg ⟨H9 B0 B1 B2 B3 B4 B5 B6 B7 B8 B9 B10 B11 B12 B13 B14 B15⟩] [.one (.int .i64), .one .bool] w K
def kU (a0 : Option Addr) (B0 B1 B2 B3 B4 B5 B6 B7 B8 B9 B10 B11 B12 B13 B14 B15 B16 B17 B18 B19 B20 B21 B22 B23 B24 B25 B26 B27 B28 B29 B30 B31 B32 B33 B34 B35 : Int) (B36 : ah) (w : World) (K : ah -> Int -> Int -> Bool -> World -> Prop) : Prop :=
 aT Tryz.prog 16 [.pointer a0, .agg ⟨yM B0 B1 B2 B3 B4 B5 B6 B7 B8 B9 B10 B11 B12 B13 B14 B15 B16 B17 B18 B19 B20 B21 B22 B23 B24 B25 B26 B27 B28 B29 B30 B31 B32 B33 B34 B35 B36⟩] [.one .slice, .one (.int .i64), .one (.int .i64), .one .bool] w K
def qG (a0 : ah) (w : World) (K : Int -> Int -> Int -> Int -> Int -> Int -> Int -> Bool -> Bool -> ah -> ah -> Int -> World -> Prop) : Prop :=
 aT Tryz.prog 17 [.slice a0.a a0.len a0.cap] [.agg FK, .one (.int .i64)] w K
def gY (a0 : Option Addr) (a1 C0 C1 C2 C3 C4 C5 C6 : Int) (C7 C8 : Bool) (C9 C10 : ah) (w : World) (K : Int -> Int -> Int -> Int -> Int -> Int -> Int -> Bool -> Bool -> ah -> ah -> Int -> Bool -> World -> Prop) : Prop :=
 aT Tryz.prog 18 [.pointer a0, .int .i64 a1, .agg ⟨l9 C0 C1 C2 C3 C4 C5 C6 C7 C8 C9 C10⟩] [.agg FK, .one (.int .i64), .one .bool] w K
def jq (a0 : Option Addr) (a1 C0 C1 C2 C3 C4 C5 C6 : Int) (C7 C8 : Bool) (C9 C10 : ah) (w : World) (K : ah -> Int -> World -> Prop) : Prop :=
 aT Tryz.prog 19 [.pointer a0, .int .i64 a1, .agg ⟨l9 C0 C1 C2 C3 C4 C5 C6 C7 C8 C9 C10⟩] [.one .slice, .one (.int .i64)] w K
def lJ (a0 : Option Addr) (a1 : Int) (w : World) (K : Bool -> World -> Prop) : Prop :=
 aT Tryz.prog 20 [.pointer a0, .int .i64 a1] [.one .bool] w K
def kC (a0 : Option Addr) (B0 B1 B2 B3 B4 B5 B6 : Int) (B7 B8 : Bool) (B9 B10 : ah) (a2 : Bool) (w : World) (K : ah -> Int -> World -> Prop) : Prop :=
 aT Tryz.prog 21 [.pointer a0, .agg ⟨l9 B0 B1 B2 B3 B4 B5 B6 B7 B8 B9 B10⟩, .bool a2] [.one .slice, .one (.int .i64)] w K
def fK (a0 : Option Addr) (a1 : Int) (w : World) (K : ah -> World -> Prop) : Prop :=
 aT Tryz.prog 22 [.pointer a0, .int .i64 a1] [.one .slice] w K
def jl (a0 : Option Addr) (a1 : Int) (w : World) (K : Int -> World -> Prop) : Prop :=
 aT Tryz.prog 23 [.pointer a0, .int .i64 a1] [.one (.int .i64)] w K
def kR (a0 : Option Addr) (w : World) (K : Int -> ah -> ah -> Int -> Int -> Int -> ah -> World -> Prop) : Prop :=
 aT Tryz.prog 24 [.pointer a0] [.agg [(.int .i64), .slice, .slice, (.int .i64), (.int .i64), (.int .i64), .slice]] w K
def gI (a0 : Option Addr) (w : World) (K : Int -> World -> Prop) : Prop :=
 aT Tryz.prog 25 [.pointer a0] [.one (.int .i64)] w K
def gW (a0 : Option Addr) (w : World) (K : Int -> World -> Prop) : Prop :=
 aT Tryz.prog 26 [.pointer a0] [.one (.int .i64)] w K
def jG (a0 : Option Addr) (w : World) (K : ah -> World -> Prop) : Prop :=
 aT Tryz.prog 27 [.pointer a0] [.one .slice] w K
theorem jV {a0 a1 w K} : tu (gG a0 a1 w K)
 (Al w (.cells ⟨(I7 none none 0 0 0 0 0 0 0 0 0 0 0 0 0 0 0 0 ⟨none, 0, 0⟩ ⟨none, 0, 0⟩ 0 0 0 0 0 0 0 0 0 0 0 0 0 0 0 0 0 ⟨none, 0, 0⟩ none none 0 0)⟩ 37) fun a4 w3 => bn none a0 w3 fun r5 r6 w7 => bP (some a4) a0 w7 fun r8 r9 w10 => let J11 : Bool -> World -> Prop := fun j12 w13 => (K j12 w13)
 (bif (r6 == 1) then
 (bif (r9 == 1) then
 (bif ((r5.len : Int) == 0) then
 (bif ((r8.len : Int) == 0) then
 aW none a1 w10 fun r14 w15 => (bif (r14 == 0) then
 aU none w15 fun r16 w17 => (bif (Option.isNone r16) then
 aU (some a4) w17 fun r18 w19 => (bif (Option.isNone r18) then
 aZ none w19 fun r20 r21 r22 r23 r24 r25 r26 w27 => (bif ((r21.len : Int) == 0) then
 aZ (some a4) w27 fun r28 r29 r30 r31 r32 r33 r34 w35 => (bif ((r34.len : Int) == 0) then
 fA  w35 fun r36 w37 => (bif (r36 == 3221225473) then
 eU  w37 fun r38 w39 => J11 r38 w39
 else
 J11 false w37)
 else
 J11 false w35)
 else
 J11 false w27)
 else
 J11 false w19)
 else
 J11 false w17)
 else
 J11 false w15)
 else
 J11 false w10)
 else
 J11 false w10)
 else
 J11 false w10)
 else
 J11 false w10)) := okF D5 Tryz.func3 .leaf (by kernel_rfl)
theorem jY {a0 a1 w K} : tu (bn a0 a1 w K)
 (aH a0 w fun r3 w4 => (bif (!r3) then
 K ⟨none, 0, 0⟩ 1 w4
 else
 yj a1 w4 fun r5 r6 r7 r8 r9 r10 r11 r12 r13 r14 r15 r16 r17 r18 r19 r20 r21 r22 r23 r24 r25 r26 r27 r28 r29 r30 r31 r32 r33 r34 r35 r36 r37 r38 r39 r40 r41 r42 w43 => Al w43 (.cells ⟨(yM 0 0 0 0 0 0 0 0 0 0 0 0 0 0 0 0 0 0 0 0 0 0 0 0 0 0 0 0 0 0 0 0 0 0 0 0 ⟨none, 0, 0⟩)⟩ 52) fun a45 w44 => tC (yM r5 r6 r7 r8 r9 r10 r11 r12 r13 r14 r15 r16 r17 r18 r19 r20 r21 r22 r23 r24 r25 r26 r27 r28 r29 r30 r31 r32 r33 r34 r35 r36 r37 r38 r39 r40 r41) w44 a45 0 fun w46 => (bif (r42 != 0) then
 aC a0 1 w46 fun r47 r48 w49 => K r47 r48 w49
 else
 Bl w46.drew (a45.add 20) fun x50 x51 x52 x53 x54 x55 x56 x57 x58 x59 x60 x61 x62 x63 x64 x65 => Pt a0 fun a66 => Bl w46.drew (a66.add 2) fun x67 x68 x69 x70 x71 x72 x73 x74 x75 x76 x77 x78 x79 x80 x81 x82 => (bif (!((x50 == x67) && ((x51 == x68) && ((x52 == x69) && ((x53 == x70) && ((x54 == x71) && ((x55 == x72) && ((x56 == x73) && ((x57 == x74) && ((x58 == x75) && ((x59 == x76) && ((x60 == x77) && ((x61 == x78) && ((x62 == x79) && ((x63 == x80) && ((x64 == x81) && ((x65 == x82) && true))))))))))))))))) then
 aC a0 2 w46.drew fun r83 r84 w85 => K r83 r84 w85
 else
 Ld (.int .i64) w46.drew (a45.add 2) fun x86 => (bif (x86 == 58) then
 Fz w46.drew a45 fun x87 x88 x89 x90 x91 x92 x93 x94 x95 x96 x97 x98 x99 x100 x101 x102 x103 x104 x105 x106 x107 x108 x109 x110 x111 x112 x113 x114 x115 x116 x117 x118 x119 x120 x121 x122 x123 => j_ a0 x87 x88 x89 x90 x91 x92 x93 x94 x95 x96 x97 x98 x99 x100 x101 x102 x103 x104 x105 x106 x107 x108 x109 x110 x111 x112 x113 x114 x115 x116 x117 x118 x119 x120 x121 x122 x123 w46.drew fun r124 r125 w126 => K r124 r125 w126
 else
 Pt a0 fun a127 => IQ w46.drew.drew (a127.add 2) fun x128 x129 x130 x131 x132 x133 x134 x135 x136 x137 x138 x139 x140 x141 x142 x143 x144 x145 x146 x147 x148 x149 x150 x151 x152 x153 x154 x155 x156 x157 x158 x159 x160 x161 x162 x163 => Bl w46.drew.drew (a45.add 4) fun x164 x165 x166 x167 x168 x169 x170 x171 x172 x173 x174 x175 x176 x177 x178 x179 => l7 x128 x129 x130 x131 x132 x133 x134 x135 x136 x137 x138 x139 x140 x141 x142 x143 x144 x145 x146 x147 x148 x149 x150 x151 x152 x153 x154 x155 x156 x157 x158 x159 x160 x161 x162 x163 x164 x165 x166 x167 x168 x169 x170 x171 x172 x173 x174 x175 x176 x177 x178 x179 w46.drew.drew fun r180 r181 w182 => (bif (!r181) then
 aC a0 2 w182 fun r183 r184 w185 => K r183 r184 w185
 else
 Fz w182 a45 fun x186 x187 x188 x189 x190 x191 x192 x193 x194 x195 x196 x197 x198 x199 x200 x201 x202 x203 x204 x205 x206 x207 x208 x209 x210 x211 x212 x213 x214 x215 x216 x217 x218 x219 x220 x221 x222 => kU a0 x186 x187 x188 x189 x190 x191 x192 x193 x194 x195 x196 x197 x198 x199 x200 x201 x202 x203 x204 x205 x206 x207 x208 x209 x210 x211 x212 x213 x214 x215 x216 x217 x218 x219 x220 x221 x222 w182 fun r223 r224 r225 r226 w227 => (bif (!r226) then
 aC a0 r225 w227 fun r228 r229 w230 => K r228 r229 w230
 else
 (bif (r224 != 4) then
 aC a0 4 w227 fun r231 r232 w233 => K r231 r232 w233
 else
 qG r223 w227 fun r234 r235 r236 r237 r238 r239 r240 r241 r242 r243 r244 r245 w246 => Al w246 (.cells ⟨(l9 0 0 0 0 0 0 0 false false ⟨none, 0, 0⟩ ⟨none, 0, 0⟩)⟩ 63) fun a248 w247 => tC (l9 r234 r235 r236 r237 r238 r239 r240 r241 r242 r243 r244) w247 a248 0 fun w249 => (bif (r245 != 0) then
 aC a0 1 w249 fun r250 r251 w252 => K r250 r251 w252
 else
 zk w249 a248 fun x253 x254 x255 x256 x257 x258 x259 x260 x261 x262 x263 => gY a0 r180 x253 x254 x255 x256 x257 x258 x259 x260 x261 x262 x263 w249 fun r264 r265 r266 r267 r268 r269 r270 r271 r272 r273 r274 r275 r276 w277 => tC (l9 r264 r265 r266 r267 r268 r269 r270 r271 r272 r273 r274) w277 a248 0 fun w278 => (bif (!r276) then
 aC a0 r275 w278 fun r279 r280 w281 => K r279 r280 w281
 else
 zk w278 a248 fun x282 x283 x284 x285 x286 x287 x288 x289 x290 x291 x292 => jq a0 r180 x282 x283 x284 x285 x286 x287 x288 x289 x290 x291 x292 w278 fun r293 r294 w295 => K r293 r294 w295)))))))))) := okF D5 Tryz.func4 .leaf (by kernel_rfl)
theorem nD {a0 a1 w K} : tu (bP a0 a1 w K)
 (aH a0 w fun r3 w4 => (bif (!r3) then
 K ⟨none, 0, 0⟩ 1 w4
 else
 qG a1 w4 fun r5 r6 r7 r8 r9 r10 r11 r12 r13 r14 r15 r16 w17 => Al w17 (.cells ⟨(l9 0 0 0 0 0 0 0 false false ⟨none, 0, 0⟩ ⟨none, 0, 0⟩)⟩ 63) fun a19 w18 => tC (l9 r5 r6 r7 r8 r9 r10 r11 r12 r13 r14 r15) w18 a19 0 fun w20 => (bif (r16 != 0) then
 aC a0 1 w20 fun r21 r22 w23 => K r21 r22 w23
 else
 Pt a0 fun a24 => Ld .ptr w20.drew (a24.add 38) fun x25 => Ld (.int .i64) w20.drew (a19.add 6) fun x26 => lJ x25 x26 w20.drew fun r27 w28 => (bif (!r27) then
 aC a0 9 w28 fun r29 r30 w31 => K r29 r30 w31
 else
 zk w28 a19 fun x32 x33 x34 x35 x36 x37 x38 x39 x40 x41 x42 => gY a0 255 x32 x33 x34 x35 x36 x37 x38 x39 x40 x41 x42 w28 fun r43 r44 r45 r46 r47 r48 r49 r50 r51 r52 r53 r54 r55 w56 => tC (l9 r43 r44 r45 r46 r47 r48 r49 r50 r51 r52 r53) w56 a19 0 fun w57 => (bif (!r55) then
 aC a0 r54 w57 fun r58 r59 w60 => K r58 r59 w60
 else
 zk w57 a19 fun x61 x62 x63 x64 x65 x66 x67 x68 x69 x70 x71 => kC a0 x61 x62 x63 x64 x65 x66 x67 x68 x69 x70 x71 false w57 fun r72 r73 w74 => K r72 r73 w74))))) := okF D5 Tryz.func5 .leaf (by kernel_rfl)
theorem jC {a0 a1 w K} : tu (aW a0 a1 w K)
 (aH a0 w fun r3 w4 => (bif (!r3) then
 K 0 w4
 else
 Pt a0 fun a5 => Ld (.int .i64) w4 (a5.add 40) fun x6 => Pt a0 fun a7 => St w4 (a7.add 40) (Value.int .i64 (if (if (1099511627776 : Int) < a1 then 1099511627776 else a1) > x6 then (if (1099511627776 : Int) < a1 then 1099511627776 else a1) else x6)) fun w8 => Pt a0 fun a9 => Ld .ptr w8.drew a9 fun x10 => Pt a0 fun a11 => Ld (.int .i64) w8.drew (a11.add 40) fun x12 => fK x10 x12 w8.drew fun r13 w14 => Pt a0 fun a15 => Ld .ptr w14.drew (a15.add 1) fun x16 => Pt a0 fun a17 => Ld (.int .i64) w14.drew (a17.add 40) fun x18 => fK x16 x18 w14.drew fun r19 w20 => Pt a0 fun a21 => Ld .ptr w20.drew (a21.add 38) fun x22 => Pt a0 fun a23 => Ld (.int .i64) w20.drew (a23.add 40) fun x24 => jl x22 x24 w20.drew fun r25 w26 => K r25 w26)) := okF D5 Tryz.func6 .leaf (by kernel_rfl)
theorem jW {a0 w K} : tu (aU a0 w K)
 (aH a0 w fun r2 w3 => (bif (!r2) then
 K none w3
 else
 Pt a0 fun a4 => Ld .ptr w3 (a4.add 38) fun x5 => K x5 w3)) := okF D5 Tryz.func7 .leaf (by kernel_rfl)
theorem mD {a0 w K} : tu (aZ a0 w K)
 (Al w (.cells ⟨[(Value.int .i64 0), (Value.slice none 0 0), (Value.slice none 0 0), (Value.int .i64 0), (Value.int .i64 0), (Value.int .i64 0), (Value.slice none 0 0)]⟩ 46) fun a3 w2 => aH a0 w2 fun r4 w5 => (bif (!r4) then
 tC [(Value.int .i64 0), (Value.slice none 0 0), (Value.slice none 0 0), (Value.int .i64 0), (Value.int .i64 0), (Value.int .i64 0), (Value.slice none 0 0)] w5 a3 0 fun w6 => Ld (.int .i64) w6 (a3.add 0) fun y7 => Ld .slice w6 (a3.add 1) fun y8 => Ld .slice w6 (a3.add 2) fun y9 => Ld (.int .i64) w6 (a3.add 3) fun y10 => Ld (.int .i64) w6 (a3.add 4) fun y11 => Ld (.int .i64) w6 (a3.add 5) fun y12 => Ld .slice w6 (a3.add 6) fun y13 => K y7 y8 y9 y10 y11 y12 y13 w6
 else
 Pt a0 fun a14 => Ld .ptr w5 (a14.add 38) fun x15 => kR x15 w5 fun r16 r17 r18 r19 r20 r21 r22 w23 => Al w23 (.cells ⟨[(Value.int .i64 0), (Value.slice none 0 0), (Value.slice none 0 0), (Value.int .i64 0), (Value.int .i64 0), (Value.int .i64 0), (Value.slice none 0 0)]⟩ 46) fun a25 w24 => tC [(Value.int .i64 r16), (Value.slice r17.a r17.len r17.cap), (Value.slice r18.a r18.len r18.cap), (Value.int .i64 r19), (Value.int .i64 r20), (Value.int .i64 r21), (Value.slice r22.a r22.len r22.cap)] w24 a25 0 fun w26 => Pt a0 fun a27 => Ld .ptr w26.drew a27 fun x28 => Pt a0 fun a29 => Ld .ptr w26.drew (a29.add 1) fun x30 => gI x28 w26.drew fun r31 w32 => w32.cell? (a29.add 1) = some (Value.pointer x30) ∧
 gI x30 w32 fun r33 w34 => St w34 (a25.add 3) (Value.int .i64 (IntKind.i64.wrap (r31 + r33))) fun w35 => Pt a0 fun a36 => Ld .ptr w35.drew a36 fun x37 => Pt a0 fun a38 => Ld .ptr w35.drew (a38.add 1) fun x39 => gW x37 w35.drew fun r40 w41 => w41.cell? (a38.add 1) = some (Value.pointer x39) ∧
 gW x39 w41 fun r42 w43 => St w43 (a25.add 4) (Value.int .i64 (IntKind.i64.wrap (r40 + r42))) fun w44 => Ld (.int .i64) w44 (a25.add 5) fun x45 => Ld (.int .i64) w44 (a25.add 4) fun x46 => St w44 (a25.add 5) (Value.int .i64 (IntKind.i64.wrap (x45 + x46))) fun w47 => Pt a0 fun a48 => Ld .ptr w47 (a48.add 39) fun x49 => jG x49 w47 fun r50 w51 => St w51 (a25.add 6) (Value.slice r50.a r50.len r50.cap) fun w52 => Ld (.int .i64) w52 (a25.add 0) fun x53 => Ld .slice w52 (a25.add 1) fun x54 => Ld .slice w52 (a25.add 2) fun x55 => Ld (.int .i64) w52 (a25.add 3) fun x56 => Ld (.int .i64) w52 (a25.add 4) fun x57 => Ld (.int .i64) w52 (a25.add 5) fun x58 => Ld .slice w52 (a25.add 6) fun x59 => tC [(Value.int .i64 x53), (Value.slice x54.a x54.len x54.cap), (Value.slice x55.a x55.len x55.cap), (Value.int .i64 x56), (Value.int .i64 x57), (Value.int .i64 x58), (Value.slice x59.a x59.len x59.cap)] w52 a3 0 fun w60 => Ld (.int .i64) w60 (a3.add 0) fun y61 => Ld .slice w60 (a3.add 1) fun y62 => Ld .slice w60 (a3.add 2) fun y63 => Ld (.int .i64) w60 (a3.add 3) fun y64 => Ld (.int .i64) w60 (a3.add 4) fun y65 => Ld (.int .i64) w60 (a3.add 5) fun y66 => Ld .slice w60 (a3.add 6) fun y67 => K y61 y62 y63 y64 y65 y66 y67 w60)) := okF D5 Tryz.func8 .leaf (by kernel_rfl)
theorem uj { w K} : tu (fA  w K)
 (K 3221225473 w) := okF D5 Tryz.func9 .leaf (by kernel_rfl)
theorem kW {a0 w K} : tu (aH a0 w K)
 (let J2 : Bool -> Prop := fun j3 => (K j3 w)
 (bif (!(Option.isNone a0)) then
 Pt a0 fun a4 => Ld .ptr w (a4.add 38) fun x5 => J2 (!(Option.isNone x5))
 else
 J2 false)) := okF D5 Tryz.func11 .leaf (by kernel_rfl)
end Go.Proofs
end
section
namespace Go.Proofs
open Gp Gp.Rn
set_option maxRecDepth 100000
set_option maxHeartbeats 4000000
theorem Ar : Ho Tryz.prog ⟨ans, [m5, m4, m3, m2, m1, m0]⟩ 3000 10 (fun rs _ => match rs with
    | [.bool true] => true
    | _ => false) = true := by kernel_rfl
theorem Dj (w : World) : eU w fun r w' => r = true ∧ Ext w w' :=
  Calls.mono (EP D5 (IX D5) Ar w) fun _ _ ⟨h, hx⟩ => ⟨true, h, rfl, hx⟩
end Go.Proofs
end
section
namespace Go.Proofs
open Gp
set_option maxRecDepth 100000
set_option maxHeartbeats 1000000
def H8 (w : World) (t : Option Addr) : Prop := t = none ∨ ∃ a l, t = some ⟨a, 0, none⟩ ∧ Row w a l ∧ l[38]? = some (.pointer none)
theorem H8.ext {w w' : World} {t : Option Addr} (h : H8 w t) (f : Ext w w') : H8 w' t := by
  rcases h with h | ⟨a, l, h, r, g⟩
  · exact .inl h
  · exact .inr ⟨a, l, h, r.ext f, g⟩
section
variable {w : World} {t : Option Addr} (h : H8 w t)
 include h
theorem iU : aH t w fun r w' => r = false ∧ w' = w := by
  apply kW
  rcases h with rfl | ⟨a, l, rfl, r, g⟩
  · simp only [Option.isNone_none, Bool.not_true, cond_false]; exact ⟨by trivial, by trivial⟩
  · have g' : w.cell? ⟨a, 38, none⟩ = some (.pointer none) := by rw [r.cell]; exact g
    simp only [Option.isNone_some, Bool.not_false, cond_true, sx, g', Option.isNone_none, Bool.not_true]; exact ⟨by trivial, by trivial⟩
theorem Ed (s : ah) : bn t s w fun l e w' => l.len = 0 ∧ e = 1 ∧ w' = w := by
  apply jY
  refine bg (iU h) ?_
  rintro r w1 ⟨rfl, hw⟩
  subst hw
  rw [Bool.not_false, cond_true]
  exact ⟨rfl, rfl, rfl⟩
theorem E8 (s : ah) : bP t s w fun l e w' => l.len = 0 ∧ e = 1 ∧ w' = w := by
  apply nD
  refine bg (iU h) ?_
  rintro r w1 ⟨rfl, hw⟩
  subst hw
  rw [Bool.not_false, cond_true]
  exact ⟨rfl, rfl, rfl⟩
theorem EG (n : Int) : aW t n w fun r w' => r = 0 ∧ w' = w := by
  apply jC
  refine bg (iU h) ?_
  rintro r w1 ⟨rfl, hw⟩
  subst hw
  rw [Bool.not_false, cond_true]
  exact ⟨rfl, rfl⟩
theorem yR : aU t w fun r w' => r = none ∧ w' = w := by
  apply jW
  refine bg (iU h) ?_
  rintro r w1 ⟨rfl, hw⟩
  subst hw
  rw [Bool.not_false, cond_true]
  exact ⟨rfl, rfl⟩
theorem vU : aZ t w fun _ b _ _ _ _ c w' => b.len = 0 ∧ c.len = 0 ∧ Ext w w' := by
  apply mD
  refine Ib fun a w1 r1 e1 z1 f1 => ?_
  refine bg (iU (h.ext f1)) ?_
  rintro r w2 ⟨rfl, hw⟩
  subst hw
  rw [Bool.not_false, cond_true]
  refine Dt r1 (by rfl) (by rfl) fun w3 r3 f3 z3 => ?_
  simp only [sx, r3.cell]
  exact ⟨by trivial, by trivial, f1.new (f3 (· = a) rfl) fun x hx e => by omega⟩
end
theorem CB (w : World) : fA w fun r w' => r = 3221225473 ∧ w' = w := by
  apply uj
  exact ⟨rfl, rfl⟩
theorem ru (s : ah) (n : Int) (w : World) : gG s n w fun r w' => r = true ∧ Ext w w' := by
  apply jV
  refine Ib fun a w1 r1 e1 z1 f1 => ?_
  have hz : H8 w1 (some ⟨a, 0, none⟩) := .inr ⟨a, _, rfl, r1, rfl⟩
  have hn : ∀ W, H8 W none := fun _ => .inl rfl
  refine jX (Ed (hn _) s) ?_
  rintro l e w2 ⟨hl, rfl, hw⟩
  subst hw
  refine mM (E8 hz s) ?_
  rintro m e w2 ⟨hm, rfl, hw⟩
  subst hw
  intro J
  rw [hl, hm]
  simp -zeta only [show ((1 : Int) == 1) = true from rfl, show (((0 : Nat) : Int) == 0) = true from rfl, cond_true]
  refine jI (EG (hn _) n) ?_
  rintro r w2 ⟨rfl, hw⟩
  subst hw
  simp -zeta only [show ((0 : Int) == 0) = true from rfl, cond_true]
  refine fJ (yR (hn _)) ?_
  rintro r w2 ⟨rfl, hw⟩
  subst hw
  simp -zeta only [Option.isNone_none, cond_true]
  refine fJ (yR hz) ?_
  rintro r w2 ⟨rfl, hw⟩
  subst hw
  simp -zeta only [Option.isNone_none, cond_true]
  refine gV (vU (hn _)) ?_
  rintro _ b _ _ _ _ _ w2 ⟨hb, _, f2⟩
  rw [hb]
  simp -zeta only [show (((0 : Nat) : Int) == 0) = true from rfl, cond_true]
  refine gV (vU (hz.ext f2)) ?_
  rintro _ _ _ _ _ _ c w3 ⟨_, hc, f3⟩
  rw [hc]
  simp -zeta only [show (((0 : Nat) : Int) == 0) = true from rfl, cond_true]
  refine sN (CB _) ?_
  rintro r w4 ⟨rfl, hw⟩
  subst hw
  simp -zeta only [show ((3221225473 : Int) == 3221225473) = true from rfl, cond_true]
  refine pR (Dj _) ?_
  rintro r w5 ⟨rfl, f5⟩
  simp only [J]
  exact ⟨by trivial, ((f1.trans f2).trans f3).trans f5⟩
end Go.Proofs
end
section
namespace Go.Proofs.YtliadndafhdigaaGreatDoor
set_option maxRecDepth 100000
theorem Ad {P : Program} {c : OpenClaim} (hs : c.start = .entering) (h : P.funcs.any Func.goes = false) : false = c.goesBy P := by
  unfold OpenClaim.goesBy Program.goesAt Program.goesFrom
  rw [hs]
  have hg : ∀ f, P.goes f = false := by
    intro f
    unfold Program.goes
    rw [h, Bool.and_false, Bool.or_false, List.any_eq_false]
    intro g _
    cases e : P.funcs[g]? with
    | none => simp
    | some fn =>
      have := Array.any_eq_false'.1 h fn (Array.mem_of_getElem? e)
      simpa using this
  cases P.funcNamed c.func with
  | none => rfl
  | some f => simp [hg]
theorem CP : Tryz.prog.funcs.any Func.goes = false := by kernel_rfl
end Go.Proofs.YtliadndafhdigaaGreatDoor
end
