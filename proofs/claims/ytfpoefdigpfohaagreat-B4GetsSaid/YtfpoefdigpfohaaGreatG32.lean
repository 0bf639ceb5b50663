import Derived.Test.YtfpoefdigpfohaaGreatW4
import Derived.Test.YtfpoefdigpfohaaGreatProg
import Derived.KernelRfl
namespace Go.Proofs
open Gp
set_option maxRecDepth 100000
set_option maxHeartbeats 4000000
theorem cO : FZ Tryz.prog := FZ.Vj (by kernel_rfl) (by kernel_rfl)
abbrev Rn : List Kind := (.int .i64) :: (.int .i64) :: (.int .i64) :: (.int .i64) :: (.int .u8) :: (.int .u8) :: (.int .u8) :: (.int .u8) :: (.int .u8) :: (.int .u8) :: (.int .u8) :: (.int .u8) :: (.int .u8) :: (.int .u8) :: (.int .u8) :: (.int .u8) :: (.int .u8) :: (.int .u8) :: (.int .u8) :: (.int .u8) :: (.int .u8) :: (.int .u8) :: (.int .u8) :: (.int .u8) :: (.int .u8) :: (.int .u8) :: (.int .u8) :: (.int .u8) :: (.int .u8) :: (.int .u8) :: (.int .u8) :: (.int .u8) :: (.int .u8) :: (.int .u8) :: (.int .u8) :: (.int .u8) :: .slice :: []
@[reducible] def bG (x0 x1 x2 x3 x4 x5 x6 x7 x8 x9 x10 x11 x12 x13 x14 x15 x16 x17 x18 x19 x20 x21 x22 x23 x24 x25 x26 x27 x28 x29 x30 x31 x32 x33 x34 x35 : Int) (x36 : ah) : List Value := .int .i64 x0 :: .int .i64 x1 :: .int .i64 x2 :: .int .i64 x3 :: .int .u8 x4 :: .int .u8 x5 :: .int .u8 x6 :: .int .u8 x7 :: .int .u8 x8 :: .int .u8 x9 :: .int .u8 x10 :: .int .u8 x11 :: .int .u8 x12 :: .int .u8 x13 :: .int .u8 x14 :: .int .u8 x15 :: .int .u8 x16 :: .int .u8 x17 :: .int .u8 x18 :: .int .u8 x19 :: .int .u8 x20 :: .int .u8 x21 :: .int .u8 x22 :: .int .u8 x23 :: .int .u8 x24 :: .int .u8 x25 :: .int .u8 x26 :: .int .u8 x27 :: .int .u8 x28 :: .int .u8 x29 :: .int .u8 x30 :: .int .u8 x31 :: .int .u8 x32 :: .int .u8 x33 :: .int .u8 x34 :: .int .u8 x35 :: .slice x36.a x36.len x36.cap :: []
@[reducible] def dY (w : World) (a : Addr) (K : Int -> Int -> Int -> Int -> Int -> Int -> Int -> Int -> Int -> Int -> Int -> Int -> Int -> Int -> Int -> Int -> Int -> Int -> Int -> Int -> Int -> Int -> Int -> Int -> Int -> Int -> Int -> Int -> Int -> Int -> Int -> Int -> Int -> Int -> Int -> Int -> ah -> Prop) : Prop := Ld (.int .i64) w (a.add 0) fun x0 => Ld (.int .i64) w (a.add 1) fun x1 => Ld (.int .i64) w (a.add 2) fun x2 => Ld (.int .i64) w (a.add 3) fun x3 => Ld (.int .u8) w (a.add 4) fun x4 => Ld (.int .u8) w (a.add 5) fun x5 => Ld (.int .u8) w (a.add 6) fun x6 => Ld (.int .u8) w (a.add 7) fun x7 => Ld (.int .u8) w (a.add 8) fun x8 => Ld (.int .u8) w (a.add 9) fun x9 => Ld (.int .u8) w (a.add 10) fun x10 => Ld (.int .u8) w (a.add 11) fun x11 => Ld (.int .u8) w (a.add 12) fun x12 => Ld (.int .u8) w (a.add 13) fun x13 => Ld (.int .u8) w (a.add 14) fun x14 => Ld (.int .u8) w (a.add 15) fun x15 => Ld (.int .u8) w (a.add 16) fun x16 => Ld (.int .u8) w (a.add 17) fun x17 => Ld (.int .u8) w (a.add 18) fun x18 => Ld (.int .u8) w (a.add 19) fun x19 => Ld (.int .u8) w (a.add 20) fun x20 => Ld (.int .u8) w (a.add 21) fun x21 => Ld (.int .u8) w (a.add 22) fun x22 => Ld (.int .u8) w (a.add 23) fun x23 => Ld (.int .u8) w (a.add 24) fun x24 => Ld (.int .u8) w (a.add 25) fun x25 => Ld (.int .u8) w (a.add 26) fun x26 => Ld (.int .u8) w (a.add 27) fun x27 => Ld (.int .u8) w (a.add 28) fun x28 => Ld (.int .u8) w (a.add 29) fun x29 => Ld (.int .u8) w (a.add 30) fun x30 => Ld (.int .u8) w (a.add 31) fun x31 => Ld (.int .u8) w (a.add 32) fun x32 => Ld (.int .u8) w (a.add 33) fun x33 => Ld (.int .u8) w (a.add 34) fun x34 => Ld (.int .u8) w (a.add 35) fun x35 => Ld .slice w (a.add 36) fun x36 => K x0 x1 x2 x3 x4 x5 x6 x7 x8 x9 x10 x11 x12 x13 x14 x15 x16 x17 x18 x19 x20 x21 x22 x23 x24 x25 x26 x27 x28 x29 x30 x31 x32 x33 x34 x35 x36
abbrev Vu : List Kind := (.int .u8) :: (.int .u8) :: (.int .u8) :: (.int .u8) :: (.int .u8) :: (.int .u8) :: (.int .u8) :: (.int .u8) :: (.int .u8) :: (.int .u8) :: (.int .u8) :: (.int .u8) :: (.int .u8) :: (.int .u8) :: (.int .u8) :: (.int .u8) :: (.int .u8) :: (.int .u8) :: (.int .u8) :: (.int .u8) :: (.int .u8) :: (.int .u8) :: (.int .u8) :: (.int .u8) :: (.int .u8) :: (.int .u8) :: (.int .u8) :: (.int .u8) :: (.int .u8) :: (.int .u8) :: (.int .u8) :: (.int .u8) :: (.int .i64) :: (.int .i64) :: (.int .i64) :: (.int .i64) :: (.int .i64) :: []
@[reducible] def xg (x0 x1 x2 x3 x4 x5 x6 x7 x8 x9 x10 x11 x12 x13 x14 x15 x16 x17 x18 x19 x20 x21 x22 x23 x24 x25 x26 x27 x28 x29 x30 x31 x32 x33 x34 x35 x36 : Int) : List Value := .int .u8 x0 :: .int .u8 x1 :: .int .u8 x2 :: .int .u8 x3 :: .int .u8 x4 :: .int .u8 x5 :: .int .u8 x6 :: .int .u8 x7 :: .int .u8 x8 :: .int .u8 x9 :: .int .u8 x10 :: .int .u8 x11 :: .int .u8 x12 :: .int .u8 x13 :: .int .u8 x14 :: .int .u8 x15 :: .int .u8 x16 :: .int .u8 x17 :: .int .u8 x18 :: .int .u8 x19 :: .int .u8 x20 :: .int .u8 x21 :: .int .u8 x22 :: .int .u8 x23 :: .int .u8 x24 :: .int .u8 x25 :: .int .u8 x26 :: .int .u8 x27 :: .int .u8 x28 :: .int .u8 x29 :: .int .u8 x30 :: .int .u8 x31 :: .int .i64 x32 :: .int .i64 x33 :: .int .i64 x34 :: .int .i64 x35 :: .int .i64 x36 :: []
@[reducible] def Np (w : World) (a : Addr) (K : Int -> Int -> Int -> Int -> Int -> Int -> Int -> Int -> Int -> Int -> Int -> Int -> Int -> Int -> Int -> Int -> Int -> Int -> Int -> Int -> Int -> Int -> Int -> Int -> Int -> Int -> Int -> Int -> Int -> Int -> Int -> Int -> Int -> Int -> Int -> Int -> Int -> Prop) : Prop := Ld (.int .u8) w (a.add 0) fun x0 => Ld (.int .u8) w (a.add 1) fun x1 => Ld (.int .u8) w (a.add 2) fun x2 => Ld (.int .u8) w (a.add 3) fun x3 => Ld (.int .u8) w (a.add 4) fun x4 => Ld (.int .u8) w (a.add 5) fun x5 => Ld (.int .u8) w (a.add 6) fun x6 => Ld (.int .u8) w (a.add 7) fun x7 => Ld (.int .u8) w (a.add 8) fun x8 => Ld (.int .u8) w (a.add 9) fun x9 => Ld (.int .u8) w (a.add 10) fun x10 => Ld (.int .u8) w (a.add 11) fun x11 => Ld (.int .u8) w (a.add 12) fun x12 => Ld (.int .u8) w (a.add 13) fun x13 => Ld (.int .u8) w (a.add 14) fun x14 => Ld (.int .u8) w (a.add 15) fun x15 => Ld (.int .u8) w (a.add 16) fun x16 => Ld (.int .u8) w (a.add 17) fun x17 => Ld (.int .u8) w (a.add 18) fun x18 => Ld (.int .u8) w (a.add 19) fun x19 => Ld (.int .u8) w (a.add 20) fun x20 => Ld (.int .u8) w (a.add 21) fun x21 => Ld (.int .u8) w (a.add 22) fun x22 => Ld (.int .u8) w (a.add 23) fun x23 => Ld (.int .u8) w (a.add 24) fun x24 => Ld (.int .u8) w (a.add 25) fun x25 => Ld (.int .u8) w (a.add 26) fun x26 => Ld (.int .u8) w (a.add 27) fun x27 => Ld (.int .u8) w (a.add 28) fun x28 => Ld (.int .u8) w (a.add 29) fun x29 => Ld (.int .u8) w (a.add 30) fun x30 => Ld (.int .u8) w (a.add 31) fun x31 => Ld (.int .i64) w (a.add 32) fun x32 => Ld (.int .i64) w (a.add 33) fun x33 => Ld (.int .i64) w (a.add 34) fun x34 => Ld (.int .i64) w (a.add 35) fun x35 => Ld (.int .i64) w (a.add 36) fun x36 => K x0 x1 x2 x3 x4 x5 x6 x7 x8 x9 x10 x11 x12 x13 x14 x15 x16 x17 x18 x19 x20 x21 x22 x23 x24 x25 x26 x27 x28 x29 x30 x31 x32 x33 x34 x35 x36
@[reducible] def VQ (x0 x1 x2 x3 x4 x5 x6 x7 x8 x9 x10 x11 x12 x13 x14 x15 x16 x17 x18 x19 x20 x21 x22 x23 x24 x25 x26 x27 x28 x29 x30 x31 x32 x33 x34 x35 x36 : Int) (x37 x38 : Option Addr) (x39 x40 : Int) : List Value := .int .u8 x0 :: .int .u8 x1 :: .int .u8 x2 :: .int .u8 x3 :: .int .u8 x4 :: .int .u8 x5 :: .int .u8 x6 :: .int .u8 x7 :: .int .u8 x8 :: .int .u8 x9 :: .int .u8 x10 :: .int .u8 x11 :: .int .u8 x12 :: .int .u8 x13 :: .int .u8 x14 :: .int .u8 x15 :: .int .u8 x16 :: .int .u8 x17 :: .int .u8 x18 :: .int .u8 x19 :: .int .u8 x20 :: .int .u8 x21 :: .int .u8 x22 :: .int .u8 x23 :: .int .u8 x24 :: .int .u8 x25 :: .int .u8 x26 :: .int .u8 x27 :: .int .u8 x28 :: .int .u8 x29 :: .int .u8 x30 :: .int .u8 x31 :: .int .i64 x32 :: .int .i64 x33 :: .int .i64 x34 :: .int .i64 x35 :: .int .i64 x36 :: .pointer x37 :: .pointer x38 :: .int .i64 x39 :: .int .i64 x40 :: []
@[reducible] def sJ (x0 x1 x2 x3 x4 x5 x6 x7 x8 x9 x10 x11 x12 x13 x14 x15 : Int) : List Value := .int .u8 x0 :: .int .u8 x1 :: .int .u8 x2 :: .int .u8 x3 :: .int .u8 x4 :: .int .u8 x5 :: .int .u8 x6 :: .int .u8 x7 :: .int .u8 x8 :: .int .u8 x9 :: .int .u8 x10 :: .int .u8 x11 :: .int .u8 x12 :: .int .u8 x13 :: .int .u8 x14 :: .int .u8 x15 :: []
@[reducible] def pY (w : World) (a : Addr) (K : Int -> Int -> Int -> Int -> Int -> Int -> Int -> Int -> Int -> Int -> Int -> Int -> Int -> Int -> Int -> Int -> Prop) : Prop := Ld (.int .u8) w (a.add 0) fun x0 => Ld (.int .u8) w (a.add 1) fun x1 => Ld (.int .u8) w (a.add 2) fun x2 => Ld (.int .u8) w (a.add 3) fun x3 => Ld (.int .u8) w (a.add 4) fun x4 => Ld (.int .u8) w (a.add 5) fun x5 => Ld (.int .u8) w (a.add 6) fun x6 => Ld (.int .u8) w (a.add 7) fun x7 => Ld (.int .u8) w (a.add 8) fun x8 => Ld (.int .u8) w (a.add 9) fun x9 => Ld (.int .u8) w (a.add 10) fun x10 => Ld (.int .u8) w (a.add 11) fun x11 => Ld (.int .u8) w (a.add 12) fun x12 => Ld (.int .u8) w (a.add 13) fun x13 => Ld (.int .u8) w (a.add 14) fun x14 => Ld (.int .u8) w (a.add 15) fun x15 => K x0 x1 x2 x3 x4 x5 x6 x7 x8 x9 x10 x11 x12 x13 x14 x15
abbrev Gm : List Kind := (.int .i64) :: (.int .i64) :: (.int .i64) :: (.int .i64) :: (.int .i64) :: (.int .i64) :: (.int .i64) :: .bool :: .bool :: .slice :: .slice :: []
@[reducible] def aO (x0 x1 x2 x3 x4 x5 x6 : Int) (x7 x8 : Bool) (x9 x10 : ah) : List Value := .int .i64 x0 :: .int .i64 x1 :: .int .i64 x2 :: .int .i64 x3 :: .int .i64 x4 :: .int .i64 x5 :: .int .i64 x6 :: .bool x7 :: .bool x8 :: .slice x9.a x9.len x9.cap :: .slice x10.a x10.len x10.cap :: []
@[reducible] def bZ (w : World) (a : Addr) (K : Int -> Int -> Int -> Int -> Int -> Int -> Int -> Bool -> Bool -> ah -> ah -> Prop) : Prop := Ld (.int .i64) w (a.add 0) fun x0 => Ld (.int .i64) w (a.add 1) fun x1 => Ld (.int .i64) w (a.add 2) fun x2 => Ld (.int .i64) w (a.add 3) fun x3 => Ld (.int .i64) w (a.add 4) fun x4 => Ld (.int .i64) w (a.add 5) fun x5 => Ld (.int .i64) w (a.add 6) fun x6 => Ld .bool w (a.add 7) fun x7 => Ld .bool w (a.add 8) fun x8 => Ld .slice w (a.add 9) fun x9 => Ld .slice w (a.add 10) fun x10 => K x0 x1 x2 x3 x4 x5 x6 x7 x8 x9 x10
@[reducible] def VA (x0 x1 x2 x3 x4 x5 x6 x7 x8 x9 x10 x11 x12 x13 x14 x15 x16 x17 x18 x19 : Int) : List Value := .int .i64 x0 :: .int .i64 x1 :: .int .i64 x2 :: .int .i64 x3 :: .int .i64 x4 :: .int .i64 x5 :: .int .i64 x6 :: .int .i64 x7 :: .int .i64 x8 :: .int .i64 x9 :: .int .i64 x10 :: .int .i64 x11 :: .int .i64 x12 :: .int .i64 x13 :: .int .i64 x14 :: .int .i64 x15 :: .int .i64 x16 :: .int .i64 x17 :: .int .i64 x18 :: .int .i64 x19 :: []
def uG (a0 a1 : ah) (w : World) (K : Bool -> World -> Prop) : Prop :=
 ak Tryz.prog 3 [.slice a0.a a0.len a0.cap, .slice a1.a a1.len a1.cap] [.one .bool] w K
def iK  (w : World) (K : Bool -> World -> Prop) : Prop :=
 ak Tryz.prog 4 [] [.one .bool] w K
theorem sO { w K K'} : iK  w K -> (∀ x0 w, K x0 w -> K' x0 w) -> iK  w K' := ak.mono
def pJ (A0 A1 A2 A3 A4 A5 A6 A7 A8 A9 A10 A11 A12 A13 A14 A15 A16 A17 A18 A19 A20 A21 A22 A23 A24 A25 A26 A27 A28 A29 A30 A31 A32 A33 A34 A35 A36 : Int) (w : World) (K : (Option Addr) -> Int -> World -> Prop) : Prop :=
 ak Tryz.prog 5 [.agg ⟨xg A0 A1 A2 A3 A4 A5 A6 A7 A8 A9 A10 A11 A12 A13 A14 A15 A16 A17 A18 A19 A20 A21 A22 A23 A24 A25 A26 A27 A28 A29 A30 A31 A32 A33 A34 A35 A36⟩] [.one .ptr, .one (.int .i64)] w K
theorem Gh {A0 A1 A2 A3 A4 A5 A6 A7 A8 A9 A10 A11 A12 A13 A14 A15 A16 A17 A18 A19 A20 A21 A22 A23 A24 A25 A26 A27 A28 A29 A30 A31 A32 A33 A34 A35 A36 w K K'} : pJ A0 A1 A2 A3 A4 A5 A6 A7 A8 A9 A10 A11 A12 A13 A14 A15 A16 A17 A18 A19 A20 A21 A22 A23 A24 A25 A26 A27 A28 A29 A30 A31 A32 A33 A34 A35 A36 w K -> (∀ x0 x1 w, K x0 x1 w -> K' x0 x1 w) -> pJ A0 A1 A2 A3 A4 A5 A6 A7 A8 A9 A10 A11 A12 A13 A14 A15 A16 A17 A18 A19 A20 A21 A22 A23 A24 A25 A26 A27 A28 A29 A30 A31 A32 A33 A34 A35 A36 w K' := ak.mono
def jW  (w : World) (K : Int -> Int -> Int -> Int -> Int -> Int -> Int -> Int -> Int -> Int -> Int -> Int -> Int -> Int -> Int -> Int -> Int -> Int -> Int -> Int -> Int -> Int -> Int -> Int -> Int -> Int -> Int -> Int -> Int -> Int -> Int -> Int -> Int -> Int -> Int -> Int -> Int -> World -> Prop) : Prop :=
 ak Tryz.prog 6 [] [.agg Vu] w K
def dw (a0 a1 a2 a3 a4 : Int) (a5 : ah) (w : World) (K : ah -> World -> Prop) : Prop :=
 ak Tryz.prog 7 [.int .i64 a0, .int .i64 a1, .int .i64 a2, .int .i64 a3, .int .i64 a4, .slice a5.a a5.len a5.cap] [.one .slice] w K
theorem iT {a0 a1 a2 a3 a4 a5 w K K'} : dw a0 a1 a2 a3 a4 a5 w K -> (∀ x0 w, K x0 w -> K' x0 w) -> dw a0 a1 a2 a3 a4 a5 w K' := ak.mono
def lH (A0 A1 A2 A3 A4 A5 A6 A7 A8 A9 A10 A11 A12 A13 A14 A15 A16 A17 A18 A19 A20 A21 A22 A23 A24 A25 A26 A27 A28 A29 A30 A31 A32 A33 A34 A35 : Int) (A36 : ah) (a1 a2 : Int) (w : World) (K : ah -> Int -> World -> Prop) : Prop :=
 ak Tryz.prog 8 [.agg ⟨bG A0 A1 A2 A3 A4 A5 A6 A7 A8 A9 A10 A11 A12 A13 A14 A15 A16 A17 A18 A19 A20 A21 A22 A23 A24 A25 A26 A27 A28 A29 A30 A31 A32 A33 A34 A35 A36⟩, .int .i64 a1, .int .i64 a2] [.one .slice, .one (.int .i64)] w K
theorem zZ {A0 A1 A2 A3 A4 A5 A6 A7 A8 A9 A10 A11 A12 A13 A14 A15 A16 A17 A18 A19 A20 A21 A22 A23 A24 A25 A26 A27 A28 A29 A30 A31 A32 A33 A34 A35 A36 a1 a2 w K K'} : lH A0 A1 A2 A3 A4 A5 A6 A7 A8 A9 A10 A11 A12 A13 A14 A15 A16 A17 A18 A19 A20 A21 A22 A23 A24 A25 A26 A27 A28 A29 A30 A31 A32 A33 A34 A35 A36 a1 a2 w K -> (∀ x0 x1 w, K x0 x1 w -> K' x0 x1 w) -> lH A0 A1 A2 A3 A4 A5 A6 A7 A8 A9 A10 A11 A12 A13 A14 A15 A16 A17 A18 A19 A20 A21 A22 A23 A24 A25 A26 A27 A28 A29 A30 A31 A32 A33 A34 A35 A36 a1 a2 w K' := ak.mono
def jP (A0 A1 A2 A3 A4 A5 A6 A7 A8 A9 A10 A11 A12 A13 A14 A15 A16 A17 A18 A19 A20 A21 A22 A23 A24 A25 A26 A27 A28 A29 A30 A31 A32 A33 A34 A35 : Int) (A36 : ah) (w : World) (K : ah -> Int -> World -> Prop) : Prop :=
 ak Tryz.prog 9 [.agg ⟨bG A0 A1 A2 A3 A4 A5 A6 A7 A8 A9 A10 A11 A12 A13 A14 A15 A16 A17 A18 A19 A20 A21 A22 A23 A24 A25 A26 A27 A28 A29 A30 A31 A32 A33 A34 A35 A36⟩] [.one .slice, .one (.int .i64)] w K
theorem Cj {A0 A1 A2 A3 A4 A5 A6 A7 A8 A9 A10 A11 A12 A13 A14 A15 A16 A17 A18 A19 A20 A21 A22 A23 A24 A25 A26 A27 A28 A29 A30 A31 A32 A33 A34 A35 A36 w K K'} : jP A0 A1 A2 A3 A4 A5 A6 A7 A8 A9 A10 A11 A12 A13 A14 A15 A16 A17 A18 A19 A20 A21 A22 A23 A24 A25 A26 A27 A28 A29 A30 A31 A32 A33 A34 A35 A36 w K -> (∀ x0 x1 w, K x0 x1 w -> K' x0 x1 w) -> jP A0 A1 A2 A3 A4 A5 A6 A7 A8 A9 A10 A11 A12 A13 A14 A15 A16 A17 A18 A19 A20 A21 A22 A23 A24 A25 A26 A27 A28 A29 A30 A31 A32 A33 A34 A35 A36 w K' := ak.mono
def h_ (a0 : Option Addr) (a1 : ah) (w : World) (K : ah -> ah -> Int -> World -> Prop) : Prop :=
 ak Tryz.prog 10 [.pointer a0, .slice a1.a a1.len a1.cap] [.one .slice, .one .slice, .one (.int .i64)] w K
theorem A_ {a0 a1 w K K'} : h_ a0 a1 w K -> (∀ x0 x1 x2 w, K x0 x1 x2 w -> K' x0 x1 x2 w) -> h_ a0 a1 w K' := ak.mono
def iG (a0 : Option Addr) (a1 : ah) (w : World) (K : ah -> ah -> Int -> World -> Prop) : Prop :=
 ak Tryz.prog 11 [.pointer a0, .slice a1.a a1.len a1.cap] [.one .slice, .one .slice, .one (.int .i64)] w K
theorem wI {a0 a1 w K K'} : iG a0 a1 w K -> (∀ x0 x1 x2 w, K x0 x1 x2 w -> K' x0 x1 x2 w) -> iG a0 a1 w K' := ak.mono
def zq  (w : World) (K : Int -> World -> Prop) : Prop :=
 ak Tryz.prog 12 [] [.one (.int .i64)] w K
def je (A0 A1 A2 A3 A4 A5 A6 A7 A8 A9 A10 A11 A12 A13 A14 A15 A16 A17 A18 A19 A20 A21 A22 A23 A24 A25 A26 A27 A28 A29 A30 A31 A32 A33 A34 A35 A36 : Int) (w : World) (K : Bool -> World -> Prop) : Prop :=
 ak Tryz.prog 13 [.agg ⟨xg A0 A1 A2 A3 A4 A5 A6 A7 A8 A9 A10 A11 A12 A13 A14 A15 A16 A17 A18 A19 A20 A21 A22 A23 A24 A25 A26 A27 A28 A29 A30 A31 A32 A33 A34 A35 A36⟩] [.one .bool] w K
theorem rZ {A0 A1 A2 A3 A4 A5 A6 A7 A8 A9 A10 A11 A12 A13 A14 A15 A16 A17 A18 A19 A20 A21 A22 A23 A24 A25 A26 A27 A28 A29 A30 A31 A32 A33 A34 A35 A36 w K K'} : je A0 A1 A2 A3 A4 A5 A6 A7 A8 A9 A10 A11 A12 A13 A14 A15 A16 A17 A18 A19 A20 A21 A22 A23 A24 A25 A26 A27 A28 A29 A30 A31 A32 A33 A34 A35 A36 w K -> (∀ x0 w, K x0 w -> K' x0 w) -> je A0 A1 A2 A3 A4 A5 A6 A7 A8 A9 A10 A11 A12 A13 A14 A15 A16 A17 A18 A19 A20 A21 A22 A23 A24 A25 A26 A27 A28 A29 A30 A31 A32 A33 A34 A35 A36 w K' := ak.mono
def lN (a0 a1 a2 : Int) (w : World) (K : (Option Addr) -> Int -> World -> Prop) : Prop :=
 ak Tryz.prog 14 [.int .i64 a0, .int .i64 a1, .int .i64 a2] [.one .ptr, .one (.int .i64)] w K
theorem Aa {a0 a1 a2 w K K'} : lN a0 a1 a2 w K -> (∀ x0 x1 w, K x0 x1 w -> K' x0 x1 w) -> lN a0 a1 a2 w K' := ak.mono
def kJ  (w : World) (K : (Option Addr) -> World -> Prop) : Prop :=
 ak Tryz.prog 15 [] [.one .ptr] w K
theorem wK { w K K'} : kJ  w K -> (∀ x0 w, K x0 w -> K' x0 w) -> kJ  w K' := ak.mono
def jG (a0 a1 C0 C1 : Int) (C2 : Bool) (C3 : ah) (w : World) (K : ah -> Int -> World -> Prop) : Prop :=
 ak Tryz.prog 16 [.int .i64 a0, .int .i64 a1, (.agg ⟨[.int .i64 C0, .int .i64 C1, .bool C2, .slice C3.a C3.len C3.cap]⟩)] [.one .slice, .one (.int .i64)] w K
theorem Ee {a0 a1 C0 C1 C2 C3 w K K'} : jG a0 a1 C0 C1 C2 C3 w K -> (∀ x0 x1 w, K x0 x1 w -> K' x0 x1 w) -> jG a0 a1 C0 C1 C2 C3 w K' := ak.mono
def jL (A0 A1 A2 A3 A4 A5 A6 : Int) (A7 A8 : Bool) (A9 A10 : ah) (w : World) (K : ah -> Int -> World -> Prop) : Prop :=
 ak Tryz.prog 17 [.agg ⟨aO A0 A1 A2 A3 A4 A5 A6 A7 A8 A9 A10⟩] [.one .slice, .one (.int .i64)] w K
theorem DY {A0 A1 A2 A3 A4 A5 A6 A7 A8 A9 A10 w K K'} : jL A0 A1 A2 A3 A4 A5 A6 A7 A8 A9 A10 w K -> (∀ x0 x1 w, K x0 x1 w -> K' x0 x1 w) -> jL A0 A1 A2 A3 A4 A5 A6 A7 A8 A9 A10 w K' := ak.mono
def bY (a0 a1 : Int) (w : World) (K : Bool -> World -> Prop) : Prop :=
 ak Tryz.prog 18 [.int .i64 a0, .int .i64 a1] [.one .bool] w K
theorem cu {a0 a1 w K K'} : bY a0 a1 w K -> (∀ x0 w, K x0 w -> K' x0 w) -> bY a0 a1 w K' := ak.mono
def jS (A0 A1 A2 A3 A4 A5 A6 A7 A8 A9 A10 A11 A12 A13 A14 A15 A16 A17 A18 A19 A20 A21 A22 A23 A24 A25 A26 A27 A28 A29 A30 A31 A32 A33 A34 A35 : Int) (A36 : ah) (w : World) (K : Int -> World -> Prop) : Prop :=
 ak Tryz.prog 19 [.agg ⟨bG A0 A1 A2 A3 A4 A5 A6 A7 A8 A9 A10 A11 A12 A13 A14 A15 A16 A17 A18 A19 A20 A21 A22 A23 A24 A25 A26 A27 A28 A29 A30 A31 A32 A33 A34 A35 A36⟩] [.one (.int .i64)] w K
theorem tV {A0 A1 A2 A3 A4 A5 A6 A7 A8 A9 A10 A11 A12 A13 A14 A15 A16 A17 A18 A19 A20 A21 A22 A23 A24 A25 A26 A27 A28 A29 A30 A31 A32 A33 A34 A35 A36 w K K'} : jS A0 A1 A2 A3 A4 A5 A6 A7 A8 A9 A10 A11 A12 A13 A14 A15 A16 A17 A18 A19 A20 A21 A22 A23 A24 A25 A26 A27 A28 A29 A30 A31 A32 A33 A34 A35 A36 w K -> (∀ x0 w, K x0 w -> K' x0 w) -> jS A0 A1 A2 A3 A4 A5 A6 A7 A8 A9 A10 A11 A12 A13 A14 A15 A16 A17 A18 A19 A20 A21 A22 A23 A24 A25 A26 A27 A28 A29 A30 A31 A32 A33 A34 A35 A36 w K' := ak.mono
def qJ (A0 A1 A2 A3 A4 A5 A6 A7 A8 A9 A10 A11 A12 A13 A14 A15 A16 A17 A18 A19 A20 A21 A22 A23 A24 A25 A26 A27 A28 A29 A30 A31 A32 A33 A34 A35 : Int) (A36 : ah) (w : World) (K : Int -> World -> Prop) : Prop :=
 ak Tryz.prog 20 [.agg ⟨bG A0 A1 A2 A3 A4 A5 A6 A7 A8 A9 A10 A11 A12 A13 A14 A15 A16 A17 A18 A19 A20 A21 A22 A23 A24 A25 A26 A27 A28 A29 A30 A31 A32 A33 A34 A35 A36⟩] [.one (.int .i64)] w K
theorem Nr {A0 A1 A2 A3 A4 A5 A6 A7 A8 A9 A10 A11 A12 A13 A14 A15 A16 A17 A18 A19 A20 A21 A22 A23 A24 A25 A26 A27 A28 A29 A30 A31 A32 A33 A34 A35 A36 w K K'} : qJ A0 A1 A2 A3 A4 A5 A6 A7 A8 A9 A10 A11 A12 A13 A14 A15 A16 A17 A18 A19 A20 A21 A22 A23 A24 A25 A26 A27 A28 A29 A30 A31 A32 A33 A34 A35 A36 w K -> (∀ x0 w, K x0 w -> K' x0 w) -> qJ A0 A1 A2 A3 A4 A5 A6 A7 A8 A9 A10 A11 A12 A13 A14 A15 A16 A17 A18 A19 A20 A21 A22 A23 A24 A25 A26 A27 A28 A29 A30 A31 A32 A33 A34 A35 A36 w K' := ak.mono
def aC (a0 : ah) (w : World) (K : ah -> World -> Prop) : Prop :=
 ak Tryz.prog 21 [.slice a0.a a0.len a0.cap] [.one .slice] w K
theorem aI {a0 w K K'} : aC a0 w K -> (∀ x0 w, K x0 w -> K' x0 w) -> aC a0 w K' := ak.mono
def jK (a0 : ah) (a1 : Int) (w : World) (K : Value -> World -> Prop) : Prop :=
 ak Tryz.prog 22 [.slice a0.a a0.len a0.cap, .int .i64 a1] [.one .any] w K
theorem DK {a0 a1 w K K'} : jK a0 a1 w K -> (∀ x0 w, K x0 w -> K' x0 w) -> jK a0 a1 w K' := ak.mono
def gX (A0 A1 A2 : Int) (A3 : Bool) (w : World) (K : ah -> Int -> World -> Prop) : Prop :=
 ak Tryz.prog 23 [(.agg ⟨[.int .i64 A0, .int .i64 A1, .int .i64 A2, .bool A3]⟩)] [.one .slice, .one (.int .i64)] w K
theorem AX {A0 A1 A2 A3 w K K'} : gX A0 A1 A2 A3 w K -> (∀ x0 x1 w, K x0 x1 w -> K' x0 x1 w) -> gX A0 A1 A2 A3 w K' := ak.mono
def jJ (A0 A1 A2 A3 A4 A5 A6 A7 A8 A9 A10 A11 A12 A13 A14 A15 A16 A17 A18 A19 A20 A21 A22 A23 A24 A25 A26 A27 A28 A29 A30 A31 A32 A33 A34 A35 : Int) (A36 : ah) (w : World) (K : Int -> World -> Prop) : Prop :=
 ak Tryz.prog 24 [.agg ⟨bG A0 A1 A2 A3 A4 A5 A6 A7 A8 A9 A10 A11 A12 A13 A14 A15 A16 A17 A18 A19 A20 A21 A22 A23 A24 A25 A26 A27 A28 A29 A30 A31 A32 A33 A34 A35 A36⟩] [.one (.int .i64)] w K
theorem BK {A0 A1 A2 A3 A4 A5 A6 A7 A8 A9 A10 A11 A12 A13 A14 A15 A16 A17 A18 A19 A20 A21 A22 A23 A24 A25 A26 A27 A28 A29 A30 A31 A32 A33 A34 A35 A36 w K K'} : jJ A0 A1 A2 A3 A4 A5 A6 A7 A8 A9 A10 A11 A12 A13 A14 A15 A16 A17 A18 A19 A20 A21 A22 A23 A24 A25 A26 A27 A28 A29 A30 A31 A32 A33 A34 A35 A36 w K -> (∀ x0 w, K x0 w -> K' x0 w) -> jJ A0 A1 A2 A3 A4 A5 A6 A7 A8 A9 A10 A11 A12 A13 A14 A15 A16 A17 A18 A19 A20 A21 A22 A23 A24 A25 A26 A27 A28 A29 A30 A31 A32 A33 A34 A35 A36 w K' := ak.mono
def aY (a0 : ah) (a1 a2 : Int) (w : World) (K : ah -> World -> Prop) : Prop :=
 ak Tryz.prog 25 [.slice a0.a a0.len a0.cap, .int .i64 a1, .int .i64 a2] [.one .slice] w K
theorem bD {a0 a1 a2 w K K'} : aY a0 a1 a2 w K -> (∀ x0 w, K x0 w -> K' x0 w) -> aY a0 a1 a2 w K' := ak.mono
def iL (a0 : Option Addr) (w : World) (K : Bool -> World -> Prop) : Prop :=
 ak Tryz.prog 26 [.pointer a0] [.one .bool] w K
theorem pF {a0 w K K'} : iL a0 w K -> (∀ x0 w, K x0 w -> K' x0 w) -> iL a0 w K' := ak.mono
def oN (a0 : ah) (w : World) (K : Int -> Int -> Int -> Int -> Int -> Int -> Int -> Int -> Int -> Int -> Int -> Int -> Int -> Int -> Int -> Int -> Int -> Int -> Int -> Int -> Int -> Int -> Int -> Int -> Int -> Int -> Int -> Int -> Int -> Int -> Int -> Int -> Int -> Int -> Int -> Int -> ah -> Int -> World -> Prop) : Prop :=
 ak Tryz.prog 27 [.slice a0.a a0.len a0.cap] [.agg Rn, .one (.int .i64)] w K
theorem JD {a0 w K K'} : oN a0 w K -> (∀ x0 x1 x2 x3 x4 x5 x6 x7 x8 x9 x10 x11 x12 x13 x14 x15 x16 x17 x18 x19 x20 x21 x22 x23 x24 x25 x26 x27 x28 x29 x30 x31 x32 x33 x34 x35 x36 x37 w, K x0 x1 x2 x3 x4 x5 x6 x7 x8 x9 x10 x11 x12 x13 x14 x15 x16 x17 x18 x19 x20 x21 x22 x23 x24 x25 x26 x27 x28 x29 x30 x31 x32 x33 x34 x35 x36 x37 w -> K' x0 x1 x2 x3 x4 x5 x6 x7 x8 x9 x10 x11 x12 x13 x14 x15 x16 x17 x18 x19 x20 x21 x22 x23 x24 x25 x26 x27 x28 x29 x30 x31 x32 x33 x34 x35 x36 x37 w) -> oN a0 w K' := ak.mono
def bJ (a0 : Option Addr) (a1 : Int) (w : World) (K : Int -> World -> Prop) : Prop :=
 ak Tryz.prog 28 [.pointer a0, .int .i64 a1] [.one (.int .i64)] w K
theorem wz {a0 a1 w K K'} : bJ a0 a1 w K -> (∀ x0 w, K x0 w -> K' x0 w) -> bJ a0 a1 w K' := ak.mono
def IY (a0 : Option Addr) (B0 B1 B2 B3 B4 B5 B6 B7 B8 B9 B10 B11 B12 B13 B14 B15 B16 B17 B18 B19 B20 B21 B22 B23 B24 B25 B26 B27 B28 B29 B30 B31 B32 B33 B34 B35 : Int) (B36 : ah) (w : World) (K : ah -> Int -> World -> Prop) : Prop :=
 ak Tryz.prog 29 [.pointer a0, .agg ⟨bG B0 B1 B2 B3 B4 B5 B6 B7 B8 B9 B10 B11 B12 B13 B14 B15 B16 B17 B18 B19 B20 B21 B22 B23 B24 B25 B26 B27 B28 B29 B30 B31 B32 B33 B34 B35 B36⟩] [.one .slice, .one (.int .i64)] w K
def gu (a0 : Option Addr) (B0 B1 B2 B3 B4 B5 B6 B7 B8 B9 B10 B11 B12 B13 B14 B15 B16 B17 B18 B19 B20 B21 B22 B23 B24 B25 B26 B27 B28 B29 B30 B31 B32 B33 B34 B35 : Int) (B36 : ah) (w : World) (K : ah -> Int -> Int -> Bool -> World -> Prop) : Prop :=
 ak Tryz.prog 30 [.pointer a0, .agg ⟨bG B0 B1 B2 B3 B4 B5 B6 B7 B8 B9 B10 B11 B12 B13 B14 B15 B16 B17 B18 B19 B20 B21 B22 B23 B24 B25 B26 B27 B28 B29 B30 B31 B32 B33 B34 B35 B36⟩] [.one .slice, .one (.int .i64), .one (.int .i64), .one .bool] w K
theorem oV {a0 B0 B1 B2 B3 B4 B5 B6 B7 B8 B9 B10 B11 B12 B13 B14 B15 B16 B17 B18 B19 B20 B21 B22 B23 B24 B25 B26 B27 B28 B29 B30 B31 B32 B33 B34 B35 B36 w K K'} : gu a0 B0 B1 B2 B3 B4 B5 B6 B7 B8 B9 B10 B11 B12 B13 B14 B15 B16 B17 B18 B19 B20 B21 B22 B23 B24 B25 B26 B27 B28 B29 B30 B31 B32 B33 B34 B35 B36 w K -> (∀ x0 x1 x2 x3 w, K x0 x1 x2 x3 w -> K' x0 x1 x2 x3 w) -> gu a0 B0 B1 B2 B3 B4 B5 B6 B7 B8 B9 B10 B11 B12 B13 B14 B15 B16 B17 B18 B19 B20 B21 B22 B23 B24 B25 B26 B27 B28 B29 B30 B31 B32 B33 B34 B35 B36 w K' := ak.mono
def lK (a0 : ah) (w : World) (K : Int -> Int -> Int -> Int -> Int -> Int -> Int -> Bool -> Bool -> ah -> ah -> Int -> World -> Prop) : Prop :=
 ak Tryz.prog 31 [.slice a0.a a0.len a0.cap] [.agg Gm, .one (.int .i64)] w K
theorem tN {a0 w K K'} : lK a0 w K -> (∀ x0 x1 x2 x3 x4 x5 x6 x7 x8 x9 x10 x11 w, K x0 x1 x2 x3 x4 x5 x6 x7 x8 x9 x10 x11 w -> K' x0 x1 x2 x3 x4 x5 x6 x7 x8 x9 x10 x11 w) -> lK a0 w K' := ak.mono
def jR (A0 A1 A2 A3 A4 A5 A6 : Int) (A7 A8 : Bool) (A9 A10 : ah) (a1 : Int) (w : World) (K : ah -> World -> Prop) : Prop :=
 ak Tryz.prog 32 [.agg ⟨aO A0 A1 A2 A3 A4 A5 A6 A7 A8 A9 A10⟩, .int .i64 a1] [.one .slice] w K
theorem zX {A0 A1 A2 A3 A4 A5 A6 A7 A8 A9 A10 a1 w K K'} : jR A0 A1 A2 A3 A4 A5 A6 A7 A8 A9 A10 a1 w K -> (∀ x0 w, K x0 w -> K' x0 w) -> jR A0 A1 A2 A3 A4 A5 A6 A7 A8 A9 A10 a1 w K' := ak.mono
def jd (a0 : Int) (w : World) (K : Bool -> World -> Prop) : Prop :=
 ak Tryz.prog 33 [.int .i64 a0] [.one .bool] w K
theorem oz {a0 w K K'} : jd a0 w K -> (∀ x0 w, K x0 w -> K' x0 w) -> jd a0 w K' := ak.mono
def oW (A0 A1 A2 A3 A4 A5 A6 : Int) (A7 A8 : Bool) (A9 A10 : ah) (w : World) (K : Int -> Int -> Int -> Int -> Int -> Int -> Int -> Bool -> Bool -> ah -> ah -> Bool -> World -> Prop) : Prop :=
 ak Tryz.prog 34 [.agg ⟨aO A0 A1 A2 A3 A4 A5 A6 A7 A8 A9 A10⟩] [.agg Gm, .one .bool] w K
theorem Aq {A0 A1 A2 A3 A4 A5 A6 A7 A8 A9 A10 w K K'} : oW A0 A1 A2 A3 A4 A5 A6 A7 A8 A9 A10 w K -> (∀ x0 x1 x2 x3 x4 x5 x6 x7 x8 x9 x10 x11 w, K x0 x1 x2 x3 x4 x5 x6 x7 x8 x9 x10 x11 w -> K' x0 x1 x2 x3 x4 x5 x6 x7 x8 x9 x10 x11 w) -> oW A0 A1 A2 A3 A4 A5 A6 A7 A8 A9 A10 w K' := ak.mono
def qV (A0 A1 A2 A3 A4 A5 A6 : Int) (A7 A8 : Bool) (A9 A10 : ah) (w : World) (K : ah -> World -> Prop) : Prop :=
 ak Tryz.prog 35 [.agg ⟨aO A0 A1 A2 A3 A4 A5 A6 A7 A8 A9 A10⟩] [.one .slice] w K
theorem Md {A0 A1 A2 A3 A4 A5 A6 A7 A8 A9 A10 w K K'} : qV A0 A1 A2 A3 A4 A5 A6 A7 A8 A9 A10 w K -> (∀ x0 w, K x0 w -> K' x0 w) -> qV A0 A1 A2 A3 A4 A5 A6 A7 A8 A9 A10 w K' := ak.mono
def jQ (A0 A1 A2 A3 A4 A5 A6 : Int) (A7 A8 : Bool) (A9 A10 : ah) (w : World) (K : ah -> Int -> World -> Prop) : Prop :=
 ak Tryz.prog 36 [.agg ⟨aO A0 A1 A2 A3 A4 A5 A6 A7 A8 A9 A10⟩] [.one .slice, .one (.int .i64)] w K
theorem qj {A0 A1 A2 A3 A4 A5 A6 A7 A8 A9 A10 w K K'} : jQ A0 A1 A2 A3 A4 A5 A6 A7 A8 A9 A10 w K -> (∀ x0 x1 w, K x0 x1 w -> K' x0 x1 w) -> jQ A0 A1 A2 A3 A4 A5 A6 A7 A8 A9 A10 w K' := ak.mono
def jX (A0 A1 A2 A3 A4 A5 A6 A7 A8 A9 A10 A11 A12 A13 A14 A15 B0 B1 B2 B3 B4 B5 B6 B7 B8 B9 B10 B11 B12 B13 B14 B15 a2 : Int) (a3 : ah) (w : World) (K : Int -> Int -> Int -> Int -> Int -> Int -> Int -> Int -> Int -> Int -> Int -> Int -> Int -> Int -> Int -> Int -> Int -> Int -> Int -> Int -> Int -> Int -> Int -> Int -> Int -> Int -> Int -> Int -> Int -> Int -> Int -> Int -> Int -> Int -> Int -> Int -> ah -> Int -> World -> Prop) : Prop :=
 ak Tryz.prog 37 [.agg ⟨sJ A0 A1 A2 A3 A4 A5 A6 A7 A8 A9 A10 A11 A12 A13 A14 A15⟩, .agg ⟨sJ B0 B1 B2 B3 B4 B5 B6 B7 B8 B9 B10 B11 B12 B13 B14 B15⟩, .int .i64 a2, .slice a3.a a3.len a3.cap] [.agg Rn, .one (.int .i64)] w K
theorem yc {A0 A1 A2 A3 A4 A5 A6 A7 A8 A9 A10 A11 A12 A13 A14 A15 B0 B1 B2 B3 B4 B5 B6 B7 B8 B9 B10 B11 B12 B13 B14 B15 a2 a3 w K K'} : jX A0 A1 A2 A3 A4 A5 A6 A7 A8 A9 A10 A11 A12 A13 A14 A15 B0 B1 B2 B3 B4 B5 B6 B7 B8 B9 B10 B11 B12 B13 B14 B15 a2 a3 w K -> (∀ x0 x1 x2 x3 x4 x5 x6 x7 x8 x9 x10 x11 x12 x13 x14 x15 x16 x17 x18 x19 x20 x21 x22 x23 x24 x25 x26 x27 x28 x29 x30 x31 x32 x33 x34 x35 x36 x37 w, K x0 x1 x2 x3 x4 x5 x6 x7 x8 x9 x10 x11 x12 x13 x14 x15 x16 x17 x18 x19 x20 x21 x22 x23 x24 x25 x26 x27 x28 x29 x30 x31 x32 x33 x34 x35 x36 x37 w -> K' x0 x1 x2 x3 x4 x5 x6 x7 x8 x9 x10 x11 x12 x13 x14 x15 x16 x17 x18 x19 x20 x21 x22 x23 x24 x25 x26 x27 x28 x29 x30 x31 x32 x33 x34 x35 x36 x37 w) -> jX A0 A1 A2 A3 A4 A5 A6 A7 A8 A9 A10 A11 A12 A13 A14 A15 B0 B1 B2 B3 B4 B5 B6 B7 B8 B9 B10 B11 B12 B13 B14 B15 a2 a3 w K' := ak.mono
def nH (a0 : Option Addr) (B0 B1 B2 B3 B4 B5 B6 B7 B8 B9 B10 B11 B12 B13 B14 B15 B16 B17 B18 B19 B20 B21 B22 B23 B24 B25 B26 B27 B28 B29 B30 B31 B32 B33 B34 B35 : Int) (B36 : ah) (w : World) (K : ah -> Int -> World -> Prop) : Prop :=
 ak Tryz.prog 38 [.pointer a0, .agg ⟨bG B0 B1 B2 B3 B4 B5 B6 B7 B8 B9 B10 B11 B12 B13 B14 B15 B16 B17 B18 B19 B20 B21 B22 B23 B24 B25 B26 B27 B28 B29 B30 B31 B32 B33 B34 B35 B36⟩] [.one .slice, .one (.int .i64)] w K
theorem Ie {a0 B0 B1 B2 B3 B4 B5 B6 B7 B8 B9 B10 B11 B12 B13 B14 B15 B16 B17 B18 B19 B20 B21 B22 B23 B24 B25 B26 B27 B28 B29 B30 B31 B32 B33 B34 B35 B36 w K K'} : nH a0 B0 B1 B2 B3 B4 B5 B6 B7 B8 B9 B10 B11 B12 B13 B14 B15 B16 B17 B18 B19 B20 B21 B22 B23 B24 B25 B26 B27 B28 B29 B30 B31 B32 B33 B34 B35 B36 w K -> (∀ x0 x1 w, K x0 x1 w -> K' x0 x1 w) -> nH a0 B0 B1 B2 B3 B4 B5 B6 B7 B8 B9 B10 B11 B12 B13 B14 B15 B16 B17 B18 B19 B20 B21 B22 B23 B24 B25 B26 B27 B28 B29 B30 B31 B32 B33 B34 B35 B36 w K' := ak.mono
def lM (A0 A1 A2 A3 A4 A5 A6 A7 A8 A9 A10 A11 A12 A13 A14 A15 : Int) (w : World) (K : Bool -> World -> Prop) : Prop :=
 ak Tryz.prog 39 [.agg ⟨sJ A0 A1 A2 A3 A4 A5 A6 A7 A8 A9 A10 A11 A12 A13 A14 A15⟩] [.one .bool] w K
theorem zT {A0 A1 A2 A3 A4 A5 A6 A7 A8 A9 A10 A11 A12 A13 A14 A15 w K K'} : lM A0 A1 A2 A3 A4 A5 A6 A7 A8 A9 A10 A11 A12 A13 A14 A15 w K -> (∀ x0 w, K x0 w -> K' x0 w) -> lM A0 A1 A2 A3 A4 A5 A6 A7 A8 A9 A10 A11 A12 A13 A14 A15 w K' := ak.mono
def fJ (a0 a1 a2 : Int) (w : World) (K : Bool -> World -> Prop) : Prop :=
 ak Tryz.prog 40 [.int .i64 a0, .int .i64 a1, .int .i64 a2] [.one .bool] w K
theorem kV {a0 a1 a2 w K K'} : fJ a0 a1 a2 w K -> (∀ x0 w, K x0 w -> K' x0 w) -> fJ a0 a1 a2 w K' := ak.mono
def Iq (a0 a1 a2 : Int) (w : World) (K : Bool -> World -> Prop) : Prop :=
 ak Tryz.prog 41 [.int .i64 a0, .int .i64 a1, .int .i64 a2] [.one .bool] w K
def jE (A0 A1 : Int) (A2 : Bool) (A3 : ah) (w : World) (K : Int -> World -> Prop) : Prop :=
 ak Tryz.prog 42 [(.agg ⟨[.int .i64 A0, .int .i64 A1, .bool A2, .slice A3.a A3.len A3.cap]⟩)] [.one (.int .i64)] w K
theorem D8 {A0 A1 A2 A3 w K K'} : jE A0 A1 A2 A3 w K -> (∀ x0 w, K x0 w -> K' x0 w) -> jE A0 A1 A2 A3 w K' := ak.mono
def gG (A0 A1 : Int) (A2 : Bool) (A3 : ah) (a1 : Int) (w : World) (K : ah -> World -> Prop) : Prop :=
 ak Tryz.prog 43 [(.agg ⟨[.int .i64 A0, .int .i64 A1, .bool A2, .slice A3.a A3.len A3.cap]⟩), .int .i64 a1] [.one .slice] w K
theorem ug {A0 A1 A2 A3 a1 w K K'} : gG A0 A1 A2 A3 a1 w K -> (∀ x0 w, K x0 w -> K' x0 w) -> gG A0 A1 A2 A3 a1 w K' := ak.mono
def lS (a0 : ah) (w : World) (K : Int -> World -> Prop) : Prop :=
 ak Tryz.prog 44 [.slice a0.a a0.len a0.cap] [.one (.int .i64)] w K
theorem zU {a0 w K K'} : lS a0 w K -> (∀ x0 w, K x0 w -> K' x0 w) -> lS a0 w K' := ak.mono
def jk (a0 a1 a2 a3 : Int) (w : World) (K : ah -> World -> Prop) : Prop :=
 ak Tryz.prog 45 [.int .i64 a0, .int .i64 a1, .int .i64 a2, .int .i64 a3] [.one .slice] w K
theorem AZ {a0 a1 a2 a3 w K K'} : jk a0 a1 a2 a3 w K -> (∀ x0 w, K x0 w -> K' x0 w) -> jk a0 a1 a2 a3 w K' := ak.mono
def jO (A0 A1 A2 A3 A4 A5 A6 : Int) (A7 A8 : Bool) (A9 A10 : ah) (w : World) (K : Int -> World -> Prop) : Prop :=
 ak Tryz.prog 46 [.agg ⟨aO A0 A1 A2 A3 A4 A5 A6 A7 A8 A9 A10⟩] [.one (.int .i64)] w K
theorem CO {A0 A1 A2 A3 A4 A5 A6 A7 A8 A9 A10 w K K'} : jO A0 A1 A2 A3 A4 A5 A6 A7 A8 A9 A10 w K -> (∀ x0 w, K x0 w -> K' x0 w) -> jO A0 A1 A2 A3 A4 A5 A6 A7 A8 A9 A10 w K' := ak.mono
def jA (A0 A1 A2 A3 A4 A5 A6 : Int) (A7 A8 : Bool) (A9 A10 : ah) (a1 a2 : Int) (w : World) (K : ah -> World -> Prop) : Prop :=
 ak Tryz.prog 47 [.agg ⟨aO A0 A1 A2 A3 A4 A5 A6 A7 A8 A9 A10⟩, .int .i64 a1, .int .i64 a2] [.one .slice] w K
theorem wJ {A0 A1 A2 A3 A4 A5 A6 A7 A8 A9 A10 a1 a2 w K K'} : jA A0 A1 A2 A3 A4 A5 A6 A7 A8 A9 A10 a1 a2 w K -> (∀ x0 w, K x0 w -> K' x0 w) -> jA A0 A1 A2 A3 A4 A5 A6 A7 A8 A9 A10 a1 a2 w K' := ak.mono
def iE (A0 A1 A2 A3 A4 A5 A6 : Int) (A7 A8 : Bool) (A9 A10 : ah) (w : World) (K : Int -> World -> Prop) : Prop :=
 ak Tryz.prog 48 [.agg ⟨aO A0 A1 A2 A3 A4 A5 A6 A7 A8 A9 A10⟩] [.one (.int .i64)] w K
theorem qo {A0 A1 A2 A3 A4 A5 A6 A7 A8 A9 A10 w K K'} : iE A0 A1 A2 A3 A4 A5 A6 A7 A8 A9 A10 w K -> (∀ x0 w, K x0 w -> K' x0 w) -> iE A0 A1 A2 A3 A4 A5 A6 A7 A8 A9 A10 w K' := ak.mono
def lQ (a0 : Int) (w : World) (K : Bool -> World -> Prop) : Prop :=
 ak Tryz.prog 49 [.int .i64 a0] [.one .bool] w K
theorem Aw {a0 w K K'} : lQ a0 w K -> (∀ x0 w, K x0 w -> K' x0 w) -> lQ a0 w K' := ak.mono
abbrev r_ : FuncId := 50
def Bc (a0 : Value) (f0 f1 : Addr) (w : World) (K : World -> Prop) : Prop :=
 ak Tryz.prog 50 [a0, (.pointer (some f0)), (.pointer (some f1))] [] w K
def iY (a0 : ah) (a1 a2 : Int) (w : World) (K : ah -> World -> Prop) : Prop :=
 ak Tryz.prog 51 [.slice a0.a a0.len a0.cap, .int .i64 a1, .int .i64 a2] [.one .slice] w K
theorem lV {a0 a1 a2 w K K'} : iY a0 a1 a2 w K -> (∀ x0 w, K x0 w -> K' x0 w) -> iY a0 a1 a2 w K' := ak.mono
def bW (a0 a1 : Int) (w : World) (K : Bool -> World -> Prop) : Prop :=
 ak Tryz.prog 52 [.int .i64 a0, .int .i64 a1] [.one .bool] w K
theorem dF {a0 a1 w K K'} : bW a0 a1 w K -> (∀ x0 w, K x0 w -> K' x0 w) -> bW a0 a1 w K' := ak.mono
def jY (a0 : Int) (w : World) (K : Int -> World -> Prop) : Prop :=
 ak Tryz.prog 53 [.int .i64 a0] [.one (.int .i64)] w K
theorem yh {a0 w K K'} : jY a0 w K -> (∀ x0 w, K x0 w -> K' x0 w) -> jY a0 w K' := ak.mono
def qO (a0 : ah) (a1 : Bool) (w : World) (K : Int -> Int -> Int -> Int -> Int -> Int -> Int -> Int -> Int -> Int -> Int -> Int -> Int -> Int -> Int -> Int -> Int -> Int -> Int -> Int -> Int -> Int -> Int -> Int -> Int -> Int -> Int -> Int -> Int -> Int -> Int -> Int -> Int -> Int -> Int -> Int -> ah -> Int -> World -> Prop) : Prop :=
 ak Tryz.prog 54 [.slice a0.a a0.len a0.cap, .bool a1] [.agg Rn, .one (.int .i64)] w K
theorem LZ {a0 a1 w K K'} : qO a0 a1 w K -> (∀ x0 x1 x2 x3 x4 x5 x6 x7 x8 x9 x10 x11 x12 x13 x14 x15 x16 x17 x18 x19 x20 x21 x22 x23 x24 x25 x26 x27 x28 x29 x30 x31 x32 x33 x34 x35 x36 x37 w, K x0 x1 x2 x3 x4 x5 x6 x7 x8 x9 x10 x11 x12 x13 x14 x15 x16 x17 x18 x19 x20 x21 x22 x23 x24 x25 x26 x27 x28 x29 x30 x31 x32 x33 x34 x35 x36 x37 w -> K' x0 x1 x2 x3 x4 x5 x6 x7 x8 x9 x10 x11 x12 x13 x14 x15 x16 x17 x18 x19 x20 x21 x22 x23 x24 x25 x26 x27 x28 x29 x30 x31 x32 x33 x34 x35 x36 x37 w) -> qO a0 a1 w K' := ak.mono
def gV (a0 : Option Addr) (a1 : Int) (w : World) (K : Bool -> World -> Prop) : Prop :=
 ak Tryz.prog 55 [.pointer a0, .int .i64 a1] [.one .bool] w K
theorem tY {a0 a1 w K K'} : gV a0 a1 w K -> (∀ x0 w, K x0 w -> K' x0 w) -> gV a0 a1 w K' := ak.mono
def nJ (A0 A1 A2 A3 A4 A5 A6 A7 A8 A9 A10 A11 A12 A13 A14 A15 A16 A17 A18 A19 A20 A21 A22 A23 A24 A25 A26 A27 A28 A29 A30 A31 A32 A33 A34 A35 : Int) (A36 : ah) (w : World) (K : Int -> Int -> Int -> Bool -> ah -> Bool -> World -> Prop) : Prop :=
 ak Tryz.prog 59 [.agg ⟨bG A0 A1 A2 A3 A4 A5 A6 A7 A8 A9 A10 A11 A12 A13 A14 A15 A16 A17 A18 A19 A20 A21 A22 A23 A24 A25 A26 A27 A28 A29 A30 A31 A32 A33 A34 A35 A36⟩] [.agg [(.int .i64), (.int .i64), (.int .i64), .bool], .one .slice, .one .bool] w K
theorem Ih {A0 A1 A2 A3 A4 A5 A6 A7 A8 A9 A10 A11 A12 A13 A14 A15 A16 A17 A18 A19 A20 A21 A22 A23 A24 A25 A26 A27 A28 A29 A30 A31 A32 A33 A34 A35 A36 w K K'} : nJ A0 A1 A2 A3 A4 A5 A6 A7 A8 A9 A10 A11 A12 A13 A14 A15 A16 A17 A18 A19 A20 A21 A22 A23 A24 A25 A26 A27 A28 A29 A30 A31 A32 A33 A34 A35 A36 w K -> (∀ x0 x1 x2 x3 x4 x5 w, K x0 x1 x2 x3 x4 x5 w -> K' x0 x1 x2 x3 x4 x5 w) -> nJ A0 A1 A2 A3 A4 A5 A6 A7 A8 A9 A10 A11 A12 A13 A14 A15 A16 A17 A18 A19 A20 A21 A22 A23 A24 A25 A26 A27 A28 A29 A30 A31 A32 A33 A34 A35 A36 w K' := ak.mono
def dB (a0 : Option Addr) (a1 : ByteArray) (a2 : Int) (a3 : Bool) (a4 : ah) (a5 : ByteArray) (a6 : Int) (w : World) (K : ByteArray -> ah -> Bool -> Int -> World -> Prop) : Prop :=
 ak Tryz.prog 60 [.pointer a0, .string a1, .int .i64 a2, .bool a3, .slice a4.a a4.len a4.cap, .string a5, .int .i64 a6] [.one .str, .one .slice, .one .bool, .one (.int .i64)] w K
theorem yw {a0 a1 a2 a3 a4 a5 a6 w K K'} : dB a0 a1 a2 a3 a4 a5 a6 w K -> (∀ x0 x1 x2 x3 w, K x0 x1 x2 x3 w -> K' x0 x1 x2 x3 w) -> dB a0 a1 a2 a3 a4 a5 a6 w K' := ak.mono
def nK (A0 A1 A2 A3 A4 A5 A6 A7 A8 A9 A10 A11 A12 A13 A14 A15 A16 A17 A18 A19 A20 A21 A22 A23 A24 A25 A26 A27 A28 A29 A30 A31 A32 A33 A34 A35 : Int) (A36 : ah) (a1 : Int) (w : World) (K : ByteArray -> World -> Prop) : Prop :=
 ak Tryz.prog 61 [.agg ⟨bG A0 A1 A2 A3 A4 A5 A6 A7 A8 A9 A10 A11 A12 A13 A14 A15 A16 A17 A18 A19 A20 A21 A22 A23 A24 A25 A26 A27 A28 A29 A30 A31 A32 A33 A34 A35 A36⟩, .int .i64 a1] [.one .str] w K
theorem Qp {A0 A1 A2 A3 A4 A5 A6 A7 A8 A9 A10 A11 A12 A13 A14 A15 A16 A17 A18 A19 A20 A21 A22 A23 A24 A25 A26 A27 A28 A29 A30 A31 A32 A33 A34 A35 A36 a1 w K K'} : nK A0 A1 A2 A3 A4 A5 A6 A7 A8 A9 A10 A11 A12 A13 A14 A15 A16 A17 A18 A19 A20 A21 A22 A23 A24 A25 A26 A27 A28 A29 A30 A31 A32 A33 A34 A35 A36 a1 w K -> (∀ x0 w, K x0 w -> K' x0 w) -> nK A0 A1 A2 A3 A4 A5 A6 A7 A8 A9 A10 A11 A12 A13 A14 A15 A16 A17 A18 A19 A20 A21 A22 A23 A24 A25 A26 A27 A28 A29 A30 A31 A32 A33 A34 A35 A36 a1 w K' := ak.mono
def nP (a0 : Int) (w : World) (K : Int -> World -> Prop) : Prop :=
 ak Tryz.prog 62 [.int .i64 a0] [.one (.int .i64)] w K
theorem IW {a0 w K K'} : nP a0 w K -> (∀ x0 w, K x0 w -> K' x0 w) -> nP a0 w K' := ak.mono
def oM (a0 : ah) (a1 : Bool) (w : World) (K : ah -> Int -> Int -> Int -> World -> Prop) : Prop :=
 ak Tryz.prog 63 [.slice a0.a a0.len a0.cap, .bool a1] [.agg [.slice, (.int .i64), (.int .i64)], .one (.int .i64)] w K
theorem Dp {a0 a1 w K K'} : oM a0 a1 w K -> (∀ x0 x1 x2 x3 w, K x0 x1 x2 x3 w -> K' x0 x1 x2 x3 w) -> oM a0 a1 w K' := ak.mono
def nD (a0 : ah) (w : World) (K : Bool -> World -> Prop) : Prop :=
 ak Tryz.prog 64 [.slice a0.a a0.len a0.cap] [.one .bool] w K
theorem IL {a0 w K K'} : nD a0 w K -> (∀ x0 w, K x0 w -> K' x0 w) -> nD a0 w K' := ak.mono
def dP (A0 : ah) (A1 A2 : Int) (w : World) (K : Int -> Int -> Int -> Int -> Int -> Int -> Int -> Bool -> Bool -> ah -> ah -> World -> Prop) : Prop :=
 ak Tryz.prog 65 [(.agg ⟨[.slice A0.a A0.len A0.cap, .int .i64 A1, .int .i64 A2]⟩)] [.agg Gm] w K
theorem nY {A0 A1 A2 w K K'} : dP A0 A1 A2 w K -> (∀ x0 x1 x2 x3 x4 x5 x6 x7 x8 x9 x10 w, K x0 x1 x2 x3 x4 x5 x6 x7 x8 x9 x10 w -> K' x0 x1 x2 x3 x4 x5 x6 x7 x8 x9 x10 w) -> dP A0 A1 A2 w K' := ak.mono
def jT (A0 A1 A2 A3 A4 A5 A6 : Int) (A7 A8 : Bool) (A9 A10 : ah) (w : World) (K : Int -> World -> Prop) : Prop :=
 ak Tryz.prog 66 [.agg ⟨aO A0 A1 A2 A3 A4 A5 A6 A7 A8 A9 A10⟩] [.one (.int .i64)] w K
theorem uw {A0 A1 A2 A3 A4 A5 A6 A7 A8 A9 A10 w K K'} : jT A0 A1 A2 A3 A4 A5 A6 A7 A8 A9 A10 w K -> (∀ x0 w, K x0 w -> K' x0 w) -> jT A0 A1 A2 A3 A4 A5 A6 A7 A8 A9 A10 w K' := ak.mono
def qX (a0 : ah) (a1 : Int) (w : World) (K : ah -> World -> Prop) : Prop :=
 ak Tryz.prog 67 [.slice a0.a a0.len a0.cap, .int .i64 a1] [.one .slice] w K
theorem DL {a0 a1 w K K'} : qX a0 a1 w K -> (∀ x0 w, K x0 w -> K' x0 w) -> qX a0 a1 w K' := ak.mono
def fH (a0 : Int) (w : World) (K : Bool -> World -> Prop) : Prop :=
 ak Tryz.prog 68 [.int .i64 a0] [.one .bool] w K
theorem mF {a0 w K K'} : fH a0 w K -> (∀ x0 w, K x0 w -> K' x0 w) -> fH a0 w K' := ak.mono
def CB (a0 : Int) (a1 : ah) (w : World) (K : Bool -> World -> Prop) : Prop :=
 ak Tryz.prog 69 [.int .i64 a0, .slice a1.a a1.len a1.cap] [.one .bool] w K
def nG (a0 a1 a2 a3 : Int) (a4 : ah) (w : World) (K : Int -> Int -> Int -> Int -> Int -> Int -> Int -> Bool -> Bool -> ah -> ah -> Int -> World -> Prop) : Prop :=
 ak Tryz.prog 70 [.int .i64 a0, .int .i64 a1, .int .i64 a2, .int .i64 a3, .slice a4.a a4.len a4.cap] [.agg Gm, .one (.int .i64)] w K
theorem Ic {a0 a1 a2 a3 a4 w K K'} : nG a0 a1 a2 a3 a4 w K -> (∀ x0 x1 x2 x3 x4 x5 x6 x7 x8 x9 x10 x11 w, K x0 x1 x2 x3 x4 x5 x6 x7 x8 x9 x10 x11 w -> K' x0 x1 x2 x3 x4 x5 x6 x7 x8 x9 x10 x11 w) -> nG a0 a1 a2 a3 a4 w K' := ak.mono
def nC (A0 A1 A2 A3 A4 A5 A6 : Int) (A7 A8 : Bool) (A9 A10 : ah) (w : World) (K : ah -> World -> Prop) : Prop :=
 ak Tryz.prog 71 [.agg ⟨aO A0 A1 A2 A3 A4 A5 A6 A7 A8 A9 A10⟩] [.one .slice] w K
theorem GZ {A0 A1 A2 A3 A4 A5 A6 A7 A8 A9 A10 w K K'} : nC A0 A1 A2 A3 A4 A5 A6 A7 A8 A9 A10 w K -> (∀ x0 w, K x0 w -> K' x0 w) -> nC A0 A1 A2 A3 A4 A5 A6 A7 A8 A9 A10 w K' := ak.mono
def qL (a0 : ah) (a1 a2 a3 : Int) (w : World) (K : ah -> Int -> World -> Prop) : Prop :=
 ak Tryz.prog 72 [.slice a0.a a0.len a0.cap, .int .i64 a1, .int .i64 a2, .int .i64 a3] [.one .slice, .one (.int .i64)] w K
theorem FY {a0 a1 a2 a3 w K K'} : qL a0 a1 a2 a3 w K -> (∀ x0 x1 w, K x0 x1 w -> K' x0 x1 w) -> qL a0 a1 a2 a3 w K' := ak.mono
def qQ (a0 : ah) (w : World) (K : Int -> World -> Prop) : Prop :=
 ak Tryz.prog 73 [.slice a0.a a0.len a0.cap] [.one (.int .i64)] w K
theorem F5 {a0 w K K'} : qQ a0 w K -> (∀ x0 w, K x0 w -> K' x0 w) -> qQ a0 w K' := ak.mono
def oU (A0 A1 A2 A3 A4 A5 A6 A7 A8 A9 A10 A11 A12 A13 A14 A15 A16 A17 A18 A19 A20 A21 A22 A23 A24 A25 A26 A27 A28 A29 A30 A31 A32 A33 A34 A35 : Int) (A36 : ah) (w : World) (K : ah -> Int -> World -> Prop) : Prop :=
 ak Tryz.prog 74 [.agg ⟨bG A0 A1 A2 A3 A4 A5 A6 A7 A8 A9 A10 A11 A12 A13 A14 A15 A16 A17 A18 A19 A20 A21 A22 A23 A24 A25 A26 A27 A28 A29 A30 A31 A32 A33 A34 A35 A36⟩] [.one .slice, .one (.int .i64)] w K
theorem K_ {A0 A1 A2 A3 A4 A5 A6 A7 A8 A9 A10 A11 A12 A13 A14 A15 A16 A17 A18 A19 A20 A21 A22 A23 A24 A25 A26 A27 A28 A29 A30 A31 A32 A33 A34 A35 A36 w K K'} : oU A0 A1 A2 A3 A4 A5 A6 A7 A8 A9 A10 A11 A12 A13 A14 A15 A16 A17 A18 A19 A20 A21 A22 A23 A24 A25 A26 A27 A28 A29 A30 A31 A32 A33 A34 A35 A36 w K -> (∀ x0 x1 w, K x0 x1 w -> K' x0 x1 w) -> oU A0 A1 A2 A3 A4 A5 A6 A7 A8 A9 A10 A11 A12 A13 A14 A15 A16 A17 A18 A19 A20 A21 A22 A23 A24 A25 A26 A27 A28 A29 A30 A31 A32 A33 A34 A35 A36 w K' := ak.mono
def mY (a0 : ah) (w : World) (K : Int -> World -> Prop) : Prop :=
 ak Tryz.prog 75 [.slice a0.a a0.len a0.cap] [.one (.int .i64)] w K
theorem GN {a0 w K K'} : mY a0 w K -> (∀ x0 w, K x0 w -> K' x0 w) -> mY a0 w K' := ak.mono
def iw (a0 a1 : Int) (w : World) (K : Int -> World -> Prop) : Prop :=
 ak Tryz.prog 76 [.int .i64 a0, .int .i64 a1] [.one (.int .i64)] w K
theorem nZ {a0 a1 w K K'} : iw a0 a1 w K -> (∀ x0 w, K x0 w -> K' x0 w) -> iw a0 a1 w K' := ak.mono
def iJ (a0 : Int) (w : World) (K : Bool -> World -> Prop) : Prop :=
 ak Tryz.prog 77 [.int .i64 a0] [.one .bool] w K
theorem t_ {a0 w K K'} : iJ a0 w K -> (∀ x0 w, K x0 w -> K' x0 w) -> iJ a0 w K' := ak.mono
def jy (A0 A1 A2 A3 A4 A5 A6 : Int) (A7 A8 : Bool) (A9 A10 : ah) (w : World) (K : Int -> World -> Prop) : Prop :=
 ak Tryz.prog 78 [.agg ⟨aO A0 A1 A2 A3 A4 A5 A6 A7 A8 A9 A10⟩] [.one (.int .i64)] w K
theorem vY {A0 A1 A2 A3 A4 A5 A6 A7 A8 A9 A10 w K K'} : jy A0 A1 A2 A3 A4 A5 A6 A7 A8 A9 A10 w K -> (∀ x0 w, K x0 w -> K' x0 w) -> jy A0 A1 A2 A3 A4 A5 A6 A7 A8 A9 A10 w K' := ak.mono
def bH (a0 : ah) (a1 : Value) (w : World) (K : ah -> World -> Prop) : Prop :=
 ak Tryz.prog 79 [.slice a0.a a0.len a0.cap, a1] [.one .slice] w K
theorem iy {a0 a1 w K K'} : bH a0 a1 w K -> (∀ x0 w, K x0 w -> K' x0 w) -> bH a0 a1 w K' := ak.mono
def j_ (a0 a1 : Int) (w : World) (K : Value -> World -> Prop) : Prop :=
 ak Tryz.prog 80 [.int .i64 a0, .int .i64 a1] [.one .any] w K
theorem yK {a0 a1 w K K'} : j_ a0 a1 w K -> (∀ x0 w, K x0 w -> K' x0 w) -> j_ a0 a1 w K' := ak.mono
def kN (a0 : ah) (a1 a2 : Int) (w : World) (K : Int -> Int -> World -> Prop) : Prop :=
 ak Tryz.prog 81 [.slice a0.a a0.len a0.cap, .int .i64 a1, .int .i64 a2] [.one (.int .i64), .one (.int .i64)] w K
theorem qP {a0 a1 a2 w K K'} : kN a0 a1 a2 w K -> (∀ x0 x1 w, K x0 x1 w -> K' x0 x1 w) -> kN a0 a1 a2 w K' := ak.mono
def gQ (a0 : Option Addr) (a1 : Int) (w : World) (K : Bool -> World -> Prop) : Prop :=
 ak Tryz.prog 82 [.pointer a0, .int .i64 a1] [.one .bool] w K
theorem tu {a0 a1 w K K'} : gQ a0 a1 w K -> (∀ x0 w, K x0 w -> K' x0 w) -> gQ a0 a1 w K' := ak.mono
def iV (a0 : ah) (w : World) (K : Int -> Int -> Int -> Bool -> ah -> Int -> World -> Prop) : Prop :=
 ak Tryz.prog 86 [.slice a0.a a0.len a0.cap] [.agg [(.int .i64), (.int .i64), (.int .i64), .bool], .one .slice, .one (.int .i64)] w K
theorem AV {a0 w K K'} : iV a0 w K -> (∀ x0 x1 x2 x3 x4 x5 w, K x0 x1 x2 x3 x4 x5 w -> K' x0 x1 x2 x3 x4 x5 w) -> iV a0 w K' := ak.mono
def d_ (a0 : Option Addr) (w : World) (K : Bool -> World -> Prop) : Prop :=
 ak Tryz.prog 87 [.pointer a0] [.one .bool] w K
theorem vJ {a0 w K K'} : d_ a0 w K -> (∀ x0 w, K x0 w -> K' x0 w) -> d_ a0 w K' := ak.mono
def fE (a0 : Option Addr) (a1 : ByteArray) (a2 : Int) (w : World) (K : (Option Addr) -> Int -> World -> Prop) : Prop :=
 ak Tryz.prog 88 [.pointer a0, .string a1, .int .i64 a2] [.one .ptr, .one (.int .i64)] w K
theorem xI {a0 a1 a2 w K K'} : fE a0 a1 a2 w K -> (∀ x0 x1 w, K x0 x1 w -> K' x0 x1 w) -> fE a0 a1 a2 w K' := ak.mono
def eX (a0 : Option Addr) (a1 : Int) (a2 : ah) (w : World) (K : Int -> World -> Prop) : Prop :=
 ak Tryz.prog 89 [.pointer a0, .int .i64 a1, .slice a2.a a2.len a2.cap] [.one (.int .i64)] w K
theorem vW {a0 a1 a2 w K K'} : eX a0 a1 a2 w K -> (∀ x0 w, K x0 w -> K' x0 w) -> eX a0 a1 a2 w K' := ak.mono
def gY (a0 : Option Addr) (w : World) (K : Int -> World -> Prop) : Prop :=
 ak Tryz.prog 90 [.pointer a0] [.one (.int .i64)] w K
theorem xZ {a0 w K K'} : gY a0 w K -> (∀ x0 w, K x0 w -> K' x0 w) -> gY a0 w K' := ak.mono
def fU (a0 : Option Addr) (a1 : Int) (a2 : Bool) (a3 : ah) (w : World) (K : Int -> World -> Prop) : Prop :=
 ak Tryz.prog 91 [.pointer a0, .int .i64 a1, .bool a2, .slice a3.a a3.len a3.cap] [.one (.int .i64)] w K
theorem xH {a0 a1 a2 a3 w K K'} : fU a0 a1 a2 a3 w K -> (∀ x0 w, K x0 w -> K' x0 w) -> fU a0 a1 a2 a3 w K' := ak.mono
def eH (a0 : Option Addr) (w : World) (K : ah -> Bool -> World -> Prop) : Prop :=
 ak Tryz.prog 92 [.pointer a0] [.one .slice, .one .bool] w K
theorem vV {a0 w K K'} : eH a0 w K -> (∀ x0 x1 w, K x0 x1 w -> K' x0 x1 w) -> eH a0 w K' := ak.mono
def bP (a0 : ah) (w : World) (K : ah -> World -> Prop) : Prop :=
 ak Tryz.prog 93 [.slice a0.a a0.len a0.cap] [.one .slice] w K
theorem iW {a0 w K K'} : bP a0 w K -> (∀ x0 w, K x0 w -> K' x0 w) -> bP a0 w K' := ak.mono
def aB (A0 : ah) (A1 A2 a1 a2 : Int) (w : World) (K : Int -> World -> Prop) : Prop :=
 ak Tryz.prog 94 [(.agg ⟨[.slice A0.a A0.len A0.cap, .int .i64 A1, .int .i64 A2]⟩), .int .i64 a1, .int .i64 a2] [.one (.int .i64)] w K
theorem jm {A0 A1 A2 a1 a2 w K K'} : aB A0 A1 A2 a1 a2 w K -> (∀ x0 w, K x0 w -> K' x0 w) -> aB A0 A1 A2 a1 a2 w K' := ak.mono
def oL (a0 : ah) (w : World) (K : Int -> World -> Prop) : Prop :=
 ak Tryz.prog 95 [.slice a0.a a0.len a0.cap] [.one (.int .i64)] w K
theorem DJ {a0 w K K'} : oL a0 w K -> (∀ x0 w, K x0 w -> K' x0 w) -> oL a0 w K' := ak.mono
def jM (a0 : ah) (w : World) (K : Bool -> World -> Prop) : Prop :=
 ak Tryz.prog 96 [.slice a0.a a0.len a0.cap] [.one .bool] w K
theorem oD {a0 w K K'} : jM a0 w K -> (∀ x0 w, K x0 w -> K' x0 w) -> jM a0 w K' := ak.mono
def lT (A0 A1 A2 A3 A4 A5 A6 : Int) (A7 A8 : Bool) (A9 A10 : ah) (w : World) (K : Int -> World -> Prop) : Prop :=
 ak Tryz.prog 97 [.agg ⟨aO A0 A1 A2 A3 A4 A5 A6 A7 A8 A9 A10⟩] [.one (.int .i64)] w K
theorem xk {A0 A1 A2 A3 A4 A5 A6 A7 A8 A9 A10 w K K'} : lT A0 A1 A2 A3 A4 A5 A6 A7 A8 A9 A10 w K -> (∀ x0 w, K x0 w -> K' x0 w) -> lT A0 A1 A2 A3 A4 A5 A6 A7 A8 A9 A10 w K' := ak.mono
def g_ (A0 A1 a1 : Int) (w : World) (K : Bool -> World -> Prop) : Prop :=
 ak Tryz.prog 98 [(.agg ⟨[.int .i64 A0, .int .i64 A1]⟩), .int .i64 a1] [.one .bool] w K
theorem xU {A0 A1 a1 w K K'} : g_ A0 A1 a1 w K -> (∀ x0 w, K x0 w -> K' x0 w) -> g_ A0 A1 a1 w K' := ak.mono
def nR (a0 : ah) (w : World) (K : Int -> Int -> Int -> Int -> Int -> Int -> Int -> Bool -> Bool -> ah -> ah -> Bool -> World -> Prop) : Prop :=
 ak Tryz.prog 99 [.slice a0.a a0.len a0.cap] [.agg Gm, .one .bool] w K
theorem G_ {a0 w K K'} : nR a0 w K -> (∀ x0 x1 x2 x3 x4 x5 x6 x7 x8 x9 x10 x11 w, K x0 x1 x2 x3 x4 x5 x6 x7 x8 x9 x10 x11 w -> K' x0 x1 x2 x3 x4 x5 x6 x7 x8 x9 x10 x11 w) -> nR a0 w K' := ak.mono
def kU (a0 : ah) (B0 B1 B2 B3 B4 B5 B6 : Int) (B7 B8 : Bool) (B9 B10 : ah) (w : World) (K : ah -> World -> Prop) : Prop :=
 ak Tryz.prog 100 [.slice a0.a a0.len a0.cap, .agg ⟨aO B0 B1 B2 B3 B4 B5 B6 B7 B8 B9 B10⟩] [.one .slice] w K
theorem Es {a0 B0 B1 B2 B3 B4 B5 B6 B7 B8 B9 B10 w K K'} : kU a0 B0 B1 B2 B3 B4 B5 B6 B7 B8 B9 B10 w K -> (∀ x0 w, K x0 w -> K' x0 w) -> kU a0 B0 B1 B2 B3 B4 B5 B6 B7 B8 B9 B10 w K' := ak.mono
def kR (A0 A1 A2 : Int) (A3 : ah) (w : World) (K : ah -> Int -> World -> Prop) : Prop :=
 ak Tryz.prog 101 [(.agg ⟨[.int .i64 A0, .int .i64 A1, .int .i64 A2, .slice A3.a A3.len A3.cap]⟩)] [.one .slice, .one (.int .i64)] w K
theorem Ep {A0 A1 A2 A3 w K K'} : kR A0 A1 A2 A3 w K -> (∀ x0 x1 w, K x0 x1 w -> K' x0 x1 w) -> kR A0 A1 A2 A3 w K' := ak.mono
def oK (A0 A1 A2 A3 A4 A5 A6 : Int) (A7 A8 : Bool) (A9 A10 : ah) (w : World) (K : Int -> World -> Prop) : Prop :=
 ak Tryz.prog 102 [.agg ⟨aO A0 A1 A2 A3 A4 A5 A6 A7 A8 A9 A10⟩] [.one (.int .i64)] w K
theorem BJ {A0 A1 A2 A3 A4 A5 A6 A7 A8 A9 A10 w K K'} : oK A0 A1 A2 A3 A4 A5 A6 A7 A8 A9 A10 w K -> (∀ x0 w, K x0 w -> K' x0 w) -> oK A0 A1 A2 A3 A4 A5 A6 A7 A8 A9 A10 w K' := ak.mono
def oO (A0 A1 A2 A3 A4 A5 A6 : Int) (A7 A8 : Bool) (A9 A10 : ah) (w : World) (K : Int -> World -> Prop) : Prop :=
 ak Tryz.prog 103 [.agg ⟨aO A0 A1 A2 A3 A4 A5 A6 A7 A8 A9 A10⟩] [.one (.int .i64)] w K
theorem KX {A0 A1 A2 A3 A4 A5 A6 A7 A8 A9 A10 w K K'} : oO A0 A1 A2 A3 A4 A5 A6 A7 A8 A9 A10 w K -> (∀ x0 w, K x0 w -> K' x0 w) -> oO A0 A1 A2 A3 A4 A5 A6 A7 A8 A9 A10 w K' := ak.mono
def jZ (a0 : ah) (a1 a2 : Int) (w : World) (K : ah -> Int -> World -> Prop) : Prop :=
 ak Tryz.prog 104 [.slice a0.a a0.len a0.cap, .int .i64 a1, .int .i64 a2] [.one .slice, .one (.int .i64)] w K
theorem zf {a0 a1 a2 w K K'} : jZ a0 a1 a2 w K -> (∀ x0 x1 w, K x0 x1 w -> K' x0 x1 w) -> jZ a0 a1 a2 w K' := ak.mono
def dM (a0 : Value) (w : World) (K : ah -> World -> Prop) : Prop :=
 ak Tryz.prog 105 [a0] [.one .slice] w K
theorem rQ {a0 w K K'} : dM a0 w K -> (∀ x0 w, K x0 w -> K' x0 w) -> dM a0 w K' := ak.mono
def kH (a0 : ah) (a1 : Int) (w : World) (K : Int -> World -> Prop) : Prop :=
 ak Tryz.prog 106 [.slice a0.a a0.len a0.cap, .int .i64 a1] [.one (.int .i64)] w K
theorem EK {a0 a1 w K K'} : kH a0 a1 w K -> (∀ x0 w, K x0 w -> K' x0 w) -> kH a0 a1 w K' := ak.mono
def kY (a0 : Int) (w : World) (K : Int -> World -> Prop) : Prop :=
 ak Tryz.prog 107 [.int .i64 a0] [.one (.int .i64)] w K
theorem En {a0 w K K'} : kY a0 w K -> (∀ x0 w, K x0 w -> K' x0 w) -> kY a0 w K' := ak.mono
abbrev EO : FuncId := 108
def Eu (a0 : Value) (f0 f1 : Addr) (w : World) (K : World -> Prop) : Prop :=
 ak Tryz.prog 108 [a0, (.pointer (some f0)), (.pointer (some f1))] [] w K
def ng (a0 : ah) (w : World) (K : Int -> Int -> Int -> Int -> Int -> Int -> Int -> Bool -> Bool -> ah -> ah -> Int -> World -> Prop) : Prop :=
 ak Tryz.prog 112 [.slice a0.a a0.len a0.cap] [.agg Gm, .one (.int .i64)] w K
theorem Jm {a0 w K K'} : ng a0 w K -> (∀ x0 x1 x2 x3 x4 x5 x6 x7 x8 x9 x10 x11 w, K x0 x1 x2 x3 x4 x5 x6 x7 x8 x9 x10 x11 w -> K' x0 x1 x2 x3 x4 x5 x6 x7 x8 x9 x10 x11 w) -> ng a0 w K' := ak.mono
def ny  (w : World) (K : (Option Addr) -> World -> Prop) : Prop :=
 ak Tryz.prog 113 [] [.one .ptr] w K
theorem IX { w K K'} : ny  w K -> (∀ x0 w, K x0 w -> K' x0 w) -> ny  w K' := ak.mono
def bK (a0 : Option Addr) (w : World) (K : Bool -> World -> Prop) : Prop :=
 ak Tryz.prog 114 [.pointer a0] [.one .bool] w K
theorem dQ {a0 w K K'} : bK a0 w K -> (∀ x0 w, K x0 w -> K' x0 w) -> bK a0 w K' := ak.mono
def dH (a0 : Option Addr) (B0 : Int) (B1 : Bool) (B2 : ah) (w : World) (K : Bool -> World -> Prop) : Prop :=
 ak Tryz.prog 115 [.pointer a0, (.agg ⟨[.int .i64 B0, .bool B1, .slice B2.a B2.len B2.cap]⟩)] [.one .bool] w K
theorem jV {a0 B0 B1 B2 w K K'} : dH a0 B0 B1 B2 w K -> (∀ x0 w, K x0 w -> K' x0 w) -> dH a0 B0 B1 B2 w K' := ak.mono
def dW (a0 : Option Addr) (w : World) (K : Int -> World -> Prop) : Prop :=
 ak Tryz.prog 116 [.pointer a0] [.one (.int .i64)] w K
theorem uf {a0 w K K'} : dW a0 w K -> (∀ x0 w, K x0 w -> K' x0 w) -> dW a0 w K' := ak.mono
def mX (A0 : Int) (A1 : Bool) (A2 : ah) (w : World) (K : Int -> World -> Prop) : Prop :=
 ak Tryz.prog 117 [(.agg ⟨[.int .i64 A0, .bool A1, .slice A2.a A2.len A2.cap]⟩)] [.one (.int .i64)] w K
theorem GI {A0 A1 A2 w K K'} : mX A0 A1 A2 w K -> (∀ x0 w, K x0 w -> K' x0 w) -> mX A0 A1 A2 w K' := ak.mono
def dV (a0 : Option Addr) (B0 : Int) (B1 : Bool) (B2 : ah) (w : World) (K : Bool -> World -> Prop) : Prop :=
 ak Tryz.prog 118 [.pointer a0, (.agg ⟨[.int .i64 B0, .bool B1, .slice B2.a B2.len B2.cap]⟩)] [.one .bool] w K
theorem tJ {a0 B0 B1 B2 w K K'} : dV a0 B0 B1 B2 w K -> (∀ x0 w, K x0 w -> K' x0 w) -> dV a0 B0 B1 B2 w K' := ak.mono
def eG (a0 : Option Addr) (B0 : Int) (B1 : Bool) (B2 : ah) (w : World) (K : Bool -> World -> Prop) : Prop :=
 ak Tryz.prog 119 [.pointer a0, (.agg ⟨[.int .i64 B0, .bool B1, .slice B2.a B2.len B2.cap]⟩)] [.one .bool] w K
theorem vN {a0 B0 B1 B2 w K K'} : eG a0 B0 B1 B2 w K -> (∀ x0 w, K x0 w -> K' x0 w) -> eG a0 B0 B1 B2 w K' := ak.mono
def aF (a0 : ah) (B0 : Int) (B1 : Bool) (B2 : ah) (a2 : Value) (w : World) (K : Int -> Bool -> World -> Prop) : Prop :=
 ak Tryz.prog 120 [.slice a0.a a0.len a0.cap, (.agg ⟨[.int .i64 B0, .bool B1, .slice B2.a B2.len B2.cap]⟩), a2] [.one (.int .i64), .one .bool] w K
theorem dG {a0 B0 B1 B2 a2 w K K'} : aF a0 B0 B1 B2 a2 w K -> (∀ x0 x1 w, K x0 x1 w -> K' x0 x1 w) -> aF a0 B0 B1 B2 a2 w K' := ak.mono
def wu (A0 : Int) (A1 : Bool) (A2 : ah) (B0 : Int) (B1 : Bool) (B2 : ah) (w : World) (K : Int -> World -> Prop) : Prop :=
 ak Tryz.prog 121 [(.agg ⟨[.int .i64 A0, .bool A1, .slice A2.a A2.len A2.cap]⟩), (.agg ⟨[.int .i64 B0, .bool B1, .slice B2.a B2.len B2.cap]⟩)] [.one (.int .i64)] w K
def aX (a0 : ah) (a1 : Int) (a2 : ah) (w : World) (K : ah -> World -> Prop) : Prop :=
 ak Tryz.prog 122 [.slice a0.a a0.len a0.cap, .int .i64 a1, .slice a2.a a2.len a2.cap] [.one .slice] w K
theorem iO {a0 a1 a2 w K K'} : aX a0 a1 a2 w K -> (∀ x0 w, K x0 w -> K' x0 w) -> aX a0 a1 a2 w K' := ak.mono
def bg (A0 : Int) (A1 : Bool) (A2 : ah) (w : World) (K : Int -> World -> Prop) : Prop :=
 ak Tryz.prog 123 [(.agg ⟨[.int .i64 A0, .bool A1, .slice A2.a A2.len A2.cap]⟩)] [.one (.int .i64)] w K
theorem dn {A0 A1 A2 w K K'} : bg A0 A1 A2 w K -> (∀ x0 w, K x0 w -> K' x0 w) -> bg A0 A1 A2 w K' := ak.mono
def eF (a0 : Option Addr) (w : World) (K : Value -> World -> Prop) : Prop :=
 ak Tryz.prog 124 [.pointer a0] [.one .any] w K
theorem vU {a0 w K K'} : eF a0 w K -> (∀ x0 w, K x0 w -> K' x0 w) -> eF a0 w K' := ak.mono
def dA (a0 : ah) (a1 : Int) (w : World) (K : ah -> World -> Prop) : Prop :=
 ak Tryz.prog 125 [.slice a0.a a0.len a0.cap, .int .i64 a1] [.one .slice] w K
theorem qB {a0 a1 w K K'} : dA a0 a1 w K -> (∀ x0 w, K x0 w -> K' x0 w) -> dA a0 a1 w K' := ak.mono
def oZ (a0 : Int) (w : World) (K : Int -> World -> Prop) : Prop :=
 ak Tryz.prog 126 [.int .i64 a0] [.one (.int .i64)] w K
theorem KG {a0 w K K'} : oZ a0 w K -> (∀ x0 w, K x0 w -> K' x0 w) -> oZ a0 w K' := ak.mono
def mW (a0 : ah) (w : World) (K : Int -> World -> Prop) : Prop :=
 ak Tryz.prog 127 [.slice a0.a a0.len a0.cap] [.one (.int .i64)] w K
theorem Iz {a0 w K K'} : mW a0 w K -> (∀ x0 w, K x0 w -> K' x0 w) -> mW a0 w K' := ak.mono
def iR (a0 : ah) (a1 : Bool) (w : World) (K : Bool -> World -> Prop) : Prop :=
 ak Tryz.prog 128 [.slice a0.a a0.len a0.cap, .bool a1] [.one .bool] w K
def kT (A0 A1 A2 A3 A4 A5 A6 : Int) (A7 A8 : Bool) (A9 A10 : ah) (w : World) (K : Bool -> World -> Prop) : Prop :=
 ak Tryz.prog 129 [.agg ⟨aO A0 A1 A2 A3 A4 A5 A6 A7 A8 A9 A10⟩] [.one .bool] w K
theorem ED {A0 A1 A2 A3 A4 A5 A6 A7 A8 A9 A10 w K K'} : kT A0 A1 A2 A3 A4 A5 A6 A7 A8 A9 A10 w K -> (∀ x0 w, K x0 w -> K' x0 w) -> kT A0 A1 A2 A3 A4 A5 A6 A7 A8 A9 A10 w K' := ak.mono
def kE (A0 A1 A2 : Int) (A3 : ah) (w : World) (K : Int -> World -> Prop) : Prop :=
 ak Tryz.prog 130 [(.agg ⟨[.int .i64 A0, .int .i64 A1, .int .i64 A2, .slice A3.a A3.len A3.cap]⟩)] [.one (.int .i64)] w K
theorem EP {A0 A1 A2 A3 w K K'} : kE A0 A1 A2 A3 w K -> (∀ x0 w, K x0 w -> K' x0 w) -> kE A0 A1 A2 A3 w K' := ak.mono
def aQ (a0 : ah) (a1 : Value) (w : World) (K : Bool -> World -> Prop) : Prop :=
 ak Tryz.prog 132 [.slice a0.a a0.len a0.cap, a1] [.one .bool] w K
theorem f_ {a0 a1 w K K'} : aQ a0 a1 w K -> (∀ x0 w, K x0 w -> K' x0 w) -> aQ a0 a1 w K' := ak.mono
def rC (A0 : Int) (A1 : Bool) (A2 : ah) (B0 : Int) (B1 : Bool) (B2 : ah) (w : World) (K : Bool -> World -> Prop) : Prop :=
 ak Tryz.prog 133 [(.agg ⟨[.int .i64 A0, .bool A1, .slice A2.a A2.len A2.cap]⟩), (.agg ⟨[.int .i64 B0, .bool B1, .slice B2.a B2.len B2.cap]⟩)] [.one .bool] w K
def fG (a0 : Option Addr) (w : World) (K : Int -> World -> Prop) : Prop :=
 ak Tryz.prog 134 [.pointer a0] [.one (.int .i64)] w K
theorem w_ {a0 w K K'} : fG a0 w K -> (∀ x0 w, K x0 w -> K' x0 w) -> fG a0 w K' := ak.mono
def kP (a0 : ah) (w : World) (K : Int -> World -> Prop) : Prop :=
 ak Tryz.prog 135 [.slice a0.a a0.len a0.cap] [.one (.int .i64)] w K
theorem EX {a0 w K K'} : kP a0 w K -> (∀ x0 w, K x0 w -> K' x0 w) -> kP a0 w K' := ak.mono
def dR (a0 a1 : Int) (w : World) (K : Int -> World -> Prop) : Prop :=
 ak Tryz.prog 136 [.int .i64 a0, .int .i64 a1] [.one (.int .i64)] w K
theorem o9 {a0 a1 w K K'} : dR a0 a1 w K -> (∀ x0 w, K x0 w -> K' x0 w) -> dR a0 a1 w K' := ak.mono
def kL (a0 : ah) (a1 : Int) (w : World) (K : World -> Prop) : Prop :=
 ak Tryz.prog 138 [.slice a0.a a0.len a0.cap, .int .i64 a1] [] w K
abbrev sG : FuncId := 139
def uz (a0 : Value) (f0 : Addr) (w : World) (K : World -> Prop) : Prop :=
 ak Tryz.prog 139 [a0, (.pointer (some f0))] [] w K
def Dl (a0 : ah) (w : World) (K : Value -> World -> Prop) : Prop :=
 ak Tryz.prog 140 [.slice a0.a a0.len a0.cap] [.one .any] w K
def jI (a0 : ah) (a1 : Bool) (w : World) (K : Int -> World -> Prop) : Prop :=
 ak Tryz.prog 141 [.slice a0.a a0.len a0.cap, .bool a1] [.one (.int .i64)] w K
def kQ (a0 : Int) (w : World) (K : Bool -> World -> Prop) : Prop :=
 ak Tryz.prog 142 [.int .i64 a0] [.one .bool] w K
theorem EC {a0 w K K'} : kQ a0 w K -> (∀ x0 w, K x0 w -> K' x0 w) -> kQ a0 w K' := ak.mono
def aW (a0 : ah) (a1 : Value) (w : World) (K : Int -> World -> Prop) : Prop :=
 ak Tryz.prog 143 [.slice a0.a a0.len a0.cap, a1] [.one (.int .i64)] w K
theorem iq {a0 a1 w K K'} : aW a0 a1 w K -> (∀ x0 w, K x0 w -> K' x0 w) -> aW a0 a1 w K' := ak.mono
def jF (a0 a1 : ah) (w : World) (K : Bool -> World -> Prop) : Prop :=
 ak Tryz.prog 144 [.slice a0.a a0.len a0.cap, .slice a1.a a1.len a1.cap] [.one .bool] w K
theorem DV {a0 a1 w K K'} : jF a0 a1 w K -> (∀ x0 w, K x0 w -> K' x0 w) -> jF a0 a1 w K' := ak.mono
def fC (a0 : Int) (w : World) (K : Bool -> World -> Prop) : Prop :=
 ak Tryz.prog 145 [.int .i64 a0] [.one .bool] w K
theorem qN {a0 w K K'} : fC a0 w K -> (∀ x0 w, K x0 w -> K' x0 w) -> fC a0 w K' := ak.mono
abbrev Jl : FuncId := 147
def Ib (a0 : Value) (f0 : Addr) (w : World) (K : World -> Prop) : Prop :=
 ak Tryz.prog 147 [a0, (.pointer (some f0))] [] w K
def CZ (a0 : Int) (a1 : ah) (w : World) (K : Bool -> World -> Prop) : Prop :=
 ak Tryz.prog 148 [.int .i64 a0, .slice a1.a a1.len a1.cap] [.one .bool] w K
def b_ (a0 : ah) (a1 : Int) (w : World) (K : Bool -> World -> Prop) : Prop :=
 ak Tryz.prog 150 [.slice a0.a a0.len a0.cap, .int .i64 a1] [.one .bool] w K
theorem oQ {a0 a1 w K K'} : b_ a0 a1 w K -> (∀ x0 w, K x0 w -> K' x0 w) -> b_ a0 a1 w K' := ak.mono
def dJ (a0 : ah) (a1 : Int) (w : World) (K : Int -> World -> Prop) : Prop :=
 ak Tryz.prog 151 [.slice a0.a a0.len a0.cap, .int .i64 a1] [.one (.int .i64)] w K
theorem qU {a0 a1 w K K'} : dJ a0 a1 w K -> (∀ x0 w, K x0 w -> K' x0 w) -> dJ a0 a1 w K' := ak.mono
theorem AU {a0 a1 w K} : aN (uG a0 a1 w K)
 ((bif (decide ((a0.len : Int) > 3000)) then
 iK  w fun r3 w4 => K r3 w4
 else
 jW  w fun r5 r6 r7 r8 r9 r10 r11 r12 r13 r14 r15 r16 r17 r18 r19 r20 r21 r22 r23 r24 r25 r26 r27 r28 r29 r30 r31 r32 r33 r34 r35 r36 r37 r38 r39 r40 r41 w42 => pJ r5 r6 r7 r8 r9 r10 r11 r12 r13 r14 r15 r16 r17 r18 r19 r20 r21 r22 r23 r24 r25 r26 r27 r28 r29 r30 r31 r32 r33 r34 r35 r36 r37 r38 r39 r40 r41 w42 fun r43 r44 w45 => let J46 : Bool -> Prop := fun j47 => ((bif j47 then
 K false w45
 else
 dw 3221225985 167772161 5 6 9 a0 w45 fun r48 w49 => jW  w49 fun r50 r51 r52 r53 r54 r55 r56 r57 r58 r59 r60 r61 r62 r63 r64 r65 r66 r67 r68 r69 r70 r71 r72 r73 r74 r75 r76 r77 r78 r79 r80 r81 r82 r83 r84 r85 r86 w87 => jW  w87 fun r88 r89 r90 r91 r92 r93 r94 r95 r96 r97 r98 r99 r100 r101 r102 r103 r104 r105 r106 r107 r108 r109 r110 r111 r112 r113 r114 r115 r116 r117 r118 r119 r120 r121 r122 r123 r124 w125 => lH 0 0 4 9 r66 r67 r68 r69 r70 r71 r72 r73 r74 r75 r76 r77 r78 r79 r80 r81 r88 r89 r90 r91 r92 r93 r94 r95 r96 r97 r98 r99 r100 r101 r102 r103 r48 77 1280 w125 fun r126 r127 w128 => (bif (r127 != 0) then
 K false w128
 else
 dU (S := Int × Unit) (fun s129 w130 next131 => (bif (decide (s129.1 < (r126.len : Int))) then
 let J132 : World -> Prop := fun w133 => (next131 ((IntKind.i64.wrap (s129.1 + 1)), ()) w133)
 (bif (decide (s129.1 < (a1.len : Int))) then
 dN a1 1 s129.1 fun a134 => Ld (.int .u8) w130 a134 fun x135 => (IntKind.i64.wrap ((r126.len : Int) - s129.1)) ≠ 0 ∧
 dN r126 37 (IntKind.i64.wrap (s129.1 + (Int.tmod (IntKind.i64.wrap x135) (IntKind.i64.wrap ((r126.len : Int) - s129.1))))) fun a136 => dY w130.drew a136 fun x137 x138 x139 x140 x141 x142 x143 x144 x145 x146 x147 x148 x149 x150 x151 x152 x153 x154 x155 x156 x157 x158 x159 x160 x161 x162 x163 x164 x165 x166 x167 x168 x169 x170 x171 x172 x173 => dN r126 37 s129.1 fun a174 => dY w130.drew a174 fun x175 x176 x177 x178 x179 x180 x181 x182 x183 x184 x185 x186 x187 x188 x189 x190 x191 x192 x193 x194 x195 x196 x197 x198 x199 x200 x201 x202 x203 x204 x205 x206 x207 x208 x209 x210 x211 => dN r126 37 s129.1 fun a212 => gJ (bG x137 x138 x139 x140 x141 x142 x143 x144 x145 x146 x147 x148 x149 x150 x151 x152 x153 x154 x155 x156 x157 x158 x159 x160 x161 x162 x163 x164 x165 x166 x167 x168 x169 x170 x171 x172 x173) w130.drew a212 0 fun w213 => dN r126 37 (IntKind.i64.wrap (s129.1 + (Int.tmod (IntKind.i64.wrap x135) (IntKind.i64.wrap ((r126.len : Int) - s129.1))))) fun a214 => gJ (bG x175 x176 x177 x178 x179 x180 x181 x182 x183 x184 x185 x186 x187 x188 x189 x190 x191 x192 x193 x194 x195 x196 x197 x198 x199 x200 x201 x202 x203 x204 x205 x206 x207 x208 x209 x210 x211) w213 a214 0 fun w215 => J132 w215
 else
 J132 w130)
 else
 dU (S := Int × Unit) (fun s216 w217 next218 => (bif (decide (s216.1 < (r126.len : Int))) then
 dN r126 37 s216.1 fun a219 => dY w217 a219 fun x220 x221 x222 x223 x224 x225 x226 x227 x228 x229 x230 x231 x232 x233 x234 x235 x236 x237 x238 x239 x240 x241 x242 x243 x244 x245 x246 x247 x248 x249 x250 x251 x252 x253 x254 x255 x256 => Al w217 (.cells ⟨(bG 0 0 0 0 0 0 0 0 0 0 0 0 0 0 0 0 0 0 0 0 0 0 0 0 0 0 0 0 0 0 0 0 0 0 0 0 ⟨none, 0, 0⟩)⟩ 38) fun a258 w257 => gJ (bG x220 x221 x222 x223 x224 x225 x226 x227 x228 x229 x230 x231 x232 x233 x234 x235 x236 x237 x238 x239 x240 x241 x242 x243 x244 x245 x246 x247 x248 x249 x250 x251 x252 x253 x254 x255 x256) w257 a258 0 fun w259 => dY w259 a258 fun x260 x261 x262 x263 x264 x265 x266 x267 x268 x269 x270 x271 x272 x273 x274 x275 x276 x277 x278 x279 x280 x281 x282 x283 x284 x285 x286 x287 x288 x289 x290 x291 x292 x293 x294 x295 x296 => jP x260 x261 x262 x263 x264 x265 x266 x267 x268 x269 x270 x271 x272 x273 x274 x275 x276 x277 x278 x279 x280 x281 x282 x283 x284 x285 x286 x287 x288 x289 x290 x291 x292 x293 x294 x295 x296 w259 fun r297 r298 w299 => h_ r43 r297 w299 fun r300 r301 r302 w303 => z_ (S := (Bool × Unit) × World) (fun s304 => (bif s304.1.1 then
 K false s304.2
 else
 next218 ((IntKind.i64.wrap (s216.1 + 1)), ()) s304.2)) fun J305 => (bif (r298 != 0) then
 (J305 ((true, ()), w303.drew)) ∧
 (J305 ((true, ()), w303.drew))
 else
 (bif (r302 != 0) then
 (J305 ((true, ()), w303.drew)) ∧
 (J305 ((true, ()), w303.drew))
 else
 (bif (!((((r301.len : Int) == 1) : Bool) == ((IntKind.i64.wrap (s216.1 + 1)) == (r126.len : Int)))) then
 (J305 ((true, ()), w303.drew)) ∧
 (J305 ((true, ()), w303.drew))
 else
 (bif ((r301.len : Int) == 1) then
 dN r301 1 0 fun a306 => Ld .slice w303.drew a306 fun x307 => (fM w303.drew x307 fun b308 => fM w303.drew r48 fun b309 => w303.drew.cell? a306 = some (Value.slice x307.a x307.len x307.cap) ∧
 J305 (((!strEq b308 b309), ()), w303.drew)) ∧
 (fM w303.drew r48 fun b310 => w303.drew.cell? a306 = some (Value.slice x307.a x307.len x307.cap) ∧
 fM w303.drew x307 fun b311 => J305 (((!strEq b311 b310), ()), w303.drew))
 else
 (J305 ((false, ()), w303.drew)) ∧
 (J305 ((false, ()), w303.drew))))))
 else
 iK  w217 fun r312 w313 => K r312 w313)) (0, ()) w130)) (0, ()) w128)))
 (bif (Option.isNone r43) then
 J46 true
 else
 J46 (r44 != 0)))) := okF cO Tryz.func3 (.seq .leaf (.seq .leaf (.seq .leaf (.seq .leaf (.seq .leaf (.seq .leaf (.seq .leaf (.seq (.seq .leaf (.blk (.loop [(50, (.int .i64))] .leaf))) (.seq (.seq .leaf (.blk (.loop [(86, (.int .i64))] (.seq .leaf (.seq .leaf (.seq (.blk (.seq .leaf (.seq .leaf (.seq .leaf (.join [(133, .sh (.one .bool))] .leaf .leaf))))) .leaf)))))) .leaf))))))))) (by kernel_rfl)
theorem Dn { w K} : aN (iK  w K)
 (jW  w fun r1 r2 r3 r4 r5 r6 r7 r8 r9 r10 r11 r12 r13 r14 r15 r16 r17 r18 r19 r20 r21 r22 r23 r24 r25 r26 r27 r28 r29 r30 r31 r32 r33 r34 r35 r36 r37 w38 => pJ r1 r2 r3 r4 r5 r6 r7 r8 r9 r10 r11 r12 r13 r14 r15 r16 r17 r18 r19 r20 r21 r22 r23 r24 r25 r26 r27 r28 r29 r30 r31 r32 r33 r34 r35 r36 r37 w38 fun r39 r40 w41 => let J42 : Bool -> Prop := fun j43 => ((bif j43 then
 K false w41
 else
 dw 167772161 3221225985 5 6 9 ⟨none, 0, 0⟩ w41 fun r44 w45 => iG r39 r44 w45 fun r46 r47 r48 w49 => dw 167772161 3221225985 5 6 1 ⟨none, 0, 0⟩ w49 fun r50 w51 => iG r39 r50 w51 fun r52 r53 r54 w55 => let J56 : Bool -> World -> Prop := fun j57 w58 => (K j57 w58)
 (bif ((r46.len : Int) == 1) then
 (bif ((r47.len : Int) == 0) then
 (bif (r48 == 0) then
 (bif ((r53.len : Int) == 1) then
 (bif (r54 == 3) then
 zq  w55 fun r59 w60 => J56 (r59 == 3221225474) w60
 else
 J56 false w55)
 else
 J56 false w55)
 else
 J56 false w55)
 else
 J56 false w55)
 else
 J56 false w55)))
 (bif (Option.isNone r39) then
 J42 true
 else
 J42 (r40 != 0))) := okF cO Tryz.func4 .leaf (by kernel_rfl)
theorem FT {A0 A1 A2 A3 A4 A5 A6 A7 A8 A9 A10 A11 A12 A13 A14 A15 A16 A17 A18 A19 A20 A21 A22 A23 A24 A25 A26 A27 A28 A29 A30 A31 A32 A33 A34 A35 A36 w K} : aN (pJ A0 A1 A2 A3 A4 A5 A6 A7 A8 A9 A10 A11 A12 A13 A14 A15 A16 A17 A18 A19 A20 A21 A22 A23 A24 A25 A26 A27 A28 A29 A30 A31 A32 A33 A34 A35 A36 w K)
 (Al w (.cells ⟨(xg A0 A1 A2 A3 A4 A5 A6 A7 A8 A9 A10 A11 A12 A13 A14 A15 A16 A17 A18 A19 A20 A21 A22 A23 A24 A25 A26 A27 A28 A29 A30 A31 A32 A33 A34 A35 A36)⟩ 31) fun a3 w2 => Np w2 a3 fun x4 x5 x6 x7 x8 x9 x10 x11 x12 x13 x14 x15 x16 x17 x18 x19 x20 x21 x22 x23 x24 x25 x26 x27 x28 x29 x30 x31 x32 x33 x34 x35 x36 x37 x38 x39 x40 => je x4 x5 x6 x7 x8 x9 x10 x11 x12 x13 x14 x15 x16 x17 x18 x19 x20 x21 x22 x23 x24 x25 x26 x27 x28 x29 x30 x31 x32 x33 x34 x35 x36 x37 x38 x39 x40 w2 fun r41 w42 => (bif (!r41) then
 K none 1 w42
 else
 Ld (.int .i64) w42 (a3.add 34) fun x43 => Ld (.int .i64) w42 (a3.add 35) fun x44 => Ld (.int .i64) w42 (a3.add 36) fun x45 => lN x43 x44 x45 w42 fun r46 r47 w48 => (bif (r47 != 0) then
 K none r47 w48
 else
 Np w48.drew a3 fun x49 x50 x51 x52 x53 x54 x55 x56 x57 x58 x59 x60 x61 x62 x63 x64 x65 x66 x67 x68 x69 x70 x71 x72 x73 x74 x75 x76 x77 x78 x79 x80 x81 x82 x83 x84 x85 => kJ  w48.drew fun r86 w87 => Dq (xg x49 x50 x51 x52 x53 x54 x55 x56 x57 x58 x59 x60 x61 x62 x63 x64 x65 x66 x67 x68 x69 x70 x71 x72 x73 x74 x75 x76 x77 x78 x79 x80 x81 x82 x83 x84 x85) w87 a3 0 (
 Al w87 (.cells ⟨(VQ x49 x50 x51 x52 x53 x54 x55 x56 x57 x58 x59 x60 x61 x62 x63 x64 x65 x66 x67 x68 x69 x70 x71 x72 x73 x74 x75 x76 x77 x78 x79 x80 x81 x82 x83 x84 x85 r46 r86 0 1)⟩ 52) fun a89 w88 => K (some a89) 0 w88)))) := okF cO Tryz.func5 .leaf (by kernel_rfl)
theorem Iy { w K} : aN (jW  w K)
 (Al w (.cells ⟨(xg 0 0 0 0 0 0 0 0 0 0 0 0 0 0 0 0 0 0 0 0 0 0 0 0 0 0 0 0 0 0 0 0 0 0 0 0 0)⟩ 31) fun a2 w1 => gJ (xg 32 2 0 0 0 0 0 0 0 0 0 0 0 0 0 0 32 1 0 0 0 0 0 0 0 0 0 0 0 0 0 0 1280 64 4 10000 60) w1 a2 0 fun w3 => Np w3 a2 fun y4 y5 y6 y7 y8 y9 y10 y11 y12 y13 y14 y15 y16 y17 y18 y19 y20 y21 y22 y23 y24 y25 y26 y27 y28 y29 y30 y31 y32 y33 y34 y35 y36 y37 y38 y39 y40 => K y4 y5 y6 y7 y8 y9 y10 y11 y12 y13 y14 y15 y16 y17 y18 y19 y20 y21 y22 y23 y24 y25 y26 y27 y28 y29 y30 y31 y32 y33 y34 y35 y36 y37 y38 y39 y40 w3) := okF cO Tryz.func6 .leaf (by kernel_rfl)
theorem xW {a0 a1 a2 a3 a4 a5 w K} : aN (dw a0 a1 a2 a3 a4 a5 w K)
 (jG a0 a1 a2 a3 false a5 w fun r7 r8 w9 => jL 0 0 0 a4 17 a0 a1 false false ⟨none, 0, 0⟩ r7 w9 fun r10 r11 w12 => K r10 w12) := okF cO Tryz.func7 .leaf (by kernel_rfl)
theorem JL {A0 A1 A2 A3 A4 A5 A6 A7 A8 A9 A10 A11 A12 A13 A14 A15 A16 A17 A18 A19 A20 A21 A22 A23 A24 A25 A26 A27 A28 A29 A30 A31 A32 A33 A34 A35 A36 a1 a2 w K} : aN (lH A0 A1 A2 A3 A4 A5 A6 A7 A8 A9 A10 A11 A12 A13 A14 A15 A16 A17 A18 A19 A20 A21 A22 A23 A24 A25 A26 A27 A28 A29 A30 A31 A32 A33 A34 A35 A36 a1 a2 w K)
 (Al w (.cells ⟨(bG A0 A1 A2 A3 A4 A5 A6 A7 A8 A9 A10 A11 A12 A13 A14 A15 A16 A17 A18 A19 A20 A21 A22 A23 A24 A25 A26 A27 A28 A29 A30 A31 A32 A33 A34 A35 A36)⟩ 38) fun a5 w4 => dD (Value.int .i64 a1) = true ∧
 Al w4 (.cells ⟨[(Value.int .i64 a1)]⟩ 3) fun a7 w6 => Al w6 (.cells ⟨[(Value.slice none 0 0)]⟩ 34) fun a9 w8 => Al w8 (.cells ⟨[(Value.int .i64 0)]⟩ 25) fun a11 w10 => let J12 : Bool -> World -> Prop := fun j13 w14 => ((bif j13 then
 St w14 a9 (Value.slice none 0 0) fun w15 => St w15 a11 (Value.int .i64 1) fun w16 => Ld .slice w16 a9 fun y17 => Ld (.int .i64) w16 a11 fun y18 => K y17 y18 w16
 else
 dY w14 a5 fun x19 x20 x21 x22 x23 x24 x25 x26 x27 x28 x29 x30 x31 x32 x33 x34 x35 x36 x37 x38 x39 x40 x41 x42 x43 x44 x45 x46 x47 x48 x49 x50 x51 x52 x53 x54 x55 => jS x19 x20 x21 x22 x23 x24 x25 x26 x27 x28 x29 x30 x31 x32 x33 x34 x35 x36 x37 x38 x39 x40 x41 x42 x43 x44 x45 x46 x47 x48 x49 x50 x51 x52 x53 x54 x55 w14 fun r56 w57 => (bif (r56 != 0) then
 St w57 a9 (Value.slice none 0 0) fun w58 => St w58 a11 (Value.int .i64 r56) fun w59 => Ld .slice w59 a9 fun y60 => Ld (.int .i64) w59 a11 fun y61 => K y60 y61 w59
 else
 dY w57 a5 fun x62 x63 x64 x65 x66 x67 x68 x69 x70 x71 x72 x73 x74 x75 x76 x77 x78 x79 x80 x81 x82 x83 x84 x85 x86 x87 x88 x89 x90 x91 x92 x93 x94 x95 x96 x97 x98 => qJ x62 x63 x64 x65 x66 x67 x68 x69 x70 x71 x72 x73 x74 x75 x76 x77 x78 x79 x80 x81 x82 x83 x84 x85 x86 x87 x88 x89 x90 x91 x92 x93 x94 x95 x96 x97 x98 w57 fun r99 w100 => (bif (decide (r99 <= a2)) then
 Ld .slice w100 (a5.add 36) fun x101 => aC x101 w100 fun r102 w103 => St w103 (a5.add 36) (Value.slice r102.a r102.len r102.cap) fun w104 => dY w104 a5 fun x105 x106 x107 x108 x109 x110 x111 x112 x113 x114 x115 x116 x117 x118 x119 x120 x121 x122 x123 x124 x125 x126 x127 x128 x129 x130 x131 x132 x133 x134 x135 x136 x137 x138 x139 x140 x141 => Al w104 (.cells ⟨(bG x105 x106 x107 x108 x109 x110 x111 x112 x113 x114 x115 x116 x117 x118 x119 x120 x121 x122 x123 x124 x125 x126 x127 x128 x129 x130 x131 x132 x133 x134 x135 x136 x137 x138 x139 x140 x141)⟩ 38) fun a143 w142 => St w142 a9 (Value.slice (some a143) 1 1) fun w144 => St w144 a11 (Value.int .i64 0) fun w145 => Ld .slice w145 a9 fun y146 => Ld (.int .i64) w145 a11 fun y147 => K y146 y147 w145
 else
 Al w100 (.cells ⟨[(Value.slice none 0 0)]⟩ 34) fun a149 w148 => Ld .slice w148 (a5.add 36) fun x150 => jK x150 (IntKind.i64.wrap ((IntKind.i64.wrap (a2 - 40)) - 8)) w148 fun r151 w152 => Gy Tryz.prog none [.agg [(.int .i64), (.int .i64), (.int .i64), .bool], .one .slice] r151 w152 (fun l153 x154 W155 Kb156 => Al W155 (.cells ⟨[(Value.int .i64 0), (Value.int .i64 0), (Value.int .i64 0), (Value.bool false)]⟩ 67) fun a158 w157 => gJ [(Value.int .i64 x154.1.1), (Value.int .i64 x154.1.2.1), (Value.int .i64 x154.1.2.2.1), (Value.bool x154.1.2.2.2.1)] w157 a158 0 fun w159 => w159.heap[l153]? = W155.heap[l153]? ∧
 Ld (.int .i64) (aZ w159 l153).drew (a5.add 2) fun x160 => Ld (.int .i64) (aZ w159 l153).drew a7 fun x161 => St (aZ w159 l153).drew a158 (Value.int .i64 x160) fun w162 => w162.cell? a7 = some (Value.int .i64 x161) ∧
 St w162 (a158.add 2) (Value.int .i64 x161) fun w163 => Ld (.int .i64) w163 (a158.add 0) fun x164 => Ld (.int .i64) w163 (a158.add 1) fun x165 => Ld (.int .i64) w163 (a158.add 2) fun x166 => Ld .bool w163 (a158.add 3) fun x167 => gX x164 x165 x166 x167 w163 fun r168 r169 w170 => (bif (r169 != 0) then
 St w170 a9 (Value.slice none 0 0) fun w171 => St w171 a11 (Value.int .i64 r169) fun w172 => Kb156 .ret w172
 else
 dY w170 a5 fun x173 x174 x175 x176 x177 x178 x179 x180 x181 x182 x183 x184 x185 x186 x187 x188 x189 x190 x191 x192 x193 x194 x195 x196 x197 x198 x199 x200 x201 x202 x203 x204 x205 x206 x207 x208 x209 => Al w170 (.cells ⟨(bG 0 0 0 0 0 0 0 0 0 0 0 0 0 0 0 0 0 0 0 0 0 0 0 0 0 0 0 0 0 0 0 0 0 0 0 0 ⟨none, 0, 0⟩)⟩ 38) fun a211 w210 => gJ (bG x173 x174 x175 x176 x177 x178 x179 x180 x181 x182 x183 x184 x185 x186 x187 x188 x189 x190 x191 x192 x193 x194 x195 x196 x197 x198 x199 x200 x201 x202 x203 x204 x205 x206 x207 x208 x209) w210 a211 0 fun w212 => gI 5 1 1 [(Value.int .u8 0)] r168 x154.2.1 w212 fun s213 w214 => St w214 (a211.add 2) (Value.int .i64 44) fun w215 => St w215 (a211.add 36) (Value.slice s213.a s213.len s213.cap) fun w216 => Ld .slice w216 a149 fun x217 => dY w216 a211 fun x218 x219 x220 x221 x222 x223 x224 x225 x226 x227 x228 x229 x230 x231 x232 x233 x234 x235 x236 x237 x238 x239 x240 x241 x242 x243 x244 x245 x246 x247 x248 x249 x250 x251 x252 x253 x254 => Al w216 (.cells ⟨(bG x218 x219 x220 x221 x222 x223 x224 x225 x226 x227 x228 x229 x230 x231 x232 x233 x234 x235 x236 x237 x238 x239 x240 x241 x242 x243 x244 x245 x246 x247 x248 x249 x250 x251 x252 x253 x254)⟩ 38) fun a256 w255 => gI 38 37 88 (bG 0 0 0 0 0 0 0 0 0 0 0 0 0 0 0 0 0 0 0 0 0 0 0 0 0 0 0 0 0 0 0 0 0 0 0 0 ⟨none, 0, 0⟩) x217 ⟨(some a256), 1, 1⟩ w255 fun s257 w258 => St w258 a149 (Value.slice s257.a s257.len s257.cap) fun w259 => Kb156 .normal w259))
 (fun w260 => Ld .slice w260 a149 fun x261 => St w260 a9 (Value.slice x261.a x261.len x261.cap) fun w262 => St w262 a11 (Value.int .i64 0) fun w263 => w263.heap[w152.heap.size]? = some (.deferred (some [])) ∧
 Ld .slice (w263.putObj w152.heap.size (.deferred none)) a9 fun y264 => Ld (.int .i64) (w263.putObj w152.heap.size (.deferred none)) a11 fun y265 => K y264 y265 (w263.putObj w152.heap.size (.deferred none)))
 (fun w266 => w266.heap[w152.heap.size]? = some (.deferred (some [])) ∧
 Ld .slice (w266.putObj w152.heap.size (.deferred none)) a9 fun y267 => Ld (.int .i64) (w266.putObj w152.heap.size (.deferred none)) a11 fun y268 => K y267 y268 (w266.putObj w152.heap.size (.deferred none)))
 []))))
 (bif (decide (a2 < 1280)) then
 J12 true w10
 else
 (bif (decide (a2 > 65535)) then
 J12 true w10
 else
 Ld (.int .i64) w10 a7 fun x269 => bY x269 4 w10 fun r270 w271 => J12 (!r270) w271))) := okF cO Tryz.func8 (.seq .leaf (.seq .leaf (.seq .leaf (.seq .leaf (.seq .leaf (.seq (.seq .leaf (.blk (.rng [.agg [(.int .i64), (.int .i64), (.int .i64), .bool], .one .slice] .leaf .leaf))) .leaf)))))) (by kernel_rfl)
theorem D9 {A0 A1 A2 A3 A4 A5 A6 A7 A8 A9 A10 A11 A12 A13 A14 A15 A16 A17 A18 A19 A20 A21 A22 A23 A24 A25 A26 A27 A28 A29 A30 A31 A32 A33 A34 A35 A36 w K} : aN (jP A0 A1 A2 A3 A4 A5 A6 A7 A8 A9 A10 A11 A12 A13 A14 A15 A16 A17 A18 A19 A20 A21 A22 A23 A24 A25 A26 A27 A28 A29 A30 A31 A32 A33 A34 A35 A36 w K)
 (Al w (.cells ⟨(bG A0 A1 A2 A3 A4 A5 A6 A7 A8 A9 A10 A11 A12 A13 A14 A15 A16 A17 A18 A19 A20 A21 A22 A23 A24 A25 A26 A27 A28 A29 A30 A31 A32 A33 A34 A35 A36)⟩ 38) fun a3 w2 => dY w2 a3 fun x4 x5 x6 x7 x8 x9 x10 x11 x12 x13 x14 x15 x16 x17 x18 x19 x20 x21 x22 x23 x24 x25 x26 x27 x28 x29 x30 x31 x32 x33 x34 x35 x36 x37 x38 x39 x40 => jJ x4 x5 x6 x7 x8 x9 x10 x11 x12 x13 x14 x15 x16 x17 x18 x19 x20 x21 x22 x23 x24 x25 x26 x27 x28 x29 x30 x31 x32 x33 x34 x35 x36 x37 x38 x39 x40 w2 fun r41 w42 => (bif (r41 != 0) then
 K ⟨none, 0, 0⟩ r41 w42
 else
 Ld (.int .i64) w42 a3 fun x43 => Ld (.int .i64) w42 (a3.add 1) fun x44 => aY ⟨none, 0, 0⟩ (IntKind.i64.wrap ((IntKind.i64.wrap (1610612736 + (IntKind.i64.wrap (x43 * 1048576)))) + x44)) 4 w42 fun r45 w46 => let J47 : ah -> World -> Prop := fun j48 w49 => (lZ (a3.add 4) 16 1 0 (16 : Int) fun s50 => lZ (a3.add 20) 16 1 0 (16 : Int) fun s51 => gI 5 1 1 [(Value.int .u8 0)] j48 s50 w49.drew fun s52 w53 => gI 5 1 1 [(Value.int .u8 0)] s52 s51 w53 fun s54 w55 => Ld .slice w55 (a3.add 36) fun x56 => gI 5 1 1 [(Value.int .u8 0)] s54 x56 w55 fun s57 w58 => K s57 0 w58)
 Ld .slice w46.drew (a3.add 36) fun x59 => Ld (.int .i64) w46.drew (a3.add 2) fun x60 => Ld (.int .i64) w46.drew (a3.add 3) fun x61 => (aY r45 (x59.len : Int) 2 w46.drew fun r62 w63 => w63.cell? (a3.add 3) = some (Value.int .i64 x61) ∧
 w63.cell? (a3.add 2) = some (Value.int .i64 x60) ∧
 Al w63 (.cells ⟨[(Value.int .u8 (IntKind.u8.wrap x60)), (Value.int .u8 (IntKind.u8.wrap x61))]⟩ 5) fun a65 w64 => w64.cell? (a3.add 36) = some (Value.slice x59.a x59.len x59.cap) ∧
 gI 5 1 1 [(Value.int .u8 0)] r62 ⟨(some a65), 2, 2⟩ w64 fun s66 w67 => J47 s66 w67) ∧
 (Al w46.drew (.cells ⟨[(Value.int .u8 (IntKind.u8.wrap x60)), (Value.int .u8 (IntKind.u8.wrap x61))]⟩ 5) fun a69 w68 => w68.cell? (a3.add 36) = some (Value.slice x59.a x59.len x59.cap) ∧
 aY r45 (x59.len : Int) 2 w68 fun r70 w71 => w71.cell? (a3.add 3) = some (Value.int .i64 x61) ∧
 w71.cell? (a3.add 2) = some (Value.int .i64 x60) ∧
 gI 5 1 1 [(Value.int .u8 0)] r70 ⟨(some a69), 2, 2⟩ w71 fun s72 w73 => J47 s72 w73))) := okF cO Tryz.func9 .leaf (by kernel_rfl)
theorem Ba {a0 a1 w K} : aN (h_ a0 a1 w K)
 (iL a0 w fun r3 w4 => (bif (!r3) then
 K ⟨none, 0, 0⟩ ⟨none, 0, 0⟩ 1 w4
 else
 oN a1 w4 fun r5 r6 r7 r8 r9 r10 r11 r12 r13 r14 r15 r16 r17 r18 r19 r20 r21 r22 r23 r24 r25 r26 r27 r28 r29 r30 r31 r32 r33 r34 r35 r36 r37 r38 r39 r40 r41 r42 w43 => Al w43 (.cells ⟨(bG 0 0 0 0 0 0 0 0 0 0 0 0 0 0 0 0 0 0 0 0 0 0 0 0 0 0 0 0 0 0 0 0 0 0 0 0 ⟨none, 0, 0⟩)⟩ 38) fun a45 w44 => gJ (bG r5 r6 r7 r8 r9 r10 r11 r12 r13 r14 r15 r16 r17 r18 r19 r20 r21 r22 r23 r24 r25 r26 r27 r28 r29 r30 r31 r32 r33 r34 r35 r36 r37 r38 r39 r40 r41) w44 a45 0 fun w46 => (bif (r42 != 0) then
 bJ a0 1 w46 fun r47 w48 => K ⟨none, 0, 0⟩ ⟨none, 0, 0⟩ r47 w48
 else
 pY w46.drew (a45.add 20) fun x49 x50 x51 x52 x53 x54 x55 x56 x57 x58 x59 x60 x61 x62 x63 x64 => Pt a0 fun a65 => pY w46.drew a65 fun x66 x67 x68 x69 x70 x71 x72 x73 x74 x75 x76 x77 x78 x79 x80 x81 => (bif (!((x49 == x66) && ((x50 == x67) && ((x51 == x68) && ((x52 == x69) && ((x53 == x70) && ((x54 == x71) && ((x55 == x72) && ((x56 == x73) && ((x57 == x74) && ((x58 == x75) && ((x59 == x76) && ((x60 == x77) && ((x61 == x78) && ((x62 == x79) && ((x63 == x80) && ((x64 == x81) && true))))))))))))))))) then
 bJ a0 2 w46.drew fun r82 w83 => K ⟨none, 0, 0⟩ ⟨none, 0, 0⟩ r82 w83
 else
 Ld (.int .i64) w46.drew (a45.add 2) fun x84 => (bif (x84 == 58) then
 dY w46.drew a45 fun x85 x86 x87 x88 x89 x90 x91 x92 x93 x94 x95 x96 x97 x98 x99 x100 x101 x102 x103 x104 x105 x106 x107 x108 x109 x110 x111 x112 x113 x114 x115 x116 x117 x118 x119 x120 x121 => IY a0 x85 x86 x87 x88 x89 x90 x91 x92 x93 x94 x95 x96 x97 x98 x99 x100 x101 x102 x103 x104 x105 x106 x107 x108 x109 x110 x111 x112 x113 x114 x115 x116 x117 x118 x119 x120 x121 w46.drew fun r122 r123 w124 => K ⟨none, 0, 0⟩ r122 r123 w124
 else
 pY w46.drew.drew (a45.add 4) fun x125 x126 x127 x128 x129 x130 x131 x132 x133 x134 x135 x136 x137 x138 x139 x140 => Pt a0 fun a141 => pY w46.drew.drew (a141.add 16) fun x142 x143 x144 x145 x146 x147 x148 x149 x150 x151 x152 x153 x154 x155 x156 x157 => (bif (!((x125 == x142) && ((x126 == x143) && ((x127 == x144) && ((x128 == x145) && ((x129 == x146) && ((x130 == x147) && ((x131 == x148) && ((x132 == x149) && ((x133 == x150) && ((x134 == x151) && ((x135 == x152) && ((x136 == x153) && ((x137 == x154) && ((x138 == x155) && ((x139 == x156) && ((x140 == x157) && true))))))))))))))))) then
 bJ a0 2 w46.drew.drew fun r158 w159 => K ⟨none, 0, 0⟩ ⟨none, 0, 0⟩ r158 w159
 else
 dY w46.drew.drew a45 fun x160 x161 x162 x163 x164 x165 x166 x167 x168 x169 x170 x171 x172 x173 x174 x175 x176 x177 x178 x179 x180 x181 x182 x183 x184 x185 x186 x187 x188 x189 x190 x191 x192 x193 x194 x195 x196 => gu a0 x160 x161 x162 x163 x164 x165 x166 x167 x168 x169 x170 x171 x172 x173 x174 x175 x176 x177 x178 x179 x180 x181 x182 x183 x184 x185 x186 x187 x188 x189 x190 x191 x192 x193 x194 x195 x196 w46.drew.drew fun r197 r198 r199 r200 w201 => (bif (!r200) then
 bJ a0 r199 w201 fun r202 w203 => K ⟨none, 0, 0⟩ ⟨none, 0, 0⟩ r202 w203
 else
 (bif (r198 != 4) then
 bJ a0 4 w201 fun r204 w205 => K ⟨none, 0, 0⟩ ⟨none, 0, 0⟩ r204 w205
 else
 lK r197 w201 fun r206 r207 r208 r209 r210 r211 r212 r213 r214 r215 r216 r217 w218 => Al w218 (.cells ⟨(aO 0 0 0 0 0 0 0 false false ⟨none, 0, 0⟩ ⟨none, 0, 0⟩)⟩ 58) fun a220 w219 => gJ (aO r206 r207 r208 r209 r210 r211 r212 r213 r214 r215 r216) w219 a220 0 fun w221 => (bif (r217 != 0) then
 bJ a0 1 w221 fun r222 w223 => K ⟨none, 0, 0⟩ ⟨none, 0, 0⟩ r222 w223
 else
 bZ w221 a220 fun x224 x225 x226 x227 x228 x229 x230 x231 x232 x233 x234 => jR x224 x225 x226 x227 x228 x229 x230 x231 x232 x233 x234 0 w221 fun r235 w236 => K ⟨none, 0, 0⟩ r235 0 w236))))))))) := okF cO Tryz.func10 .leaf (by kernel_rfl)
theorem wE {a0 a1 w K} : aN (iG a0 a1 w K)
 (iL a0 w fun r3 w4 => (bif (!r3) then
 K ⟨none, 0, 0⟩ ⟨none, 0, 0⟩ 1 w4
 else
 lK a1 w4 fun r5 r6 r7 r8 r9 r10 r11 r12 r13 r14 r15 r16 w17 => Al w17 (.cells ⟨(aO 0 0 0 0 0 0 0 false false ⟨none, 0, 0⟩ ⟨none, 0, 0⟩)⟩ 58) fun a19 w18 => gJ (aO r5 r6 r7 r8 r9 r10 r11 r12 r13 r14 r15) w18 a19 0 fun w20 => (bif (r16 != 0) then
 bJ a0 1 w20 fun r21 w22 => K ⟨none, 0, 0⟩ ⟨none, 0, 0⟩ r21 w22
 else
 Ld (.int .i64) w20 (a19.add 5) fun x23 => jd x23 w20 fun r24 w25 => (bif (!r24) then
 bJ a0 2 w25 fun r26 w27 => K ⟨none, 0, 0⟩ ⟨none, 0, 0⟩ r26 w27
 else
 bZ w25 a19 fun x28 x29 x30 x31 x32 x33 x34 x35 x36 x37 x38 => oW x28 x29 x30 x31 x32 x33 x34 x35 x36 x37 x38 w25 fun r39 r40 r41 r42 r43 r44 r45 r46 r47 r48 r49 r50 w51 => Al w51 (.cells ⟨(aO 0 0 0 0 0 0 0 false false ⟨none, 0, 0⟩ ⟨none, 0, 0⟩)⟩ 58) fun a53 w52 => gJ (aO r39 r40 r41 r42 r43 r44 r45 r46 r47 r48 r49) w52 a53 0 fun w54 => (bif (!r50) then
 bZ w54 a19 fun x55 x56 x57 x58 x59 x60 x61 x62 x63 x64 x65 => qV x55 x56 x57 x58 x59 x60 x61 x62 x63 x64 x65 w54 fun r66 w67 => bJ a0 3 w67 fun r68 w69 => K ⟨none, 0, 0⟩ r66 r68 w69
 else
 bZ w54 a53 fun x70 x71 x72 x73 x74 x75 x76 x77 x78 x79 x80 => jQ x70 x71 x72 x73 x74 x75 x76 x77 x78 x79 x80 w54 fun r81 r82 w83 => let J84 : Int -> Addr -> World -> Prop := fun j85 j86 w87 => ((bif (j85 != 0) then
 bJ a0 11 w87 fun r88 w89 => K ⟨none, 0, 0⟩ ⟨none, 0, 0⟩ r88 w89
 else
 dY w87 j86 fun x90 x91 x92 x93 x94 x95 x96 x97 x98 x99 x100 x101 x102 x103 x104 x105 x106 x107 x108 x109 x110 x111 x112 x113 x114 x115 x116 x117 x118 x119 x120 x121 x122 x123 x124 x125 x126 => nH a0 x90 x91 x92 x93 x94 x95 x96 x97 x98 x99 x100 x101 x102 x103 x104 x105 x106 x107 x108 x109 x110 x111 x112 x113 x114 x115 x116 x117 x118 x119 x120 x121 x122 x123 x124 x125 x126 w87 fun r127 r128 w129 => (bif (r128 != 0) then
 bJ a0 11 w129 fun r130 w131 => K ⟨none, 0, 0⟩ ⟨none, 0, 0⟩ r130 w131
 else
 K r127 ⟨none, 0, 0⟩ 0 w129)))
 Pt a0 fun a132 => pY w83.drew a132 fun x133 x134 x135 x136 x137 x138 x139 x140 x141 x142 x143 x144 x145 x146 x147 x148 => Pt a0 fun a149 => pY w83.drew (a149.add 16) fun x150 x151 x152 x153 x154 x155 x156 x157 x158 x159 x160 x161 x162 x163 x164 x165 => Pt a0 fun a166 => Ld (.int .i64) w83.drew (a166.add 33) fun x167 => (jX x133 x134 x135 x136 x137 x138 x139 x140 x141 x142 x143 x144 x145 x146 x147 x148 x150 x151 x152 x153 x154 x155 x156 x157 x158 x159 x160 x161 x162 x163 x164 x165 x167 r81 w83.drew fun r168 r169 r170 r171 r172 r173 r174 r175 r176 r177 r178 r179 r180 r181 r182 r183 r184 r185 r186 r187 r188 r189 r190 r191 r192 r193 r194 r195 r196 r197 r198 r199 r200 r201 r202 r203 r204 r205 w206 => Al w206 (.cells ⟨(bG 0 0 0 0 0 0 0 0 0 0 0 0 0 0 0 0 0 0 0 0 0 0 0 0 0 0 0 0 0 0 0 0 0 0 0 0 ⟨none, 0, 0⟩)⟩ 38) fun a208 w207 => w207.cell? (a166.add 33) = some (Value.int .i64 x167) ∧
 Dq (sJ x150 x151 x152 x153 x154 x155 x156 x157 x158 x159 x160 x161 x162 x163 x164 x165) w207 (a149.add 16) 0 (
 Dq (sJ x133 x134 x135 x136 x137 x138 x139 x140 x141 x142 x143 x144 x145 x146 x147 x148) w207 a132 0 (
 gJ (bG r168 r169 r170 r171 r172 r173 r174 r175 r176 r177 r178 r179 r180 r181 r182 r183 r184 r185 r186 r187 r188 r189 r190 r191 r192 r193 r194 r195 r196 r197 r198 r199 r200 r201 r202 r203 r204) w207 a208 0 fun w209 => J84 r205 a208 w209))) ∧
 (Al w83.drew (.cells ⟨(bG 0 0 0 0 0 0 0 0 0 0 0 0 0 0 0 0 0 0 0 0 0 0 0 0 0 0 0 0 0 0 0 0 0 0 0 0 ⟨none, 0, 0⟩)⟩ 38) fun a211 w210 => w210.cell? (a166.add 33) = some (Value.int .i64 x167) ∧
 Dq (sJ x150 x151 x152 x153 x154 x155 x156 x157 x158 x159 x160 x161 x162 x163 x164 x165) w210 (a149.add 16) 0 (
 Dq (sJ x133 x134 x135 x136 x137 x138 x139 x140 x141 x142 x143 x144 x145 x146 x147 x148) w210 a132 0 (
 jX x133 x134 x135 x136 x137 x138 x139 x140 x141 x142 x143 x144 x145 x146 x147 x148 x150 x151 x152 x153 x154 x155 x156 x157 x158 x159 x160 x161 x162 x163 x164 x165 x167 r81 w210 fun r212 r213 r214 r215 r216 r217 r218 r219 r220 r221 r222 r223 r224 r225 r226 r227 r228 r229 r230 r231 r232 r233 r234 r235 r236 r237 r238 r239 r240 r241 r242 r243 r244 r245 r246 r247 r248 r249 w250 => gJ (bG r212 r213 r214 r215 r216 r217 r218 r219 r220 r221 r222 r223 r224 r225 r226 r227 r228 r229 r230 r231 r232 r233 r234 r235 r236 r237 r238 r239 r240 r241 r242 r243 r244 r245 r246 r247 r248) w250 a211 0 fun w251 => J84 r249 a211 w251)))))))) := okF cO Tryz.func11 .leaf (by kernel_rfl)
theorem Dv { w K} : aN (zq  w K)
 (K 3221225474 w) := okF cO Tryz.func12 .leaf (by kernel_rfl)
theorem Bd {A0 A1 A2 A3 A4 A5 A6 A7 A8 A9 A10 A11 A12 A13 A14 A15 A16 A17 A18 A19 A20 A21 A22 A23 A24 A25 A26 A27 A28 A29 A30 A31 A32 A33 A34 A35 A36 w K} : aN (je A0 A1 A2 A3 A4 A5 A6 A7 A8 A9 A10 A11 A12 A13 A14 A15 A16 A17 A18 A19 A20 A21 A22 A23 A24 A25 A26 A27 A28 A29 A30 A31 A32 A33 A34 A35 A36 w K)
 (Al w (.cells ⟨(xg A0 A1 A2 A3 A4 A5 A6 A7 A8 A9 A10 A11 A12 A13 A14 A15 A16 A17 A18 A19 A20 A21 A22 A23 A24 A25 A26 A27 A28 A29 A30 A31 A32 A33 A34 A35 A36)⟩ 31) fun a3 w2 => let J4 : Bool -> World -> Prop := fun j5 w6 => (let J7 : Bool -> World -> Prop := fun j8 w9 => (let J10 : Bool -> World -> Prop := fun j11 w12 => (let J13 : Bool -> Prop := fun j14 => (K j14 w12)
 (bif j5 then
 (bif j8 then
 J13 j11
 else
 J13 false)
 else
 J13 false))
 Ld (.int .i64) w9 (a3.add 34) fun x15 => fJ x15 0 4096 w9 fun r16 w17 => (bif r16 then
 Ld (.int .i64) w17 (a3.add 35) fun x18 => fJ x18 0 67108864 w17 fun r19 w20 => (bif r19 then
 Ld (.int .i64) w20 (a3.add 36) fun x21 => fJ x21 1 1048576 w20 fun r22 w23 => J10 r22 w23
 else
 J10 false w20)
 else
 J10 false w17))
 Ld (.int .i64) w6 (a3.add 32) fun x24 => fJ x24 1280 65535 w6 fun r25 w26 => (bif r25 then
 Ld (.int .i64) w26 (a3.add 33) fun x27 => fJ x27 1 255 w26 fun r28 w29 => J7 r28 w29
 else
 J7 false w26))
 pY w2 a3 fun x30 x31 x32 x33 x34 x35 x36 x37 x38 x39 x40 x41 x42 x43 x44 x45 => lM x30 x31 x32 x33 x34 x35 x36 x37 x38 x39 x40 x41 x42 x43 x44 x45 w2 fun r46 w47 => (bif r46 then
 pY w47 (a3.add 16) fun x48 x49 x50 x51 x52 x53 x54 x55 x56 x57 x58 x59 x60 x61 x62 x63 => lM x48 x49 x50 x51 x52 x53 x54 x55 x56 x57 x58 x59 x60 x61 x62 x63 w47 fun r64 w65 => (bif r64 then
 pY w65 a3 fun x66 x67 x68 x69 x70 x71 x72 x73 x74 x75 x76 x77 x78 x79 x80 x81 => pY w65 (a3.add 16) fun x82 x83 x84 x85 x86 x87 x88 x89 x90 x91 x92 x93 x94 x95 x96 x97 => J4 (!((x66 == x82) && ((x67 == x83) && ((x68 == x84) && ((x69 == x85) && ((x70 == x86) && ((x71 == x87) && ((x72 == x88) && ((x73 == x89) && ((x74 == x90) && ((x75 == x91) && ((x76 == x92) && ((x77 == x93) && ((x78 == x94) && ((x79 == x95) && ((x80 == x96) && ((x81 == x97) && true))))))))))))))))) w65
 else
 J4 false w65)
 else
 J4 false w47)) := okF cO Tryz.func13 .leaf (by kernel_rfl)
theorem Ak {a0 a1 a2 w K} : aN (lN a0 a1 a2 w K)
 (let J4 : Bool -> World -> Prop := fun j5 w6 => ((bif j5 then
 K none 1 w6
 else
 Al w6 (.map #[] 0) fun a8 w7 => Al w7 (.cells ⟨[(Value.map (some w6.heap.size)), (Value.int .i64 a0), (Value.int .i64 a1), (Value.int .i64 a2)]⟩ 91) fun a10 w9 => K (some a10) 0 w9))
 iC Tryz.prog [.one .bool] (Value.func (.func 41) #[] #[]) [(Value.int .i64 a0), (Value.int .i64 0), (Value.int .i64 1073741824)] w fun r11 w12 => ∃ r13 : Bool, r11 = (Value.bool r13) ∧
 (bif (!r13) then
 J4 true w12
 else
 iC Tryz.prog [.one .bool] (Value.func (.func 41) #[] #[]) [(Value.int .i64 a1), (Value.int .i64 0), (Value.int .i64 1073741824)] w12 fun r14 w15 => ∃ r16 : Bool, r14 = (Value.bool r16) ∧
 (bif (!r16) then
 J4 true w15
 else
 iC Tryz.prog [.one .bool] (Value.func (.func 41) #[] #[]) [(Value.int .i64 a2), (Value.int .i64 1), (Value.int .i64 1099511627776)] w15 fun r17 w18 => ∃ r19 : Bool, r17 = (Value.bool r19) ∧
 J4 (!r19) w18))) := okF cO Tryz.func14 .leaf (by kernel_rfl)
theorem EF { w K} : aN (kJ  w K)
 (QC 3 1 8 [(Value.int .i64 0)] 14 14 w fun s1 w2 => Al w2 (.cells ⟨[(Value.slice s1.a s1.len s1.cap)]⟩ 94) fun a4 w3 => K (some a4) w3) := okF cO Tryz.func15 .leaf (by kernel_rfl)
theorem BH {a0 a1 C0 C1 C2 C3 w K} : aN (jG a0 a1 C0 C1 C2 C3 w K)
 (Al w (.cells ⟨[(Value.int .i64 C0), (Value.int .i64 C1), (Value.bool C2), (Value.slice C3.a C3.len C3.cap)]⟩ 55) fun a5 w4 => Ld (.int .i64) w4 (a5.add 0) fun x6 => Ld (.int .i64) w4 (a5.add 1) fun x7 => Ld .bool w4 (a5.add 2) fun x8 => Ld .slice w4 (a5.add 3) fun x9 => jE x6 x7 x8 x9 w4 fun r10 w11 => (bif (r10 != 0) then
 K ⟨none, 0, 0⟩ r10 w11
 else
 Ld (.int .i64) w11 (a5.add 0) fun x12 => Ld (.int .i64) w11 (a5.add 1) fun x13 => Ld .bool w11 (a5.add 2) fun x14 => Ld .slice w11 (a5.add 3) fun x15 => gG x12 x13 x14 x15 0 w11 fun r16 w17 => Ld .bool w17 (a5.add 2) fun x18 => (bif x18 then
 K r16 0 w17
 else
 jk a0 a1 17 (r16.len : Int) w17 fun r19 w20 => Al w20 (.cells ⟨[(Value.slice r19.a r19.len r19.cap), (Value.slice r16.a r16.len r16.cap)]⟩ 22) fun a22 w21 => lS ⟨(some a22), 2, 2⟩ w21 fun r23 w24 => let J25 : Int -> Prop := fun j26 => (Ld (.int .i64) w24 (a5.add 0) fun x27 => Ld (.int .i64) w24 (a5.add 1) fun x28 => Ld .bool w24 (a5.add 2) fun x29 => Ld .slice w24 (a5.add 3) fun x30 => gG x27 x28 x29 x30 j26 w24 fun r31 w32 => K r31 0 w32)
 (bif (r23 == 0) then
 J25 65535
 else
 J25 r23)))) := okF cO Tryz.func16 .leaf (by kernel_rfl)
theorem Dj {A0 A1 A2 A3 A4 A5 A6 A7 A8 A9 A10 w K} : aN (jL A0 A1 A2 A3 A4 A5 A6 A7 A8 A9 A10 w K)
 (Al w (.cells ⟨(aO A0 A1 A2 A3 A4 A5 A6 A7 A8 A9 A10)⟩ 58) fun a3 w2 => bZ w2 a3 fun x4 x5 x6 x7 x8 x9 x10 x11 x12 x13 x14 => jO x4 x5 x6 x7 x8 x9 x10 x11 x12 x13 x14 w2 fun r15 w16 => (bif (r15 != 0) then
 K ⟨none, 0, 0⟩ r15 w16
 else
 bZ w16.drew a3 fun x17 x18 x19 x20 x21 x22 x23 x24 x25 x26 x27 => bZ w16.drew a3 fun x28 x29 x30 x31 x32 x33 x34 x35 x36 x37 x38 => iE x28 x29 x30 x31 x32 x33 x34 x35 x36 x37 x38 w16.drew fun r39 w40 => Dq (aO x17 x18 x19 x20 x21 x22 x23 x24 x25 x26 x27) w40 a3 0 (
 jA x17 x18 x19 x20 x21 x22 x23 x24 x25 x26 x27 r39 0 w40 fun r41 w42 => Al w42 (.cells ⟨[(Value.slice r41.a r41.len r41.cap)]⟩ 22) fun a44 w43 => lS ⟨(some a44), 1, 1⟩ w43 fun r45 w46 => bZ w46.drew a3 fun x47 x48 x49 x50 x51 x52 x53 x54 x55 x56 x57 => bZ w46.drew a3 fun x58 x59 x60 x61 x62 x63 x64 x65 x66 x67 x68 => Ld .slice w46.drew (a3.add 10) fun x69 => iE x58 x59 x60 x61 x62 x63 x64 x65 x66 x67 x68 w46.drew fun r70 w71 => w71.cell? (a3.add 10) = some (Value.slice x69.a x69.len x69.cap) ∧
 Dq (aO x47 x48 x49 x50 x51 x52 x53 x54 x55 x56 x57) w71 a3 0 (
 jA x47 x48 x49 x50 x51 x52 x53 x54 x55 x56 x57 r70 r45 w71 fun r72 w73 => w73.cell? (a3.add 10) = some (Value.slice x69.a x69.len x69.cap) ∧
 gI 5 1 1 [(Value.int .u8 0)] r72 x69 w73 fun s74 w75 => K s74 0 w75)))) := okF cO Tryz.func17 .leaf (by kernel_rfl)
theorem NV {a0 a1 w K} : aN (bY a0 a1 w K)
 (let J3 : Bool -> World -> Prop := fun j4 w5 => (K j4 w5)
 lQ a1 w fun r6 w7 => (bif r6 then
 (bif (decide (a0 >= 0)) then
 0 <= (IntKind.i64.wrap (8 * a1)) ∧
 J3 ((lu .i64 a0 (IntKind.i64.wrap (8 * a1))) == 0) w7
 else
 J3 false w7)
 else
 J3 false w7)) := okF cO Tryz.func18 .leaf (by kernel_rfl)
theorem KT {A0 A1 A2 A3 A4 A5 A6 A7 A8 A9 A10 A11 A12 A13 A14 A15 A16 A17 A18 A19 A20 A21 A22 A23 A24 A25 A26 A27 A28 A29 A30 A31 A32 A33 A34 A35 A36 w K} : aN (jS A0 A1 A2 A3 A4 A5 A6 A7 A8 A9 A10 A11 A12 A13 A14 A15 A16 A17 A18 A19 A20 A21 A22 A23 A24 A25 A26 A27 A28 A29 A30 A31 A32 A33 A34 A35 A36 w K)
 (Al w (.cells ⟨(bG A0 A1 A2 A3 A4 A5 A6 A7 A8 A9 A10 A11 A12 A13 A14 A15 A16 A17 A18 A19 A20 A21 A22 A23 A24 A25 A26 A27 A28 A29 A30 A31 A32 A33 A34 A35 A36)⟩ 38) fun a3 w2 => let J4 : Bool -> World -> Prop := fun j5 w6 => ((bif j5 then
 K 1 w6
 else
 let J7 : Bool -> Prop := fun j8 => ((bif j8 then
 K 1 w6
 else
 Ld .slice w6 (a3.add 36) fun x9 => (bif (decide ((x9.len : Int) > 65535)) then
 K 6 w6
 else
 K 0 w6)))
 Ld (.int .i64) w6 (a3.add 1) fun x10 => (bif (decide (x10 < 0)) then
 J7 (decide (x10 < 0))
 else
 Ld (.int .i64) w6 (a3.add 1) fun x11 => J7 (decide (x11 >= 1048576)))))
 Ld (.int .i64) w2 a3 fun x12 => bY x12 1 w2 fun r13 w14 => (bif (!r13) then
 J4 (!r13) w14
 else
 Ld (.int .i64) w14 (a3.add 2) fun x15 => bY x15 1 w14 fun r16 w17 => (bif (!r16) then
 J4 (!r16) w17
 else
 Ld (.int .i64) w17 (a3.add 3) fun x18 => bY x18 1 w17 fun r19 w20 => J4 (!r19) w20))) := okF cO Tryz.func19 .leaf (by kernel_rfl)
theorem Na {A0 A1 A2 A3 A4 A5 A6 A7 A8 A9 A10 A11 A12 A13 A14 A15 A16 A17 A18 A19 A20 A21 A22 A23 A24 A25 A26 A27 A28 A29 A30 A31 A32 A33 A34 A35 A36 w K} : aN (qJ A0 A1 A2 A3 A4 A5 A6 A7 A8 A9 A10 A11 A12 A13 A14 A15 A16 A17 A18 A19 A20 A21 A22 A23 A24 A25 A26 A27 A28 A29 A30 A31 A32 A33 A34 A35 A36 w K)
 (Al w (.cells ⟨(bG A0 A1 A2 A3 A4 A5 A6 A7 A8 A9 A10 A11 A12 A13 A14 A15 A16 A17 A18 A19 A20 A21 A22 A23 A24 A25 A26 A27 A28 A29 A30 A31 A32 A33 A34 A35 A36)⟩ 38) fun a3 w2 => Ld .slice w2 (a3.add 36) fun x4 => K (IntKind.i64.wrap (40 + (x4.len : Int))) w2) := okF cO Tryz.func20 .leaf (by kernel_rfl)
theorem jC {a0 w K} : aN (aC a0 w K)
 ((bif (Option.isNone a0.a) then
 K ⟨none, 0, 0⟩ w
 else
 Al w (.cells ⟨[]⟩ 5) fun a3 w2 => gI 5 1 1 [(Value.int .u8 0)] ⟨(some a3), 0, 0⟩ a0 w2 fun s4 w5 => K s4 w5)) := okF cO Tryz.func21 .leaf (by kernel_rfl)
theorem Dy {a0 a1 w K} : aN (jK a0 a1 w K)
 (dD (Value.slice a0.a a0.len a0.cap) = true ∧
 Al w (.cells ⟨[(Value.slice a0.a a0.len a0.cap)]⟩ 22) fun a4 w3 => dD (Value.int .i64 a1) = true ∧
 Al w3 (.cells ⟨[(Value.int .i64 a1)]⟩ 3) fun a6 w5 => K (Value.func (.func 50) #[] #[(Value.pointer (some a6)), (Value.pointer (some a4))]) w5) := okF cO Tryz.func22 .leaf (by kernel_rfl)
theorem AP {A0 A1 A2 A3 w K} : aN (gX A0 A1 A2 A3 w K)
 (Al w (.cells ⟨[(Value.int .i64 A0), (Value.int .i64 A1), (Value.int .i64 A2), (Value.bool A3)]⟩ 67) fun a3 w2 => let J4 : Bool -> World -> Prop := fun j5 w6 => ((bif j5 then
 K ⟨none, 0, 0⟩ 1 w6
 else
 Ld (.int .i64) w6 (a3.add 1) fun x7 => let J8 : Int -> Prop := fun j9 => (Ld (.int .i64) w6 a3 fun x10 => Al w6 (.cells ⟨[(Value.int .u8 (IntKind.u8.wrap x10)), (Value.int .u8 0)]⟩ 5) fun a12 w11 => iY ⟨(some a12), 2, 2⟩ j9 2 w11 fun r13 w14 => Ld (.int .i64) w14 (a3.add 2) fun x15 => iY r13 x15 4 w14 fun r16 w17 => K r16 0 w17)
 Ld .bool w6 (a3.add 3) fun x18 => (bif x18 then
 J8 (Bj .i64 x7 1)
 else
 J8 x7)))
 Ld (.int .i64) w2 a3 fun x19 => bY x19 1 w2 fun r20 w21 => (bif (!r20) then
 J4 true w21
 else
 Ld (.int .i64) w21 (a3.add 2) fun x22 => bY x22 4 w21 fun r23 w24 => (bif (!r23) then
 J4 true w24
 else
 Ld (.int .i64) w24 (a3.add 1) fun x25 => bY x25 2 w24 fun r26 w27 => (bif (!r26) then
 J4 true w27
 else
 Ld (.int .i64) w27 (a3.add 1) fun x28 => (8 : Int) ≠ 0 ∧
 J4 ((Int.tmod x28 8) != 0) w27)))) := okF cO Tryz.func23 .leaf (by kernel_rfl)
theorem BM {A0 A1 A2 A3 A4 A5 A6 A7 A8 A9 A10 A11 A12 A13 A14 A15 A16 A17 A18 A19 A20 A21 A22 A23 A24 A25 A26 A27 A28 A29 A30 A31 A32 A33 A34 A35 A36 w K} : aN (jJ A0 A1 A2 A3 A4 A5 A6 A7 A8 A9 A10 A11 A12 A13 A14 A15 A16 A17 A18 A19 A20 A21 A22 A23 A24 A25 A26 A27 A28 A29 A30 A31 A32 A33 A34 A35 A36 w K)
 (Al w (.cells ⟨(bG A0 A1 A2 A3 A4 A5 A6 A7 A8 A9 A10 A11 A12 A13 A14 A15 A16 A17 A18 A19 A20 A21 A22 A23 A24 A25 A26 A27 A28 A29 A30 A31 A32 A33 A34 A35 A36)⟩ 38) fun a3 w2 => let J4 : Bool -> World -> Prop := fun j5 w6 => ((bif j5 then
 K 1 w6
 else
 Ld .slice w6 (a3.add 36) fun x7 => (bif (decide ((x7.len : Int) > 65535)) then
 K 6 w6
 else
 K 0 w6)))
 Ld (.int .i64) w2 a3 fun x8 => bW x8 1 w2 fun r9 w10 => (bif (!r9) then
 J4 true w10
 else
 Ld (.int .i64) w10 (a3.add 2) fun x11 => bW x11 1 w10 fun r12 w13 => (bif (!r12) then
 J4 true w13
 else
 Ld (.int .i64) w13 (a3.add 3) fun x14 => bW x14 1 w13 fun r15 w16 => (bif (!r15) then
 J4 true w16
 else
 Ld (.int .i64) w16 (a3.add 1) fun x17 => (bif (decide (x17 < 0)) then
 J4 true w16
 else
 Ld (.int .i64) w16 (a3.add 1) fun x18 => J4 (decide (x18 >= 1048576)) w16))))) := okF cO Tryz.func24 .leaf (by kernel_rfl)
theorem Gx {a0 a1 a2 w K} : aN (aY a0 a1 a2 w K)
 (gI 5 1 1 [(Value.int .u8 0)] ⟨none, 0, 0⟩ a0 w fun s4 w5 => bW a1 a2 w5 fun r6 w7 => (bif (!r6) then
 K s4 w7
 else
 dU (S := ah × Int × Unit) (fun s8 w9 next10 => (bif (decide (s8.2.1 >= 0)) then
 jY s8.2.1 w9 fun r11 w12 => r11 ≠ 0 ∧
 (256 : Int) ≠ 0 ∧
 Al w12 (.cells ⟨[(Value.int .u8 (IntKind.u8.wrap (Int.tmod (IntKind.i64.wrap (Int.tdiv a1 r11)) 256)))]⟩ 5) fun a14 w13 => gI 5 1 1 [(Value.int .u8 0)] s8.1 ⟨(some a14), 1, 1⟩ w13 fun s15 w16 => next10 (s15, (IntKind.i64.wrap (s8.2.1 - 1)), ()) w16
 else
 K s8.1 w9)) (s4, (IntKind.i64.wrap (a2 - 1)), ()) w7)) := okF cO Tryz.func25 (.seq .leaf (.seq .leaf (.seq .leaf (.seq (.seq .leaf (.blk (.loop [(7, .slice), (8, (.int .i64))] .leaf))) .leaf)))) (by kernel_rfl)
theorem Dk {a0 w K} : aN (iL a0 w K)
 (let J2 : Bool -> Prop := fun j3 => (K j3 w)
 (bif (!(Option.isNone a0)) then
 Pt a0 fun a4 => Ld .ptr w (a4.add 37) fun x5 => J2 (!(Option.isNone x5))
 else
 J2 false)) := okF cO Tryz.func26 .leaf (by kernel_rfl)
theorem JR {a0 w K} : aN (oN a0 w K)
 (Al w (.cells ⟨(bG 0 0 0 0 0 0 0 0 0 0 0 0 0 0 0 0 0 0 0 0 0 0 0 0 0 0 0 0 0 0 0 0 0 0 0 0 ⟨none, 0, 0⟩)⟩ 38) fun a3 w2 => qO a0 false w2 fun r4 r5 r6 r7 r8 r9 r10 r11 r12 r13 r14 r15 r16 r17 r18 r19 r20 r21 r22 r23 r24 r25 r26 r27 r28 r29 r30 r31 r32 r33 r34 r35 r36 r37 r38 r39 r40 r41 w42 => gJ (bG r4 r5 r6 r7 r8 r9 r10 r11 r12 r13 r14 r15 r16 r17 r18 r19 r20 r21 r22 r23 r24 r25 r26 r27 r28 r29 r30 r31 r32 r33 r34 r35 r36 r37 r38 r39 r40) w42 a3 0 fun w43 => dY w43 a3 fun y44 y45 y46 y47 y48 y49 y50 y51 y52 y53 y54 y55 y56 y57 y58 y59 y60 y61 y62 y63 y64 y65 y66 y67 y68 y69 y70 y71 y72 y73 y74 y75 y76 y77 y78 y79 y80 => K y44 y45 y46 y47 y48 y49 y50 y51 y52 y53 y54 y55 y56 y57 y58 y59 y60 y61 y62 y63 y64 y65 y66 y67 y68 y69 y70 y71 y72 y73 y74 y75 y76 y77 y78 y79 y80 r41 w43) := okF cO Tryz.func27 .leaf (by kernel_rfl)
theorem wG {a0 a1 w K} : aN (bJ a0 a1 w K)
 (Pt a0 fun a3 => Ld .ptr w (a3.add 38) fun x4 => gV x4 a1 w fun r5 w6 => K a1 w6) := okF cO Tryz.func28 .leaf (by kernel_rfl)
theorem uD {a0 B0 B1 B2 B3 B4 B5 B6 B7 B8 B9 B10 B11 B12 B13 B14 B15 B16 B17 B18 B19 B20 B21 B22 B23 B24 B25 B26 B27 B28 B29 B30 B31 B32 B33 B34 B35 B36 w K} : aN (gu a0 B0 B1 B2 B3 B4 B5 B6 B7 B8 B9 B10 B11 B12 B13 B14 B15 B16 B17 B18 B19 B20 B21 B22 B23 B24 B25 B26 B27 B28 B29 B30 B31 B32 B33 B34 B35 B36 w K)
 (Al w (.cells ⟨(bG B0 B1 B2 B3 B4 B5 B6 B7 B8 B9 B10 B11 B12 B13 B14 B15 B16 B17 B18 B19 B20 B21 B22 B23 B24 B25 B26 B27 B28 B29 B30 B31 B32 B33 B34 B35 B36)⟩ 38) fun a4 w3 => Ld (.int .i64) w3 (a4.add 2) fun x5 => (bif (x5 != 44) then
 Ld .slice w3.drew (a4.add 36) fun x6 => Ld (.int .i64) w3.drew (a4.add 2) fun x7 => K x6 x7 0 true w3.drew
 else
 dY w3 a4 fun x8 x9 x10 x11 x12 x13 x14 x15 x16 x17 x18 x19 x20 x21 x22 x23 x24 x25 x26 x27 x28 x29 x30 x31 x32 x33 x34 x35 x36 x37 x38 x39 x40 x41 x42 x43 x44 => nJ x8 x9 x10 x11 x12 x13 x14 x15 x16 x17 x18 x19 x20 x21 x22 x23 x24 x25 x26 x27 x28 x29 x30 x31 x32 x33 x34 x35 x36 x37 x38 x39 x40 x41 x42 x43 x44 w3 fun r45 r46 r47 r48 r49 r50 w51 => Al w51 (.cells ⟨[(Value.int .i64 0), (Value.int .i64 0), (Value.int .i64 0), (Value.bool false)]⟩ 67) fun a53 w52 => gJ [(Value.int .i64 r45), (Value.int .i64 r46), (Value.int .i64 r47), (Value.bool r48)] w52 a53 0 fun w54 => (bif (!r50) then
 K ⟨none, 0, 0⟩ 0 1 false w54
 else
 let J55 : ByteArray -> ah -> Bool -> Int -> World -> Prop := fun j56 j57 j58 j59 w60 => (let J61 : Bool -> Prop := fun j62 => ((bif j62 then
 nP j59 w60 fun r63 w64 => K ⟨none, 0, 0⟩ 0 r63 false w64
 else
 U1 j56 0 fun x65 => K j57 (IntKind.i64.wrap x65) 0 true w60.drew))
 (bif (j59 != 0) then
 J61 true
 else
 (bif (!j58) then
 J61 true
 else
 J61 ((j56.size : Int) == 0))))
 Pt a0 fun a66 => Ld .ptr w54.drew (a66.add 37) fun x67 => dY w54.drew a4 fun x68 x69 x70 x71 x72 x73 x74 x75 x76 x77 x78 x79 x80 x81 x82 x83 x84 x85 x86 x87 x88 x89 x90 x91 x92 x93 x94 x95 x96 x97 x98 x99 x100 x101 x102 x103 x104 => Ld (.int .i64) w54.drew (a53.add 2) fun x105 => Ld (.int .i64) w54.drew (a53.add 1) fun x106 => Ld .bool w54.drew (a53.add 3) fun x107 => Ld (.int .i64) w54.drew a53 fun x108 => Pt a0 fun a109 => Ld (.int .i64) w54.drew (a109.add 39) fun x110 => (nK x68 x69 x70 x71 x72 x73 x74 x75 x76 x77 x78 x79 x80 x81 x82 x83 x84 x85 x86 x87 x88 x89 x90 x91 x92 x93 x94 x95 x96 x97 x98 x99 x100 x101 x102 x103 x104 x105 w54.drew fun r111 w112 => w112.cell? (a109.add 39) = some (Value.int .i64 x110) ∧
 w112.cell? a53 = some (Value.int .i64 x108) ∧
 w112.cell? (a53.add 3) = some (Value.bool x107) ∧
 w112.cell? (a53.add 1) = some (Value.int .i64 x106) ∧
 w112.cell? (a66.add 37) = some (Value.pointer x67) ∧
 Al w112 (.cells ⟨[(Value.int .u8 (IntKind.u8.wrap x108))]⟩ 5) fun a114 w113 => w113.cell? (a109.add 39) = some (Value.int .i64 x110) ∧
 w113.cell? (a53.add 3) = some (Value.bool x107) ∧
 w113.cell? (a53.add 1) = some (Value.int .i64 x106) ∧
 w113.cell? (a53.add 2) = some (Value.int .i64 x105) ∧
 Dq (bG x68 x69 x70 x71 x72 x73 x74 x75 x76 x77 x78 x79 x80 x81 x82 x83 x84 x85 x86 x87 x88 x89 x90 x91 x92 x93 x94 x95 x96 x97 x98 x99 x100 x101 x102 x103 x104) w113 a4 0 (
 w113.cell? (a66.add 37) = some (Value.pointer x67) ∧
 fM w113 ⟨(some a114), 1, 1⟩ fun b115 => w113.cell? (a109.add 39) = some (Value.int .i64 x110) ∧
 w113.cell? (a53.add 3) = some (Value.bool x107) ∧
 w113.cell? (a53.add 1) = some (Value.int .i64 x106) ∧
 w113.cell? (a53.add 2) = some (Value.int .i64 x105) ∧
 Dq (bG x68 x69 x70 x71 x72 x73 x74 x75 x76 x77 x78 x79 x80 x81 x82 x83 x84 x85 x86 x87 x88 x89 x90 x91 x92 x93 x94 x95 x96 x97 x98 x99 x100 x101 x102 x103 x104) w113 a4 0 (
 w113.cell? (a66.add 37) = some (Value.pointer x67) ∧
 dB x67 r111 x106 x107 r49 b115 x110 w113 fun r116 r117 r118 r119 w120 => J55 r116 r117 r118 r119 w120))) ∧
 (Al w54.drew (.cells ⟨[(Value.int .u8 (IntKind.u8.wrap x108))]⟩ 5) fun a122 w121 => w121.cell? (a109.add 39) = some (Value.int .i64 x110) ∧
 w121.cell? (a53.add 3) = some (Value.bool x107) ∧
 w121.cell? (a53.add 1) = some (Value.int .i64 x106) ∧
 w121.cell? (a53.add 2) = some (Value.int .i64 x105) ∧
 Dq (bG x68 x69 x70 x71 x72 x73 x74 x75 x76 x77 x78 x79 x80 x81 x82 x83 x84 x85 x86 x87 x88 x89 x90 x91 x92 x93 x94 x95 x96 x97 x98 x99 x100 x101 x102 x103 x104) w121 a4 0 (
 w121.cell? (a66.add 37) = some (Value.pointer x67) ∧
 (nK x68 x69 x70 x71 x72 x73 x74 x75 x76 x77 x78 x79 x80 x81 x82 x83 x84 x85 x86 x87 x88 x89 x90 x91 x92 x93 x94 x95 x96 x97 x98 x99 x100 x101 x102 x103 x104 x105 w121 fun r123 w124 => w124.cell? (a109.add 39) = some (Value.int .i64 x110) ∧
 w124.cell? a53 = some (Value.int .i64 x108) ∧
 w124.cell? (a53.add 3) = some (Value.bool x107) ∧
 w124.cell? (a53.add 1) = some (Value.int .i64 x106) ∧
 w124.cell? (a66.add 37) = some (Value.pointer x67) ∧
 fM w124 ⟨(some a122), 1, 1⟩ fun b125 => w124.cell? (a109.add 39) = some (Value.int .i64 x110) ∧
 w124.cell? (a53.add 3) = some (Value.bool x107) ∧
 w124.cell? (a53.add 1) = some (Value.int .i64 x106) ∧
 w124.cell? (a53.add 2) = some (Value.int .i64 x105) ∧
 Dq (bG x68 x69 x70 x71 x72 x73 x74 x75 x76 x77 x78 x79 x80 x81 x82 x83 x84 x85 x86 x87 x88 x89 x90 x91 x92 x93 x94 x95 x96 x97 x98 x99 x100 x101 x102 x103 x104) w124 a4 0 (
 w124.cell? (a66.add 37) = some (Value.pointer x67) ∧
 dB x67 r123 x106 x107 r49 b125 x110 w124 fun r126 r127 r128 r129 w130 => J55 r126 r127 r128 r129 w130)) ∧
 (fM w121 ⟨(some a122), 1, 1⟩ fun b131 => w121.cell? (a109.add 39) = some (Value.int .i64 x110) ∧
 w121.cell? (a53.add 3) = some (Value.bool x107) ∧
 w121.cell? (a53.add 1) = some (Value.int .i64 x106) ∧
 w121.cell? (a53.add 2) = some (Value.int .i64 x105) ∧
 Dq (bG x68 x69 x70 x71 x72 x73 x74 x75 x76 x77 x78 x79 x80 x81 x82 x83 x84 x85 x86 x87 x88 x89 x90 x91 x92 x93 x94 x95 x96 x97 x98 x99 x100 x101 x102 x103 x104) w121 a4 0 (
 w121.cell? (a66.add 37) = some (Value.pointer x67) ∧
 nK x68 x69 x70 x71 x72 x73 x74 x75 x76 x77 x78 x79 x80 x81 x82 x83 x84 x85 x86 x87 x88 x89 x90 x91 x92 x93 x94 x95 x96 x97 x98 x99 x100 x101 x102 x103 x104 x105 w121 fun r132 w133 => w133.cell? (a109.add 39) = some (Value.int .i64 x110) ∧
 w133.cell? a53 = some (Value.int .i64 x108) ∧
 w133.cell? (a53.add 3) = some (Value.bool x107) ∧
 w133.cell? (a53.add 1) = some (Value.int .i64 x106) ∧
 w133.cell? (a66.add 37) = some (Value.pointer x67) ∧
 dB x67 r132 x106 x107 r49 b131 x110 w133 fun r134 r135 r136 r137 w138 => J55 r134 r135 r136 r137 w138))))))) := okF cO Tryz.func30 .leaf (by kernel_rfl)
theorem LM {a0 w K} : aN (lK a0 w K)
 (Al w (.cells ⟨(aO 0 0 0 0 0 0 0 false false ⟨none, 0, 0⟩ ⟨none, 0, 0⟩)⟩ 58) fun a3 w2 => oM a0 false w2 fun r4 r5 r6 r7 w8 => Al w8 (.cells ⟨[(Value.slice none 0 0), (Value.int .i64 0), (Value.int .i64 0)]⟩ 120) fun a10 w9 => gJ [(Value.slice r4.a r4.len r4.cap), (Value.int .i64 r5), (Value.int .i64 r6)] w9 a10 0 fun w11 => (bif (r7 != 0) then
 gJ (aO 0 0 0 0 0 0 0 false false ⟨none, 0, 0⟩ ⟨none, 0, 0⟩) w11 a3 0 fun w12 => bZ w12 a3 fun y13 y14 y15 y16 y17 y18 y19 y20 y21 y22 y23 => K y13 y14 y15 y16 y17 y18 y19 y20 y21 y22 y23 r7 w12
 else
 Ld (.int .i64) w11 (a10.add 1) fun x24 => eY a0 1 0 x24 fun s25 => Al w11 (.cells ⟨[(Value.slice s25.a s25.len s25.cap)]⟩ 22) fun a27 w26 => nD ⟨(some a27), 1, 1⟩ w26 fun r28 w29 => (bif (!r28) then
 gJ (aO 0 0 0 0 0 0 0 false false ⟨none, 0, 0⟩ ⟨none, 0, 0⟩) w29 a3 0 fun w30 => bZ w30 a3 fun y31 y32 y33 y34 y35 y36 y37 y38 y39 y40 y41 => K y31 y32 y33 y34 y35 y36 y37 y38 y39 y40 y41 5 w30
 else
 Ld .slice w29 (a10.add 0) fun x42 => Ld (.int .i64) w29 (a10.add 1) fun x43 => Ld (.int .i64) w29 (a10.add 2) fun x44 => dP x42 x43 x44 w29 fun r45 r46 r47 r48 r49 r50 r51 r52 r53 r54 r55 w56 => Al w56 (.cells ⟨(aO 0 0 0 0 0 0 0 false false ⟨none, 0, 0⟩ ⟨none, 0, 0⟩)⟩ 58) fun a58 w57 => gJ (aO r45 r46 r47 r48 r49 r50 r51 r52 r53 r54 r55) w57 a58 0 fun w59 => bZ w59 a58 fun x60 x61 x62 x63 x64 x65 x66 x67 x68 x69 x70 => jT x60 x61 x62 x63 x64 x65 x66 x67 x68 x69 x70 w59 fun r71 w72 => (bif (r71 != 0) then
 gJ (aO 0 0 0 0 0 0 0 false false ⟨none, 0, 0⟩ ⟨none, 0, 0⟩) w72 a3 0 fun w73 => bZ w73 a3 fun y74 y75 y76 y77 y78 y79 y80 y81 y82 y83 y84 => K y74 y75 y76 y77 y78 y79 y80 y81 y82 y83 y84 4 w73
 else
 bZ w72 a58 fun x85 x86 x87 x88 x89 x90 x91 x92 x93 x94 x95 => gJ (aO x85 x86 x87 x88 x89 x90 x91 x92 x93 x94 x95) w72 a3 0 fun w96 => bZ w96 a3 fun y97 y98 y99 y100 y101 y102 y103 y104 y105 y106 y107 => K y97 y98 y99 y100 y101 y102 y103 y104 y105 y106 y107 0 w96)))) := okF cO Tryz.func31 .leaf (by kernel_rfl)
theorem Ag {A0 A1 A2 A3 A4 A5 A6 A7 A8 A9 A10 a1 w K} : aN (jR A0 A1 A2 A3 A4 A5 A6 A7 A8 A9 A10 a1 w K)
 (Al w (.cells ⟨(aO A0 A1 A2 A3 A4 A5 A6 A7 A8 A9 A10)⟩ 58) fun a4 w3 => (bif (a1 != 0) then
 K ⟨none, 0, 0⟩ w3
 else
 bZ w3 a4 fun x5 x6 x7 x8 x9 x10 x11 x12 x13 x14 x15 => jQ x5 x6 x7 x8 x9 x10 x11 x12 x13 x14 x15 w3 fun r16 r17 w18 => qX r16 r17 w18 fun r19 w20 => K r19 w20)) := okF cO Tryz.func32 .leaf (by kernel_rfl)
theorem Hg {a0 w K} : aN (jd a0 w K)
 (fH a0 w fun r2 w3 => (bif (!r2) then
 K false w3
 else
 Al w3 (.cells ⟨[(Value.int .i64 0), (Value.int .i64 8), (Value.int .i64 2130706432), (Value.int .i64 8), (Value.int .i64 3758096384), (Value.int .i64 3)]⟩ 128) fun a5 w4 => CB a0 ⟨(some a5), 3, 3⟩ w4 fun r6 w7 => K (!r6) w7)) := okF cO Tryz.func33 .leaf (by kernel_rfl)
theorem JJ {A0 A1 A2 A3 A4 A5 A6 A7 A8 A9 A10 w K} : aN (oW A0 A1 A2 A3 A4 A5 A6 A7 A8 A9 A10 w K)
 (Al w (.cells ⟨(aO A0 A1 A2 A3 A4 A5 A6 A7 A8 A9 A10)⟩ 58) fun a3 w2 => Al w2 (.cells ⟨(aO 0 0 0 0 0 0 0 false false ⟨none, 0, 0⟩ ⟨none, 0, 0⟩)⟩ 58) fun a5 w4 => Ld (.int .i64) w4 (a3.add 3) fun x6 => (bif (decide (x6 <= 1)) then
 gJ (aO 0 0 0 0 0 0 0 false false ⟨none, 0, 0⟩ ⟨none, 0, 0⟩) w4 a5 0 fun w7 => bZ w7 a5 fun y8 y9 y10 y11 y12 y13 y14 y15 y16 y17 y18 => K y8 y9 y10 y11 y12 y13 y14 y15 y16 y17 y18 false w7
 else
 Ld (.int .i64) w4 (a3.add 3) fun x19 => St w4 (a3.add 3) (Value.int .i64 (IntKind.i64.wrap (x19 - 1))) fun w20 => Ld .slice w20.drew (a3.add 9) fun x21 => Ld .slice w20.drew (a3.add 10) fun x22 => aC x21 w20.drew fun r23 w24 => w24.cell? (a3.add 10) = some (Value.slice x22.a x22.len x22.cap) ∧
 aC x22 w24 fun r25 w26 => St w26 (a3.add 9) (Value.slice r23.a r23.len r23.cap) fun w27 => St w27 (a3.add 10) (Value.slice r25.a r25.len r25.cap) fun w28 => bZ w28 a3 fun x29 x30 x31 x32 x33 x34 x35 x36 x37 x38 x39 => gJ (aO x29 x30 x31 x32 x33 x34 x35 x36 x37 x38 x39) w28 a5 0 fun w40 => bZ w40 a5 fun y41 y42 y43 y44 y45 y46 y47 y48 y49 y50 y51 => K y41 y42 y43 y44 y45 y46 y47 y48 y49 y50 y51 true w40)) := okF cO Tryz.func34 .leaf (by kernel_rfl)
theorem MW {A0 A1 A2 A3 A4 A5 A6 A7 A8 A9 A10 w K} : aN (qV A0 A1 A2 A3 A4 A5 A6 A7 A8 A9 A10 w K)
 (Al w (.cells ⟨(aO A0 A1 A2 A3 A4 A5 A6 A7 A8 A9 A10)⟩ 58) fun a3 w2 => bZ w2 a3 fun x4 x5 x6 x7 x8 x9 x10 x11 x12 x13 x14 => jQ x4 x5 x6 x7 x8 x9 x10 x11 x12 x13 x14 w2 fun r15 r16 w17 => (bif (r16 != 0) then
 K ⟨none, 0, 0⟩ w17
 else
 zq  w17 fun r18 w19 => nG r18 11 0 0 r15 w19 fun r20 r21 r22 r23 r24 r25 r26 r27 r28 r29 r30 r31 w32 => jR r20 r21 r22 r23 r24 r25 r26 r27 r28 r29 r30 r31 w32 fun r33 w34 => K r33 w34)) := okF cO Tryz.func35 .leaf (by kernel_rfl)
theorem KO {A0 A1 A2 A3 A4 A5 A6 A7 A8 A9 A10 w K} : aN (jQ A0 A1 A2 A3 A4 A5 A6 A7 A8 A9 A10 w K)
 (Al w (.cells ⟨(aO A0 A1 A2 A3 A4 A5 A6 A7 A8 A9 A10)⟩ 58) fun a3 w2 => bZ w2 a3 fun x4 x5 x6 x7 x8 x9 x10 x11 x12 x13 x14 => jT x4 x5 x6 x7 x8 x9 x10 x11 x12 x13 x14 w2 fun r15 w16 => (bif (r15 != 0) then
 K ⟨none, 0, 0⟩ r15 w16
 else
 bZ w16 a3 fun x17 x18 x19 x20 x21 x22 x23 x24 x25 x26 x27 => nC x17 x18 x19 x20 x21 x22 x23 x24 x25 x26 x27 w16 fun r28 w29 => dU (S := ah × Int × Unit) (fun s30 w31 next32 => (bif (decide (s30.2.1 < (r28.len : Int))) then
 dN r28 2 s30.2.1 fun a33 => Ld (.int .i64) w31 (a33.add 0) fun x34 => Ld (.int .i64) w31 (a33.add 1) fun x35 => Al w31 (.cells ⟨[(Value.int .i64 0), (Value.int .i64 0)]⟩ 133) fun a37 w36 => gJ [(Value.int .i64 x34), (Value.int .i64 x35)] w36 a37 0 fun w38 => Ld (.int .i64) w38 a37 fun x39 => Ld (.int .i64) w38 (a37.add 1) fun x40 => iY s30.1 x39 x40 w38 fun r41 w42 => next32 (r41, (IntKind.i64.wrap (s30.2.1 + 1)), ()) w42
 else
 Ld .slice w31 (a3.add 9) fun x43 => gI 5 1 1 [(Value.int .u8 0)] s30.1 x43 w31 fun s44 w45 => Al w45 (.cells ⟨[(Value.slice s44.a s44.len s44.cap)]⟩ 22) fun a47 w46 => qQ ⟨(some a47), 1, 1⟩ w46 fun r48 w49 => qL s44 10 r48 2 w49 fun r50 r51 w52 => Ld .slice w52 (a3.add 10) fun x53 => gI 5 1 1 [(Value.int .u8 0)] r50 x53 w52 fun s54 w55 => K s54 0 w55)) (⟨none, 0, 0⟩, 0, ()) w29)) := okF cO Tryz.func36 (.seq .leaf (.seq .leaf (.seq .leaf (.seq (.seq .leaf (.blk (.loop [(5, .slice), (16, (.int .i64))] .leaf))) .leaf)))) (by kernel_rfl)
theorem Jh {A0 A1 A2 A3 A4 A5 A6 A7 A8 A9 A10 A11 A12 A13 A14 A15 B0 B1 B2 B3 B4 B5 B6 B7 B8 B9 B10 B11 B12 B13 B14 B15 a2 a3 w K} : aN (jX A0 A1 A2 A3 A4 A5 A6 A7 A8 A9 A10 A11 A12 A13 A14 A15 B0 B1 B2 B3 B4 B5 B6 B7 B8 B9 B10 B11 B12 B13 B14 B15 a2 a3 w K)
 (Al w (.cells ⟨(sJ A0 A1 A2 A3 A4 A5 A6 A7 A8 A9 A10 A11 A12 A13 A14 A15)⟩ 29) fun a6 w5 => Al w5 (.cells ⟨(sJ B0 B1 B2 B3 B4 B5 B6 B7 B8 B9 B10 B11 B12 B13 B14 B15)⟩ 29) fun a8 w7 => Al w7 (.cells ⟨(bG 0 0 0 0 0 0 0 0 0 0 0 0 0 0 0 0 0 0 0 0 0 0 0 0 0 0 0 0 0 0 0 0 0 0 0 0 ⟨none, 0, 0⟩)⟩ 38) fun a10 w9 => pY w9 a6 fun x11 x12 x13 x14 x15 x16 x17 x18 x19 x20 x21 x22 x23 x24 x25 x26 => pY w9 a8 fun x27 x28 x29 x30 x31 x32 x33 x34 x35 x36 x37 x38 x39 x40 x41 x42 => Al w9 (.cells ⟨(bG 0 0 0 0 0 0 0 0 0 0 0 0 0 0 0 0 0 0 0 0 0 0 0 0 0 0 0 0 0 0 0 0 0 0 0 0 ⟨none, 0, 0⟩)⟩ 38) fun a44 w43 => gJ (bG 0 0 4 a2 x11 x12 x13 x14 x15 x16 x17 x18 x19 x20 x21 x22 x23 x24 x25 x26 x27 x28 x29 x30 x31 x32 x33 x34 x35 x36 x37 x38 x39 x40 x41 x42 ⟨none, 0, 0⟩) w43 a44 0 fun w45 => aC a3 w45 fun r46 w47 => St w47 (a44.add 36) (Value.slice r46.a r46.len r46.cap) fun w48 => dY w48 a44 fun x49 x50 x51 x52 x53 x54 x55 x56 x57 x58 x59 x60 x61 x62 x63 x64 x65 x66 x67 x68 x69 x70 x71 x72 x73 x74 x75 x76 x77 x78 x79 x80 x81 x82 x83 x84 x85 => jS x49 x50 x51 x52 x53 x54 x55 x56 x57 x58 x59 x60 x61 x62 x63 x64 x65 x66 x67 x68 x69 x70 x71 x72 x73 x74 x75 x76 x77 x78 x79 x80 x81 x82 x83 x84 x85 w48 fun r86 w87 => (bif (r86 != 0) then
 gJ (bG 0 0 0 0 0 0 0 0 0 0 0 0 0 0 0 0 0 0 0 0 0 0 0 0 0 0 0 0 0 0 0 0 0 0 0 0 ⟨none, 0, 0⟩) w87 a10 0 fun w88 => dY w88 a10 fun y89 y90 y91 y92 y93 y94 y95 y96 y97 y98 y99 y100 y101 y102 y103 y104 y105 y106 y107 y108 y109 y110 y111 y112 y113 y114 y115 y116 y117 y118 y119 y120 y121 y122 y123 y124 y125 => K y89 y90 y91 y92 y93 y94 y95 y96 y97 y98 y99 y100 y101 y102 y103 y104 y105 y106 y107 y108 y109 y110 y111 y112 y113 y114 y115 y116 y117 y118 y119 y120 y121 y122 y123 y124 y125 r86 w88
 else
 dY w87 a44 fun x126 x127 x128 x129 x130 x131 x132 x133 x134 x135 x136 x137 x138 x139 x140 x141 x142 x143 x144 x145 x146 x147 x148 x149 x150 x151 x152 x153 x154 x155 x156 x157 x158 x159 x160 x161 x162 => gJ (bG x126 x127 x128 x129 x130 x131 x132 x133 x134 x135 x136 x137 x138 x139 x140 x141 x142 x143 x144 x145 x146 x147 x148 x149 x150 x151 x152 x153 x154 x155 x156 x157 x158 x159 x160 x161 x162) w87 a10 0 fun w163 => dY w163 a10 fun y164 y165 y166 y167 y168 y169 y170 y171 y172 y173 y174 y175 y176 y177 y178 y179 y180 y181 y182 y183 y184 y185 y186 y187 y188 y189 y190 y191 y192 y193 y194 y195 y196 y197 y198 y199 y200 => K y164 y165 y166 y167 y168 y169 y170 y171 y172 y173 y174 y175 y176 y177 y178 y179 y180 y181 y182 y183 y184 y185 y186 y187 y188 y189 y190 y191 y192 y193 y194 y195 y196 y197 y198 y199 y200 0 w163)) := okF cO Tryz.func37 .leaf (by kernel_rfl)
theorem GX {a0 B0 B1 B2 B3 B4 B5 B6 B7 B8 B9 B10 B11 B12 B13 B14 B15 B16 B17 B18 B19 B20 B21 B22 B23 B24 B25 B26 B27 B28 B29 B30 B31 B32 B33 B34 B35 B36 w K} : aN (nH a0 B0 B1 B2 B3 B4 B5 B6 B7 B8 B9 B10 B11 B12 B13 B14 B15 B16 B17 B18 B19 B20 B21 B22 B23 B24 B25 B26 B27 B28 B29 B30 B31 B32 B33 B34 B35 B36 w K)
 (Al w (.cells ⟨(bG B0 B1 B2 B3 B4 B5 B6 B7 B8 B9 B10 B11 B12 B13 B14 B15 B16 B17 B18 B19 B20 B21 B22 B23 B24 B25 B26 B27 B28 B29 B30 B31 B32 B33 B34 B35 B36)⟩ 38) fun a4 w3 => dY w3.drew a4 fun x5 x6 x7 x8 x9 x10 x11 x12 x13 x14 x15 x16 x17 x18 x19 x20 x21 x22 x23 x24 x25 x26 x27 x28 x29 x30 x31 x32 x33 x34 x35 x36 x37 x38 x39 x40 x41 => Pt a0 fun a42 => Ld (.int .i64) w3.drew (a42.add 40) fun x43 => Pt a0 fun a44 => Ld (.int .i64) w3.drew (a44.add 32) fun x45 => lH x5 x6 x7 x8 x9 x10 x11 x12 x13 x14 x15 x16 x17 x18 x19 x20 x21 x22 x23 x24 x25 x26 x27 x28 x29 x30 x31 x32 x33 x34 x35 x36 x37 x38 x39 x40 x41 x43 x45 w3.drew fun r46 r47 w48 => (bif (r47 != 0) then
 K ⟨none, 0, 0⟩ r47 w48
 else
 let J49 : World -> Prop := fun w50 => (dU (S := ah × Int × Unit) (fun s51 w52 next53 => (bif (decide (s51.2.1 < (r46.len : Int))) then
 dN r46 37 s51.2.1 fun a54 => dY w52 a54 fun x55 x56 x57 x58 x59 x60 x61 x62 x63 x64 x65 x66 x67 x68 x69 x70 x71 x72 x73 x74 x75 x76 x77 x78 x79 x80 x81 x82 x83 x84 x85 x86 x87 x88 x89 x90 x91 => Al w52 (.cells ⟨(bG 0 0 0 0 0 0 0 0 0 0 0 0 0 0 0 0 0 0 0 0 0 0 0 0 0 0 0 0 0 0 0 0 0 0 0 0 ⟨none, 0, 0⟩)⟩ 38) fun a93 w92 => gJ (bG x55 x56 x57 x58 x59 x60 x61 x62 x63 x64 x65 x66 x67 x68 x69 x70 x71 x72 x73 x74 x75 x76 x77 x78 x79 x80 x81 x82 x83 x84 x85 x86 x87 x88 x89 x90 x91) w92 a93 0 fun w94 => dY w94 a93 fun x95 x96 x97 x98 x99 x100 x101 x102 x103 x104 x105 x106 x107 x108 x109 x110 x111 x112 x113 x114 x115 x116 x117 x118 x119 x120 x121 x122 x123 x124 x125 x126 x127 x128 x129 x130 x131 => oU x95 x96 x97 x98 x99 x100 x101 x102 x103 x104 x105 x106 x107 x108 x109 x110 x111 x112 x113 x114 x115 x116 x117 x118 x119 x120 x121 x122 x123 x124 x125 x126 x127 x128 x129 x130 x131 w94 fun r132 r133 w134 => (bif (r133 != 0) then
 K ⟨none, 0, 0⟩ r133 w134
 else
 Al w134 (.cells ⟨[(Value.slice r132.a r132.len r132.cap)]⟩ 22) fun a136 w135 => gI 22 1 24 [(Value.slice none 0 0)] s51.1 ⟨(some a136), 1, 1⟩ w135 fun s137 w138 => next53 (s137, (IntKind.i64.wrap (s51.2.1 + 1)), ()) w138)
 else
 K s51.1 0 w52)) (⟨none, 0, 0⟩, 0, ()) w50)
 (bif (decide ((r46.len : Int) > 1)) then
 Pt a0 fun a139 => Ld (.int .i64) w48 (a139.add 40) fun x140 => Pt a0 fun a141 => St w48 (a141.add 40) (Value.int .i64 (nN .i64 (IntKind.i64.wrap (x140 + 1)) 4294967295)) fun w142 => J49 w142
 else
 J49 w48))) := okF cO Tryz.func38 (.seq .leaf (.seq .leaf (.seq .leaf (.seq .leaf (.seq .leaf (.seq (.seq .leaf (.blk (.loop [(8, .slice), (44, (.int .i64))] .leaf))) .leaf)))))) (by kernel_rfl)
theorem Ku {A0 A1 A2 A3 A4 A5 A6 A7 A8 A9 A10 A11 A12 A13 A14 A15 w K} : aN (lM A0 A1 A2 A3 A4 A5 A6 A7 A8 A9 A10 A11 A12 A13 A14 A15 w K)
 (Al w (.cells ⟨(sJ A0 A1 A2 A3 A4 A5 A6 A7 A8 A9 A10 A11 A12 A13 A14 A15)⟩ 29) fun a3 w2 => Al w2 (.cells ⟨(sJ 0 0 0 0 0 0 0 0 0 0 0 0 0 0 0 0)⟩ 29) fun a5 w4 => let J6 : Bool -> Prop := fun j7 => (K j7 w4)
 pY w4 a3 fun x8 x9 x10 x11 x12 x13 x14 x15 x16 x17 x18 x19 x20 x21 x22 x23 => pY w4 a5 fun x24 x25 x26 x27 x28 x29 x30 x31 x32 x33 x34 x35 x36 x37 x38 x39 => (bif (!((x8 == x24) && ((x9 == x25) && ((x10 == x26) && ((x11 == x27) && ((x12 == x28) && ((x13 == x29) && ((x14 == x30) && ((x15 == x31) && ((x16 == x32) && ((x17 == x33) && ((x18 == x34) && ((x19 == x35) && ((x20 == x36) && ((x21 == x37) && ((x22 == x38) && ((x23 == x39) && true))))))))))))))))) then
 (0 : Int) <= 0 ∧ 0 < (16 : Int) ∧
 Ld (.int .u8) w4 (a3.add (Int.toNat 0 * 1)) fun x40 => J6 (x40 != 255)
 else
 J6 false)) := okF cO Tryz.func39 .leaf (by kernel_rfl)
theorem He {a0 a1 a2 w K} : aN (fJ a0 a1 a2 w K)
 (let J4 : Bool -> Prop := fun j5 => (K j5 w)
 (bif (decide (a1 <= a0)) then
 J4 (decide (a0 <= a2))
 else
 J4 false)) := okF cO Tryz.func40 .leaf (by kernel_rfl)
theorem Fe {a0 a1 a2 w K} : aN (Iq a0 a1 a2 w K)
 (let J4 : Bool -> Prop := fun j5 => (K j5 w)
 (bif (decide (a0 >= a1)) then
 J4 (decide (a0 <= a2))
 else
 J4 false)) := okF cO Tryz.func41 .leaf (by kernel_rfl)
theorem CQ {A0 A1 A2 A3 w K} : aN (jE A0 A1 A2 A3 w K)
 (Al w (.cells ⟨[(Value.int .i64 A0), (Value.int .i64 A1), (Value.bool A2), (Value.slice A3.a A3.len A3.cap)]⟩ 55) fun a3 w2 => let J4 : Bool -> World -> Prop := fun j5 w6 => ((bif j5 then
 K 1 w6
 else
 Ld .slice w6 (a3.add 3) fun x7 => (bif (decide ((x7.len : Int) > 65527)) then
 K 6 w6
 else
 K 0 w6)))
 Ld (.int .i64) w2 a3 fun x8 => bW x8 2 w2 fun r9 w10 => (bif (!r9) then
 J4 true w10
 else
 Ld (.int .i64) w10 (a3.add 1) fun x11 => bW x11 2 w10 fun r12 w13 => J4 (!r12) w13)) := okF cO Tryz.func42 .leaf (by kernel_rfl)
theorem CS {A0 A1 A2 A3 a1 w K} : aN (gG A0 A1 A2 A3 a1 w K)
 (Al w (.cells ⟨[(Value.int .i64 A0), (Value.int .i64 A1), (Value.bool A2), (Value.slice A3.a A3.len A3.cap)]⟩ 55) fun a4 w3 => Ld (.int .i64) w3.drew a4 fun x5 => Ld (.int .i64) w3.drew (a4.add 1) fun x6 => aY ⟨none, 0, 0⟩ x5 2 w3.drew fun r7 w8 => w8.cell? (a4.add 1) = some (Value.int .i64 x6) ∧
 aY r7 x6 2 w8 fun r9 w10 => Ld .slice w10 (a4.add 3) fun x11 => aY r9 (IntKind.i64.wrap (8 + (x11.len : Int))) 2 w10 fun r12 w13 => aY r12 a1 2 w13 fun r14 w15 => Ld .slice w15 (a4.add 3) fun x16 => gI 5 1 1 [(Value.int .u8 0)] r14 x16 w15 fun s17 w18 => K s17 w18) := okF cO Tryz.func43 .leaf (by kernel_rfl)
theorem Kt {a0 w K} : aN (lS a0 w K)
 (mY a0 w fun r2 w3 => K (IntKind.i64.wrap (65535 - r2)) w3) := okF cO Tryz.func44 .leaf (by kernel_rfl)
theorem AL {a0 a1 a2 a3 w K} : aN (jk a0 a1 a2 a3 w K)
 (iw a0 4294967296 w fun r5 w6 => aY ⟨none, 0, 0⟩ r5 4 w6 fun r7 w8 => iw a1 4294967296 w8 fun r9 w10 => aY r7 r9 4 w10 fun r11 w12 => Al w12 (.cells ⟨[(Value.int .u8 0)]⟩ 5) fun a14 w13 => gI 5 1 1 [(Value.int .u8 0)] r11 ⟨(some a14), 1, 1⟩ w13 fun s15 w16 => iw a2 256 w16 fun r17 w18 => aY s15 r17 1 w18 fun r19 w20 => iw a3 65536 w20 fun r21 w22 => aY r19 r21 2 w22 fun r23 w24 => K r23 w24) := okF cO Tryz.func45 .leaf (by kernel_rfl)
theorem Eh {A0 A1 A2 A3 A4 A5 A6 A7 A8 A9 A10 w K} : aN (jO A0 A1 A2 A3 A4 A5 A6 A7 A8 A9 A10 w K)
 (Al w (.cells ⟨(aO A0 A1 A2 A3 A4 A5 A6 A7 A8 A9 A10)⟩ 58) fun a3 w2 => let J4 : Bool -> World -> Prop := fun j5 w6 => (let J7 : Bool -> World -> Prop := fun j8 w9 => (let J10 : Bool -> Prop := fun j11 => (let J12 : Bool -> Prop := fun j13 => ((bif j13 then
 K 1 w9
 else
 let J14 : Bool -> World -> Prop := fun j15 w16 => ((bif j15 then
 K 6 w16
 else
 K 0 w16))
 bZ w9 a3 fun x17 x18 x19 x20 x21 x22 x23 x24 x25 x26 x27 => iE x17 x18 x19 x20 x21 x22 x23 x24 x25 x26 x27 w9 fun r28 w29 => (bif (decide (r28 > 65535)) then
 J14 true w29
 else
 Ld (.int .i64) w29 (a3.add 2) fun x30 => Ld .slice w29 (a3.add 10) fun x31 => J14 (decide (x30 > (IntKind.i64.wrap (65535 - (x31.len : Int))))) w29)))
 (bif (!j5) then
 J12 true
 else
 (bif (!j8) then
 J12 true
 else
 (bif (!j11) then
 J12 true
 else
 Ld .bool w9 (a3.add 8) fun x32 => (bif x32 then
 Ld .slice w9 (a3.add 10) fun x33 => (8 : Int) ≠ 0 ∧
 J12 ((Int.tmod (x33.len : Int) 8) != 0)
 else
 J12 false)))))
 Ld .slice w9 (a3.add 9) fun x34 => (bif (decide ((x34.len : Int) <= 40)) then
 Ld .slice w9 (a3.add 9) fun x35 => (4 : Int) ≠ 0 ∧
 J10 ((Int.tmod (x35.len : Int) 4) == 0)
 else
 J10 false))
 Ld (.int .i64) w6 (a3.add 5) fun x36 => iJ x36 w6 fun r37 w38 => (bif r37 then
 Ld (.int .i64) w38 (a3.add 6) fun x39 => iJ x39 w38 fun r40 w41 => (bif r40 then
 Ld (.int .i64) w41 (a3.add 2) fun x42 => (bif (decide (x42 >= 0)) then
 Ld (.int .i64) w41 (a3.add 2) fun x43 => (bif (decide (x43 <= 65528)) then
 Ld (.int .i64) w41 (a3.add 2) fun x44 => (8 : Int) ≠ 0 ∧
 J7 ((Int.tmod x44 8) == 0) w41
 else
 J7 false w41)
 else
 J7 false w41)
 else
 J7 false w41)
 else
 J7 false w38))
 Ld (.int .i64) w2 a3 fun x45 => bW x45 1 w2 fun r46 w47 => (bif r46 then
 Ld (.int .i64) w47 (a3.add 3) fun x48 => bW x48 1 w47 fun r49 w50 => (bif r49 then
 Ld (.int .i64) w50 (a3.add 4) fun x51 => bW x51 1 w50 fun r52 w53 => (bif r52 then
 Ld (.int .i64) w53 (a3.add 1) fun x54 => bW x54 2 w53 fun r55 w56 => J4 r55 w56
 else
 J4 false w53)
 else
 J4 false w50)
 else
 J4 false w47)) := okF cO Tryz.func46 .leaf (by kernel_rfl)
theorem EN {A0 A1 A2 A3 A4 A5 A6 A7 A8 A9 A10 a1 a2 w K} : aN (jA A0 A1 A2 A3 A4 A5 A6 A7 A8 A9 A10 a1 a2 w K)
 (Al w (.cells ⟨(aO A0 A1 A2 A3 A4 A5 A6 A7 A8 A9 A10)⟩ 58) fun a5 w4 => Ld (.int .i64) w4 (a5.add 2) fun x6 => (8 : Int) ≠ 0 ∧
 let J7 : Int -> Prop := fun j8 => (let J9 : Int -> Prop := fun j10 => (bZ w4.drew a5 fun x11 x12 x13 x14 x15 x16 x17 x18 x19 x20 x21 => Ld (.int .i64) w4.drew a5 fun x22 => jy x11 x12 x13 x14 x15 x16 x17 x18 x19 x20 x21 w4.drew fun r23 w24 => w24.cell? a5 = some (Value.int .i64 x22) ∧
 (4 : Int) ≠ 0 ∧
 Al w24 (.cells ⟨[(Value.int .u8 (IntKind.u8.wrap (IntKind.i64.wrap (64 + (IntKind.i64.wrap (Int.tdiv r23 4)))))), (Value.int .u8 (IntKind.u8.wrap x22))]⟩ 5) fun a26 w25 => Ld (.int .i64) w25.drew (a5.add 1) fun x27 => aY ⟨(some a26), 2, 2⟩ a1 2 w25.drew fun r28 w29 => w29.cell? (a5.add 1) = some (Value.int .i64 x27) ∧
 aY r28 x27 2 w29 fun r30 w31 => aY r30 j10 2 w31 fun r32 w33 => Ld (.int .i64) w33 (a5.add 3) fun x34 => Ld (.int .i64) w33 (a5.add 4) fun x35 => Al w33 (.cells ⟨[(Value.int .u8 (IntKind.u8.wrap x34)), (Value.int .u8 (IntKind.u8.wrap x35))]⟩ 5) fun a37 w36 => gI 5 1 1 [(Value.int .u8 0)] r32 ⟨(some a37), 2, 2⟩ w36 fun s38 w39 => aY s38 a2 2 w39 fun r40 w41 => Ld (.int .i64) w41.drew (a5.add 5) fun x42 => Ld (.int .i64) w41.drew (a5.add 6) fun x43 => aY r40 x42 4 w41.drew fun r44 w45 => w45.cell? (a5.add 6) = some (Value.int .i64 x43) ∧
 aY r44 x43 4 w45 fun r46 w47 => Ld .slice w47 (a5.add 9) fun x48 => gI 5 1 1 [(Value.int .u8 0)] r46 x48 w47 fun s49 w50 => K s49 w50)
 Ld .bool w4 (a5.add 8) fun x51 => (bif x51 then
 J9 (IntKind.i64.wrap (j8 + 8192))
 else
 J9 j8))
 Ld .bool w4 (a5.add 7) fun x52 => (bif x52 then
 J7 (IntKind.i64.wrap ((IntKind.i64.wrap (Int.tdiv x6 8)) + 16384))
 else
 J7 (IntKind.i64.wrap (Int.tdiv x6 8)))) := okF cO Tryz.func47 .leaf (by kernel_rfl)
theorem ET {A0 A1 A2 A3 A4 A5 A6 A7 A8 A9 A10 w K} : aN (iE A0 A1 A2 A3 A4 A5 A6 A7 A8 A9 A10 w K)
 (Al w (.cells ⟨(aO A0 A1 A2 A3 A4 A5 A6 A7 A8 A9 A10)⟩ 58) fun a3 w2 => bZ w2.drew a3 fun x4 x5 x6 x7 x8 x9 x10 x11 x12 x13 x14 => Ld .slice w2.drew (a3.add 10) fun x15 => jy x4 x5 x6 x7 x8 x9 x10 x11 x12 x13 x14 w2.drew fun r16 w17 => w17.cell? (a3.add 10) = some (Value.slice x15.a x15.len x15.cap) ∧
 K (IntKind.i64.wrap (r16 + (x15.len : Int))) w17) := okF cO Tryz.func48 .leaf (by kernel_rfl)
theorem Lj {a0 w K} : aN (lQ a0 w K)
 (let J2 : Bool -> Prop := fun j3 => (K j3 w)
 (bif (decide (a0 >= 1)) then
 J2 (decide (a0 <= 4))
 else
 J2 false)) := okF cO Tryz.func49 .leaf (by kernel_rfl)
theorem zx {a0 f0 f1 w K} : aN (Bc a0 f0 f1 w K)
 (Ld (.int .i64) w f0 fun x2 => (8 : Int) ≠ 0 ∧
 dU (S := Int × Unit) (fun s3 w4 next5 => Ld .slice w4 f1 fun x6 => Ld (.int .i64) w4 f0 fun x7 => let J8 : Int -> Prop := fun j9 => (let J10 : Bool -> World -> Prop := fun j11 w12 => ((bif j11 then
 K w12
 else
 next5 ((IntKind.i64.wrap (s3.1 + j9)), ()) w12))
 Ld .slice w4 f1 fun x13 => eY x13 1 s3.1 (IntKind.i64.wrap (s3.1 + j9)) fun s14 => iC Tryz.prog [.one .bool] a0 [(Value.agg ⟨[(Value.int .i64 0), (Value.int .i64 s3.1), (Value.int .i64 0), (Value.bool (decide ((IntKind.i64.wrap ((x6.len : Int) - s3.1)) > x7)))]⟩), (Value.slice s14.a s14.len s14.cap)] w4 fun r15 w16 => ∃ r17 : Bool, r15 = (Value.bool r17) ∧
 (bif (!r17) then
 J10 true w16
 else
 J10 (!(decide ((IntKind.i64.wrap ((x6.len : Int) - s3.1)) > x7))) w16))
 (bif (decide ((IntKind.i64.wrap ((x6.len : Int) - s3.1)) > x7)) then
 J8 (IntKind.i64.wrap ((IntKind.i64.wrap (Int.tdiv x2 8)) * 8))
 else
 J8 (IntKind.i64.wrap ((x6.len : Int) - s3.1)))) (0, ()) w) := okF cO Tryz.func50 (.seq .leaf (.seq .leaf (.blk (.loop [(5, (.int .i64))] .leaf)))) (by kernel_rfl)
theorem Po {a0 a1 a2 w K} : aN (iY a0 a1 a2 w K)
 (aC a0 w fun r4 w5 => bY a1 a2 w5 fun r6 w7 => (bif (!r6) then
 K r4 w7
 else
 j_ a1 a2 w7 fun r8 w9 => bH r4 r8 w9 fun r10 w11 => K r10 w11)) := okF cO Tryz.func51 .leaf (by kernel_rfl)
theorem EG {a0 a1 w K} : aN (bW a0 a1 w K)
 (let J3 : Bool -> World -> Prop := fun j4 w5 => (K j4 w5)
 (bif (decide (a1 >= 1)) then
 (bif (decide (a1 <= 4)) then
 (bif (decide (a0 >= 0)) then
 jY a1 w fun r6 w7 => J3 (decide (a0 < r6)) w7
 else
 J3 false w)
 else
 J3 false w)
 else
 J3 false w)) := okF cO Tryz.func52 .leaf (by kernel_rfl)
theorem GH {a0 w K} : aN (jY a0 w K)
 (dU (S := Int × Int × Unit) (fun s2 w3 next4 => (bif (decide (s2.2.1 < a0)) then
 next4 ((IntKind.i64.wrap (s2.1 * 256)), (IntKind.i64.wrap (s2.2.1 + 1)), ()) w3
 else
 K s2.1 w3)) (1, 0, ()) w) := okF cO Tryz.func53 (.seq .leaf (.seq .leaf (.seq (.seq .leaf (.blk (.loop [(3, (.int .i64)), (4, (.int .i64))] .leaf))) .leaf))) (by kernel_rfl)
theorem ML {a0 a1 w K} : aN (qO a0 a1 w K)
 (Al w (.cells ⟨(bG 0 0 0 0 0 0 0 0 0 0 0 0 0 0 0 0 0 0 0 0 0 0 0 0 0 0 0 0 0 0 0 0 0 0 0 0 ⟨none, 0, 0⟩)⟩ 38) fun a4 w3 => (bif (decide ((a0.len : Int) < 40)) then
 gJ (bG 0 0 0 0 0 0 0 0 0 0 0 0 0 0 0 0 0 0 0 0 0 0 0 0 0 0 0 0 0 0 0 0 0 0 0 0 ⟨none, 0, 0⟩) w3 a4 0 fun w5 => dY w5 a4 fun y6 y7 y8 y9 y10 y11 y12 y13 y14 y15 y16 y17 y18 y19 y20 y21 y22 y23 y24 y25 y26 y27 y28 y29 y30 y31 y32 y33 y34 y35 y36 y37 y38 y39 y40 y41 y42 => K y6 y7 y8 y9 y10 y11 y12 y13 y14 y15 y16 y17 y18 y19 y20 y21 y22 y23 y24 y25 y26 y27 y28 y29 y30 y31 y32 y33 y34 y35 y36 y37 y38 y39 y40 y41 y42 3 w5
 else
 kN a0 0 4 w3 fun r43 r44 w45 => kN a0 4 2 w45 fun r46 r47 w48 => 0 <= (28 : Int) ∧
 (bif ((lu .i64 r43 28) != 6) then
 gJ (bG 0 0 0 0 0 0 0 0 0 0 0 0 0 0 0 0 0 0 0 0 0 0 0 0 0 0 0 0 0 0 0 0 0 0 0 0 ⟨none, 0, 0⟩) w48 a4 0 fun w49 => dY w49 a4 fun y50 y51 y52 y53 y54 y55 y56 y57 y58 y59 y60 y61 y62 y63 y64 y65 y66 y67 y68 y69 y70 y71 y72 y73 y74 y75 y76 y77 y78 y79 y80 y81 y82 y83 y84 y85 y86 => K y50 y51 y52 y53 y54 y55 y56 y57 y58 y59 y60 y61 y62 y63 y64 y65 y66 y67 y68 y69 y70 y71 y72 y73 y74 y75 y76 y77 y78 y79 y80 y81 y82 y83 y84 y85 y86 4 w49
 else
 let J87 : Bool -> Prop := fun j88 => ((bif j88 then
 gJ (bG 0 0 0 0 0 0 0 0 0 0 0 0 0 0 0 0 0 0 0 0 0 0 0 0 0 0 0 0 0 0 0 0 0 0 0 0 ⟨none, 0, 0⟩) w48 a4 0 fun w89 => dY w89 a4 fun y90 y91 y92 y93 y94 y95 y96 y97 y98 y99 y100 y101 y102 y103 y104 y105 y106 y107 y108 y109 y110 y111 y112 y113 y114 y115 y116 y117 y118 y119 y120 y121 y122 y123 y124 y125 y126 => K y90 y91 y92 y93 y94 y95 y96 y97 y98 y99 y100 y101 y102 y103 y104 y105 y106 y107 y108 y109 y110 y111 y112 y113 y114 y115 y116 y117 y118 y119 y120 y121 y122 y123 y124 y125 y126 3 w89
 else
 0 <= (20 : Int) ∧
 dN a0 1 6 fun a127 => Ld (.int .u8) w48.drew a127 fun x128 => dN a0 1 7 fun a129 => Ld (.int .u8) w48.drew a129 fun x130 => Al w48.drew (.cells ⟨(bG 0 0 0 0 0 0 0 0 0 0 0 0 0 0 0 0 0 0 0 0 0 0 0 0 0 0 0 0 0 0 0 0 0 0 0 0 ⟨none, 0, 0⟩)⟩ 38) fun a132 w131 => w131.cell? a129 = some (Value.int .u8 x130) ∧
 w131.cell? a127 = some (Value.int .u8 x128) ∧
 gJ (bG (nN .i64 (lu .i64 r43 20) 255) (nN .i64 r43 1048575) (IntKind.i64.wrap x128) (IntKind.i64.wrap x130) 0 0 0 0 0 0 0 0 0 0 0 0 0 0 0 0 0 0 0 0 0 0 0 0 0 0 0 0 0 0 0 0 ⟨none, 0, 0⟩) w131 a132 0 fun w133 => lZ (a132.add 4) 16 1 0 (16 : Int) fun s134 => eY a0 1 8 (a0.len : Int) fun s135 => qE 1 s134 s135 w133.drew fun n136 w137 => lZ (a132.add 20) 16 1 0 (16 : Int) fun s138 => eY a0 1 24 (a0.len : Int) fun s139 => qE 1 s138 s139 w137.drew fun n140 w141 => eY a0 1 40 (if (a0.len : Int) < (IntKind.i64.wrap (40 + r46)) then (a0.len : Int) else (IntKind.i64.wrap (40 + r46))) fun s142 => aC s142 w141 fun r143 w144 => St w144 (a132.add 36) (Value.slice r143.a r143.len r143.cap) fun w145 => dY w145 a132 fun x146 x147 x148 x149 x150 x151 x152 x153 x154 x155 x156 x157 x158 x159 x160 x161 x162 x163 x164 x165 x166 x167 x168 x169 x170 x171 x172 x173 x174 x175 x176 x177 x178 x179 x180 x181 x182 => gJ (bG x146 x147 x148 x149 x150 x151 x152 x153 x154 x155 x156 x157 x158 x159 x160 x161 x162 x163 x164 x165 x166 x167 x168 x169 x170 x171 x172 x173 x174 x175 x176 x177 x178 x179 x180 x181 x182) w145 a4 0 fun w183 => dY w183 a4 fun y184 y185 y186 y187 y188 y189 y190 y191 y192 y193 y194 y195 y196 y197 y198 y199 y200 y201 y202 y203 y204 y205 y206 y207 y208 y209 y210 y211 y212 y213 y214 y215 y216 y217 y218 y219 y220 => K y184 y185 y186 y187 y188 y189 y190 y191 y192 y193 y194 y195 y196 y197 y198 y199 y200 y201 y202 y203 y204 y205 y206 y207 y208 y209 y210 y211 y212 y213 y214 y215 y216 y217 y218 y219 y220 0 w183))
 (bif (decide (r46 > (IntKind.i64.wrap ((a0.len : Int) - 40)))) then
 J87 (!a1)
 else
 J87 false)))) := okF cO Tryz.func54 .leaf (by kernel_rfl)
theorem mV {a0 a1 w K} : aN (gV a0 a1 w K)
 (let J3 : Bool -> World -> Prop := fun j4 w5 => ((bif j4 then
 K false w5
 else
 Pt a0 fun a6 => Ld .slice w5 a6 fun x7 => dN x7 1 a1 fun a8 => Ld (.int .i64) w5 a8 fun x9 => dN x7 1 a1 fun a10 => St w5 a10 (Value.int .i64 (IntKind.i64.wrap (x9 + 1))) fun w11 => K true w11))
 gQ a0 a1 w fun r12 w13 => (bif (!r12) then
 J3 true w13
 else
 J3 (a1 == 0) w13)) := okF cO Tryz.func55 .leaf (by kernel_rfl)
theorem Ik {A0 A1 A2 A3 A4 A5 A6 A7 A8 A9 A10 A11 A12 A13 A14 A15 A16 A17 A18 A19 A20 A21 A22 A23 A24 A25 A26 A27 A28 A29 A30 A31 A32 A33 A34 A35 A36 w K} : aN (nJ A0 A1 A2 A3 A4 A5 A6 A7 A8 A9 A10 A11 A12 A13 A14 A15 A16 A17 A18 A19 A20 A21 A22 A23 A24 A25 A26 A27 A28 A29 A30 A31 A32 A33 A34 A35 A36 w K)
 (Al w (.cells ⟨(bG A0 A1 A2 A3 A4 A5 A6 A7 A8 A9 A10 A11 A12 A13 A14 A15 A16 A17 A18 A19 A20 A21 A22 A23 A24 A25 A26 A27 A28 A29 A30 A31 A32 A33 A34 A35 A36)⟩ 38) fun a3 w2 => Al w2 (.cells ⟨[(Value.int .i64 0), (Value.int .i64 0), (Value.int .i64 0), (Value.bool false)]⟩ 67) fun a5 w4 => Ld (.int .i64) w4 (a3.add 2) fun x6 => (bif (x6 != 44) then
 gJ [(Value.int .i64 0), (Value.int .i64 0), (Value.int .i64 0), (Value.bool false)] w4 a5 0 fun w7 => Ld (.int .i64) w7 (a5.add 0) fun y8 => Ld (.int .i64) w7 (a5.add 1) fun y9 => Ld (.int .i64) w7 (a5.add 2) fun y10 => Ld .bool w7 (a5.add 3) fun y11 => K y8 y9 y10 y11 ⟨none, 0, 0⟩ false w7
 else
 Ld .slice w4 (a3.add 36) fun x12 => iV x12 w4 fun r13 r14 r15 r16 r17 r18 w19 => Al w19 (.cells ⟨[(Value.int .i64 0), (Value.int .i64 0), (Value.int .i64 0), (Value.bool false)]⟩ 67) fun a21 w20 => gJ [(Value.int .i64 r13), (Value.int .i64 r14), (Value.int .i64 r15), (Value.bool r16)] w20 a21 0 fun w22 => Ld (.int .i64) w22 (a21.add 0) fun x23 => Ld (.int .i64) w22 (a21.add 1) fun x24 => Ld (.int .i64) w22 (a21.add 2) fun x25 => Ld .bool w22 (a21.add 3) fun x26 => gJ [(Value.int .i64 x23), (Value.int .i64 x24), (Value.int .i64 x25), (Value.bool x26)] w22 a5 0 fun w27 => Ld (.int .i64) w27 (a5.add 0) fun y28 => Ld (.int .i64) w27 (a5.add 1) fun y29 => Ld (.int .i64) w27 (a5.add 2) fun y30 => Ld .bool w27 (a5.add 3) fun y31 => K y28 y29 y30 y31 r17 (r18 == 0) w27)) := okF cO Tryz.func59 .leaf (by kernel_rfl)
theorem yP {a0 a1 a2 a3 a4 a5 a6 w K} : aN (dB a0 a1 a2 a3 a4 a5 a6 w K)
 (d_ a0 w fun r8 w9 => (bif (!r8) then
 K (bs []) ⟨none, 0, 0⟩ false 2 w9
 else
 fE a0 a1 a6 w9 fun r10 r11 w12 => (bif (r11 != 0) then
 K (bs []) ⟨none, 0, 0⟩ false r11 w12
 else
 Pt r10 fun a13 => Ld .ptr w12.drew a13 fun x14 => Pt a0 fun a15 => Ld (.int .i64) w12.drew (a15.add 2) fun x16 => eX x14 a2 a4 w12.drew fun r17 w18 => w18.cell? (a15.add 2) = some (Value.int .i64 x16) ∧
 gY a0 w18 fun r19 w20 => w20.cell? (a15.add 2) = some (Value.int .i64 x16) ∧
 (bif (decide (r17 > (IntKind.i64.wrap (x16 - r19)))) then
 K (bs []) ⟨none, 0, 0⟩ false 7 w20
 else
 Pt r10 fun a21 => Ld .ptr w20 a21 fun x22 => fU x22 a2 a3 a4 w20 fun r23 w24 => (bif (r23 != 0) then
 Pt a0 fun a25 => Ld .map w24 a25 fun x26 => Dz Tryz.prog 9 x26 (Value.string a1) w24 fun w27 => K (bs []) ⟨none, 0, 0⟩ false r23 w27
 else
 let J28 : World -> Prop := fun w29 => (Pt r10 fun a30 => Ld .ptr w29 a30 fun x31 => eH x31 w29 fun r32 r33 w34 => (bif (!r33) then
 Pt a0 fun a35 => Ld .map w34 a35 fun x36 => G6 Tryz.prog 9 x36 (Value.string a1) (Value.pointer r10) w34 fun w37 => K (bs []) ⟨none, 0, 0⟩ false 0 w37
 else
 Pt a0 fun a38 => Ld .map w34 a38 fun x39 => Dz Tryz.prog 9 x39 (Value.string a1) w34 fun w40 => Pt r10 fun a41 => Ld .str w40 (a41.add 2) fun x42 => K x42 r32 true 0 w40))
 let J43 : Bool -> Prop := fun j44 => ((bif j44 then
 Pt r10 fun a45 => St w24 (a45.add 2) (Value.string a5) fun w46 => Pt r10 fun a47 => St w46 (a47.add 3) (Value.bool true) fun w48 => J28 w48
 else
 J28 w24))
 (bif (a2 == 0) then
 Pt r10 fun a49 => Ld .bool w24 (a49.add 3) fun x50 => J43 (!x50)
 else
 J43 false)))))) := okF cO Tryz.func60 .leaf (by kernel_rfl)
theorem Qj {A0 A1 A2 A3 A4 A5 A6 A7 A8 A9 A10 A11 A12 A13 A14 A15 A16 A17 A18 A19 A20 A21 A22 A23 A24 A25 A26 A27 A28 A29 A30 A31 A32 A33 A34 A35 A36 a1 w K} : aN (nK A0 A1 A2 A3 A4 A5 A6 A7 A8 A9 A10 A11 A12 A13 A14 A15 A16 A17 A18 A19 A20 A21 A22 A23 A24 A25 A26 A27 A28 A29 A30 A31 A32 A33 A34 A35 A36 a1 w K)
 (Al w (.cells ⟨(bG A0 A1 A2 A3 A4 A5 A6 A7 A8 A9 A10 A11 A12 A13 A14 A15 A16 A17 A18 A19 A20 A21 A22 A23 A24 A25 A26 A27 A28 A29 A30 A31 A32 A33 A34 A35 A36)⟩ 38) fun a4 w3 => lZ (a4.add 4) 16 1 0 (16 : Int) fun s5 => lZ (a4.add 20) 16 1 0 (16 : Int) fun s6 => Al w3.drew (.cells ⟨[(Value.int .u8 54)]⟩ 5) fun a8 w7 => Al w7 (.cells ⟨[(Value.slice (some a8) 1 1), (Value.slice s5.a s5.len s5.cap), (Value.slice s6.a s6.len s6.cap)]⟩ 22) fun a10 w9 => bP ⟨(some a10), 3, 3⟩ w9 fun r11 w12 => iY r11 a1 4 w12 fun r13 w14 => fM w14 r13 fun b15 => K b15 w14) := okF cO Tryz.func61 .leaf (by kernel_rfl)
theorem Ja {a0 w K} : aN (nP a0 w K)
 ((bif (a0 == 0) then
 K 0 w
 else
 (bif (a0 == 7) then
 K 6 w
 else
 (bif (a0 == 9) then
 K 12 w
 else
 K 1 w)))) := okF cO Tryz.func62 .leaf (by kernel_rfl)
theorem NY {a0 a1 w K} : aN (oM a0 a1 w K)
 (Al w (.cells ⟨[(Value.slice none 0 0), (Value.int .i64 0), (Value.int .i64 0)]⟩ 120) fun a4 w3 => (bif (decide ((a0.len : Int) < 20)) then
 gJ [(Value.slice none 0 0), (Value.int .i64 0), (Value.int .i64 0)] w3 a4 0 fun w5 => Ld .slice w5 (a4.add 0) fun y6 => Ld (.int .i64) w5 (a4.add 1) fun y7 => Ld (.int .i64) w5 (a4.add 2) fun y8 => K y6 y7 y8 3 w5
 else
 dN a0 1 0 fun a9 => Ld (.int .u8) w3 a9 fun x10 => Al w3 (.cells ⟨[(Value.slice none 0 0), (Value.int .i64 0), (Value.int .i64 0)]⟩ 120) fun a12 w11 => gJ [(Value.slice a0.a a0.len a0.cap), (Value.int .i64 (IntKind.i64.wrap ((IntKind.i64.wrap (nN .u8 x10 15)) * 4))), (Value.int .i64 0)] w11 a12 0 fun w13 => Ld .slice w13 (a12.add 0) fun x14 => Ld (.int .i64) w13 (a12.add 1) fun x15 => Ld (.int .i64) w13 (a12.add 2) fun x16 => aB x14 x15 x16 2 2 w13 fun r17 w18 => St w18 (a12.add 2) (Value.int .i64 r17) fun w19 => let J20 : Bool -> Prop := fun j21 => ((bif j21 then
 gJ [(Value.slice none 0 0), (Value.int .i64 0), (Value.int .i64 0)] w19 a4 0 fun w22 => Ld .slice w22 (a4.add 0) fun y23 => Ld (.int .i64) w22 (a4.add 1) fun y24 => Ld (.int .i64) w22 (a4.add 2) fun y25 => K y23 y24 y25 4 w22
 else
 let J26 : Bool -> Prop := fun j27 => ((bif j27 then
 gJ [(Value.slice none 0 0), (Value.int .i64 0), (Value.int .i64 0)] w19 a4 0 fun w28 => Ld .slice w28 (a4.add 0) fun y29 => Ld (.int .i64) w28 (a4.add 1) fun y30 => Ld (.int .i64) w28 (a4.add 2) fun y31 => K y29 y30 y31 3 w28
 else
 let J32 : Bool -> World -> Prop := fun j33 w34 => ((bif j33 then
 gJ [(Value.slice none 0 0), (Value.int .i64 0), (Value.int .i64 0)] w34 a4 0 fun w35 => Ld .slice w35 (a4.add 0) fun y36 => Ld (.int .i64) w35 (a4.add 1) fun y37 => Ld (.int .i64) w35 (a4.add 2) fun y38 => K y36 y37 y38 4 w35
 else
 Ld .slice w34 (a12.add 0) fun x39 => Ld (.int .i64) w34 (a12.add 1) fun x40 => Ld (.int .i64) w34 (a12.add 2) fun x41 => gJ [(Value.slice x39.a x39.len x39.cap), (Value.int .i64 x40), (Value.int .i64 x41)] w34 a4 0 fun w42 => Ld .slice w42 (a4.add 0) fun y43 => Ld (.int .i64) w42 (a4.add 1) fun y44 => Ld (.int .i64) w42 (a4.add 2) fun y45 => K y43 y44 y45 0 w42))
 Ld (.int .i64) w19 (a12.add 2) fun x46 => Ld (.int .i64) w19 (a12.add 1) fun x47 => (bif (decide (x46 < x47)) then
 J32 (decide (x46 < x47)) w19
 else
 Ld .slice w19 (a12.add 0) fun x48 => Ld (.int .i64) w19 (a12.add 1) fun x49 => Ld (.int .i64) w19 (a12.add 2) fun x50 => aB x48 x49 x50 6 2 w19 fun r51 w52 => J32 ((nN .i64 r51 32768) != 0) w52)))
 Ld (.int .i64) w19 (a12.add 1) fun x53 => (bif (decide (x53 > (a0.len : Int))) then
 J26 (decide (x53 > (a0.len : Int)))
 else
 Ld (.int .i64) w19 (a12.add 2) fun x54 => (bif (decide (x54 > (a0.len : Int))) then
 J26 (!a1)
 else
 J26 false))))
 dN a0 1 0 fun a55 => Ld (.int .u8) w19 a55 fun x56 => 0 <= (4 : Int) ∧
 (bif ((lu .u8 x56 4) != 4) then
 J20 ((lu .u8 x56 4) != 4)
 else
 Ld (.int .i64) w19 (a12.add 1) fun x57 => J20 (decide (x57 < 20))))) := okF cO Tryz.func63 .leaf (by kernel_rfl)
theorem I4 {a0 w K} : aN (nD a0 w K)
 (oL a0 w fun r2 w3 => K (r2 == 65535) w3) := okF cO Tryz.func64 .leaf (by kernel_rfl)
theorem vG {A0 A1 A2 w K} : aN (dP A0 A1 A2 w K)
 (Al w (.cells ⟨[(Value.slice A0.a A0.len A0.cap), (Value.int .i64 A1), (Value.int .i64 A2)]⟩ 120) fun a3 w2 => Al w2 (.cells ⟨(aO 0 0 0 0 0 0 0 false false ⟨none, 0, 0⟩ ⟨none, 0, 0⟩)⟩ 58) fun a5 w4 => Ld .slice w4 (a3.add 0) fun x6 => Ld (.int .i64) w4 (a3.add 1) fun x7 => Ld (.int .i64) w4 (a3.add 2) fun x8 => aB x6 x7 x8 6 2 w4 fun r9 w10 => let J11 : Addr -> World -> Prop := fun j12 w13 => (St w13 (j12.add 2) (Value.int .i64 (IntKind.i64.wrap ((nN .i64 r9 8191) * 8))) fun w14 => St w14 (j12.add 7) (Value.bool ((nN .i64 r9 16384) != 0)) fun w15 => St w15 (j12.add 8) (Value.bool ((nN .i64 r9 8192) != 0)) fun w16 => Ld .slice w16 a3 fun x17 => Ld (.int .i64) w16 (a3.add 1) fun x18 => eY x17 1 20 x18 fun s19 => aC s19 w16 fun r20 w21 => St w21 (j12.add 9) (Value.slice r20.a r20.len r20.cap) fun w22 => Ld .slice w22 a3 fun x23 => Ld (.int .i64) w22 (a3.add 1) fun x24 => Ld (.int .i64) w22 (a3.add 2) fun x25 => Ld .slice w22 a3 fun x26 => eY x23 1 x24 (if (x26.len : Int) < x25 then (x26.len : Int) else x25) fun s27 => aC s27 w22 fun r28 w29 => St w29 (j12.add 10) (Value.slice r28.a r28.len r28.cap) fun w30 => bZ w30 j12 fun x31 x32 x33 x34 x35 x36 x37 x38 x39 x40 x41 => gJ (aO x31 x32 x33 x34 x35 x36 x37 x38 x39 x40 x41) w30 a5 0 fun w42 => bZ w42 a5 fun y43 y44 y45 y46 y47 y48 y49 y50 y51 y52 y53 => K y43 y44 y45 y46 y47 y48 y49 y50 y51 y52 y53 w42)
 Ld .slice w10.drew (a3.add 0) fun x54 => Ld (.int .i64) w10.drew (a3.add 1) fun x55 => Ld (.int .i64) w10.drew (a3.add 2) fun x56 => Ld .slice w10.drew (a3.add 0) fun x57 => Ld (.int .i64) w10.drew (a3.add 1) fun x58 => Ld (.int .i64) w10.drew (a3.add 2) fun x59 => Ld .slice w10.drew (a3.add 0) fun x60 => Ld (.int .i64) w10.drew (a3.add 1) fun x61 => Ld (.int .i64) w10.drew (a3.add 2) fun x62 => Ld .slice w10.drew (a3.add 0) fun x63 => Ld (.int .i64) w10.drew (a3.add 1) fun x64 => Ld (.int .i64) w10.drew (a3.add 2) fun x65 => Ld .slice w10.drew (a3.add 0) fun x66 => Ld (.int .i64) w10.drew (a3.add 1) fun x67 => Ld (.int .i64) w10.drew (a3.add 2) fun x68 => Ld .slice w10.drew (a3.add 0) fun x69 => Ld (.int .i64) w10.drew (a3.add 1) fun x70 => Ld (.int .i64) w10.drew (a3.add 2) fun x71 => (aB x54 x55 x56 1 1 w10.drew fun r72 w73 => w73.cell? (a3.add 0) = some (Value.slice x69.a x69.len x69.cap) ∧
 w73.cell? (a3.add 1) = some (Value.int .i64 x70) ∧
 w73.cell? (a3.add 2) = some (Value.int .i64 x71) ∧
 w73.cell? (a3.add 0) = some (Value.slice x66.a x66.len x66.cap) ∧
 w73.cell? (a3.add 1) = some (Value.int .i64 x67) ∧
 w73.cell? (a3.add 2) = some (Value.int .i64 x68) ∧
 w73.cell? (a3.add 0) = some (Value.slice x63.a x63.len x63.cap) ∧
 w73.cell? (a3.add 1) = some (Value.int .i64 x64) ∧
 w73.cell? (a3.add 2) = some (Value.int .i64 x65) ∧
 w73.cell? (a3.add 0) = some (Value.slice x60.a x60.len x60.cap) ∧
 w73.cell? (a3.add 1) = some (Value.int .i64 x61) ∧
 w73.cell? (a3.add 2) = some (Value.int .i64 x62) ∧
 w73.cell? (a3.add 0) = some (Value.slice x57.a x57.len x57.cap) ∧
 w73.cell? (a3.add 1) = some (Value.int .i64 x58) ∧
 w73.cell? (a3.add 2) = some (Value.int .i64 x59) ∧
 (aB x57 x58 x59 4 2 w73 fun r74 w75 => w75.cell? (a3.add 0) = some (Value.slice x69.a x69.len x69.cap) ∧
 w75.cell? (a3.add 1) = some (Value.int .i64 x70) ∧
 w75.cell? (a3.add 2) = some (Value.int .i64 x71) ∧
 w75.cell? (a3.add 0) = some (Value.slice x66.a x66.len x66.cap) ∧
 w75.cell? (a3.add 1) = some (Value.int .i64 x67) ∧
 w75.cell? (a3.add 2) = some (Value.int .i64 x68) ∧
 w75.cell? (a3.add 0) = some (Value.slice x63.a x63.len x63.cap) ∧
 w75.cell? (a3.add 1) = some (Value.int .i64 x64) ∧
 w75.cell? (a3.add 2) = some (Value.int .i64 x65) ∧
 w75.cell? (a3.add 0) = some (Value.slice x60.a x60.len x60.cap) ∧
 w75.cell? (a3.add 1) = some (Value.int .i64 x61) ∧
 w75.cell? (a3.add 2) = some (Value.int .i64 x62) ∧
 (aB x60 x61 x62 8 1 w75 fun r76 w77 => w77.cell? (a3.add 0) = some (Value.slice x69.a x69.len x69.cap) ∧
 w77.cell? (a3.add 1) = some (Value.int .i64 x70) ∧
 w77.cell? (a3.add 2) = some (Value.int .i64 x71) ∧
 w77.cell? (a3.add 0) = some (Value.slice x66.a x66.len x66.cap) ∧
 w77.cell? (a3.add 1) = some (Value.int .i64 x67) ∧
 w77.cell? (a3.add 2) = some (Value.int .i64 x68) ∧
 w77.cell? (a3.add 0) = some (Value.slice x63.a x63.len x63.cap) ∧
 w77.cell? (a3.add 1) = some (Value.int .i64 x64) ∧
 w77.cell? (a3.add 2) = some (Value.int .i64 x65) ∧
 (aB x63 x64 x65 9 1 w77 fun r78 w79 => w79.cell? (a3.add 0) = some (Value.slice x69.a x69.len x69.cap) ∧
 w79.cell? (a3.add 1) = some (Value.int .i64 x70) ∧
 w79.cell? (a3.add 2) = some (Value.int .i64 x71) ∧
 w79.cell? (a3.add 0) = some (Value.slice x66.a x66.len x66.cap) ∧
 w79.cell? (a3.add 1) = some (Value.int .i64 x67) ∧
 w79.cell? (a3.add 2) = some (Value.int .i64 x68) ∧
 (aB x66 x67 x68 12 4 w79 fun r80 w81 => w81.cell? (a3.add 0) = some (Value.slice x69.a x69.len x69.cap) ∧
 w81.cell? (a3.add 1) = some (Value.int .i64 x70) ∧
 w81.cell? (a3.add 2) = some (Value.int .i64 x71) ∧
 (aB x69 x70 x71 16 4 w81 fun r82 w83 => Al w83 (.cells ⟨(aO 0 0 0 0 0 0 0 false false ⟨none, 0, 0⟩ ⟨none, 0, 0⟩)⟩ 58) fun a85 w84 => w84.cell? (a3.add 0) = some (Value.slice x69.a x69.len x69.cap) ∧
 w84.cell? (a3.add 1) = some (Value.int .i64 x70) ∧
 w84.cell? (a3.add 2) = some (Value.int .i64 x71) ∧
 w84.cell? (a3.add 0) = some (Value.slice x66.a x66.len x66.cap) ∧
 w84.cell? (a3.add 1) = some (Value.int .i64 x67) ∧
 w84.cell? (a3.add 2) = some (Value.int .i64 x68) ∧
 w84.cell? (a3.add 0) = some (Value.slice x63.a x63.len x63.cap) ∧
 w84.cell? (a3.add 1) = some (Value.int .i64 x64) ∧
 w84.cell? (a3.add 2) = some (Value.int .i64 x65) ∧
 w84.cell? (a3.add 0) = some (Value.slice x60.a x60.len x60.cap) ∧
 w84.cell? (a3.add 1) = some (Value.int .i64 x61) ∧
 w84.cell? (a3.add 2) = some (Value.int .i64 x62) ∧
 w84.cell? (a3.add 0) = some (Value.slice x57.a x57.len x57.cap) ∧
 w84.cell? (a3.add 1) = some (Value.int .i64 x58) ∧
 w84.cell? (a3.add 2) = some (Value.int .i64 x59) ∧
 w84.cell? (a3.add 0) = some (Value.slice x54.a x54.len x54.cap) ∧
 w84.cell? (a3.add 1) = some (Value.int .i64 x55) ∧
 w84.cell? (a3.add 2) = some (Value.int .i64 x56) ∧
 gJ (aO r72 r74 0 r76 r78 r80 r82 false false ⟨none, 0, 0⟩ ⟨none, 0, 0⟩) w84 a85 0 fun w86 => J11 a85 w86) ∧
 (Al w81 (.cells ⟨(aO 0 0 0 0 0 0 0 false false ⟨none, 0, 0⟩ ⟨none, 0, 0⟩)⟩ 58) fun a88 w87 => w87.cell? (a3.add 0) = some (Value.slice x69.a x69.len x69.cap) ∧
 w87.cell? (a3.add 1) = some (Value.int .i64 x70) ∧
 w87.cell? (a3.add 2) = some (Value.int .i64 x71) ∧
 w87.cell? (a3.add 0) = some (Value.slice x66.a x66.len x66.cap) ∧
 w87.cell? (a3.add 1) = some (Value.int .i64 x67) ∧
 w87.cell? (a3.add 2) = some (Value.int .i64 x68) ∧
 w87.cell? (a3.add 0) = some (Value.slice x63.a x63.len x63.cap) ∧
 w87.cell? (a3.add 1) = some (Value.int .i64 x64) ∧
 w87.cell? (a3.add 2) = some (Value.int .i64 x65) ∧
 w87.cell? (a3.add 0) = some (Value.slice x60.a x60.len x60.cap) ∧
 w87.cell? (a3.add 1) = some (Value.int .i64 x61) ∧
 w87.cell? (a3.add 2) = some (Value.int .i64 x62) ∧
 w87.cell? (a3.add 0) = some (Value.slice x57.a x57.len x57.cap) ∧
 w87.cell? (a3.add 1) = some (Value.int .i64 x58) ∧
 w87.cell? (a3.add 2) = some (Value.int .i64 x59) ∧
 w87.cell? (a3.add 0) = some (Value.slice x54.a x54.len x54.cap) ∧
 w87.cell? (a3.add 1) = some (Value.int .i64 x55) ∧
 w87.cell? (a3.add 2) = some (Value.int .i64 x56) ∧
 aB x69 x70 x71 16 4 w87 fun r89 w90 => gJ (aO r72 r74 0 r76 r78 r80 r89 false false ⟨none, 0, 0⟩ ⟨none, 0, 0⟩) w90 a88 0 fun w91 => J11 a88 w91)) ∧
 (Al w79 (.cells ⟨(aO 0 0 0 0 0 0 0 false false ⟨none, 0, 0⟩ ⟨none, 0, 0⟩)⟩ 58) fun a93 w92 => w92.cell? (a3.add 0) = some (Value.slice x69.a x69.len x69.cap) ∧
 w92.cell? (a3.add 1) = some (Value.int .i64 x70) ∧
 w92.cell? (a3.add 2) = some (Value.int .i64 x71) ∧
 w92.cell? (a3.add 0) = some (Value.slice x66.a x66.len x66.cap) ∧
 w92.cell? (a3.add 1) = some (Value.int .i64 x67) ∧
 w92.cell? (a3.add 2) = some (Value.int .i64 x68) ∧
 w92.cell? (a3.add 0) = some (Value.slice x63.a x63.len x63.cap) ∧
 w92.cell? (a3.add 1) = some (Value.int .i64 x64) ∧
 w92.cell? (a3.add 2) = some (Value.int .i64 x65) ∧
 w92.cell? (a3.add 0) = some (Value.slice x60.a x60.len x60.cap) ∧
 w92.cell? (a3.add 1) = some (Value.int .i64 x61) ∧
 w92.cell? (a3.add 2) = some (Value.int .i64 x62) ∧
 w92.cell? (a3.add 0) = some (Value.slice x57.a x57.len x57.cap) ∧
 w92.cell? (a3.add 1) = some (Value.int .i64 x58) ∧
 w92.cell? (a3.add 2) = some (Value.int .i64 x59) ∧
 w92.cell? (a3.add 0) = some (Value.slice x54.a x54.len x54.cap) ∧
 w92.cell? (a3.add 1) = some (Value.int .i64 x55) ∧
 w92.cell? (a3.add 2) = some (Value.int .i64 x56) ∧
 aB x66 x67 x68 12 4 w92 fun r94 w95 => w95.cell? (a3.add 0) = some (Value.slice x69.a x69.len x69.cap) ∧
 w95.cell? (a3.add 1) = some (Value.int .i64 x70) ∧
 w95.cell? (a3.add 2) = some (Value.int .i64 x71) ∧
 aB x69 x70 x71 16 4 w95 fun r96 w97 => gJ (aO r72 r74 0 r76 r78 r94 r96 false false ⟨none, 0, 0⟩ ⟨none, 0, 0⟩) w97 a93 0 fun w98 => J11 a93 w98)) ∧
 (Al w77 (.cells ⟨(aO 0 0 0 0 0 0 0 false false ⟨none, 0, 0⟩ ⟨none, 0, 0⟩)⟩ 58) fun a100 w99 => w99.cell? (a3.add 0) = some (Value.slice x69.a x69.len x69.cap) ∧
 w99.cell? (a3.add 1) = some (Value.int .i64 x70) ∧
 w99.cell? (a3.add 2) = some (Value.int .i64 x71) ∧
 w99.cell? (a3.add 0) = some (Value.slice x66.a x66.len x66.cap) ∧
 w99.cell? (a3.add 1) = some (Value.int .i64 x67) ∧
 w99.cell? (a3.add 2) = some (Value.int .i64 x68) ∧
 w99.cell? (a3.add 0) = some (Value.slice x63.a x63.len x63.cap) ∧
 w99.cell? (a3.add 1) = some (Value.int .i64 x64) ∧
 w99.cell? (a3.add 2) = some (Value.int .i64 x65) ∧
 w99.cell? (a3.add 0) = some (Value.slice x60.a x60.len x60.cap) ∧
 w99.cell? (a3.add 1) = some (Value.int .i64 x61) ∧
 w99.cell? (a3.add 2) = some (Value.int .i64 x62) ∧
 w99.cell? (a3.add 0) = some (Value.slice x57.a x57.len x57.cap) ∧
 w99.cell? (a3.add 1) = some (Value.int .i64 x58) ∧
 w99.cell? (a3.add 2) = some (Value.int .i64 x59) ∧
 w99.cell? (a3.add 0) = some (Value.slice x54.a x54.len x54.cap) ∧
 w99.cell? (a3.add 1) = some (Value.int .i64 x55) ∧
 w99.cell? (a3.add 2) = some (Value.int .i64 x56) ∧
 aB x63 x64 x65 9 1 w99 fun r101 w102 => w102.cell? (a3.add 0) = some (Value.slice x69.a x69.len x69.cap) ∧
 w102.cell? (a3.add 1) = some (Value.int .i64 x70) ∧
 w102.cell? (a3.add 2) = some (Value.int .i64 x71) ∧
 w102.cell? (a3.add 0) = some (Value.slice x66.a x66.len x66.cap) ∧
 w102.cell? (a3.add 1) = some (Value.int .i64 x67) ∧
 w102.cell? (a3.add 2) = some (Value.int .i64 x68) ∧
 aB x66 x67 x68 12 4 w102 fun r103 w104 => w104.cell? (a3.add 0) = some (Value.slice x69.a x69.len x69.cap) ∧
 w104.cell? (a3.add 1) = some (Value.int .i64 x70) ∧
 w104.cell? (a3.add 2) = some (Value.int .i64 x71) ∧
 aB x69 x70 x71 16 4 w104 fun r105 w106 => gJ (aO r72 r74 0 r76 r101 r103 r105 false false ⟨none, 0, 0⟩ ⟨none, 0, 0⟩) w106 a100 0 fun w107 => J11 a100 w107)) ∧
 (Al w75 (.cells ⟨(aO 0 0 0 0 0 0 0 false false ⟨none, 0, 0⟩ ⟨none, 0, 0⟩)⟩ 58) fun a109 w108 => w108.cell? (a3.add 0) = some (Value.slice x69.a x69.len x69.cap) ∧
 w108.cell? (a3.add 1) = some (Value.int .i64 x70) ∧
 w108.cell? (a3.add 2) = some (Value.int .i64 x71) ∧
 w108.cell? (a3.add 0) = some (Value.slice x66.a x66.len x66.cap) ∧
 w108.cell? (a3.add 1) = some (Value.int .i64 x67) ∧
 w108.cell? (a3.add 2) = some (Value.int .i64 x68) ∧
 w108.cell? (a3.add 0) = some (Value.slice x63.a x63.len x63.cap) ∧
 w108.cell? (a3.add 1) = some (Value.int .i64 x64) ∧
 w108.cell? (a3.add 2) = some (Value.int .i64 x65) ∧
 w108.cell? (a3.add 0) = some (Value.slice x60.a x60.len x60.cap) ∧
 w108.cell? (a3.add 1) = some (Value.int .i64 x61) ∧
 w108.cell? (a3.add 2) = some (Value.int .i64 x62) ∧
 w108.cell? (a3.add 0) = some (Value.slice x57.a x57.len x57.cap) ∧
 w108.cell? (a3.add 1) = some (Value.int .i64 x58) ∧
 w108.cell? (a3.add 2) = some (Value.int .i64 x59) ∧
 w108.cell? (a3.add 0) = some (Value.slice x54.a x54.len x54.cap) ∧
 w108.cell? (a3.add 1) = some (Value.int .i64 x55) ∧
 w108.cell? (a3.add 2) = some (Value.int .i64 x56) ∧
 aB x60 x61 x62 8 1 w108 fun r110 w111 => w111.cell? (a3.add 0) = some (Value.slice x69.a x69.len x69.cap) ∧
 w111.cell? (a3.add 1) = some (Value.int .i64 x70) ∧
 w111.cell? (a3.add 2) = some (Value.int .i64 x71) ∧
 w111.cell? (a3.add 0) = some (Value.slice x66.a x66.len x66.cap) ∧
 w111.cell? (a3.add 1) = some (Value.int .i64 x67) ∧
 w111.cell? (a3.add 2) = some (Value.int .i64 x68) ∧
 w111.cell? (a3.add 0) = some (Value.slice x63.a x63.len x63.cap) ∧
 w111.cell? (a3.add 1) = some (Value.int .i64 x64) ∧
 w111.cell? (a3.add 2) = some (Value.int .i64 x65) ∧
 aB x63 x64 x65 9 1 w111 fun r112 w113 => w113.cell? (a3.add 0) = some (Value.slice x69.a x69.len x69.cap) ∧
 w113.cell? (a3.add 1) = some (Value.int .i64 x70) ∧
 w113.cell? (a3.add 2) = some (Value.int .i64 x71) ∧
 w113.cell? (a3.add 0) = some (Value.slice x66.a x66.len x66.cap) ∧
 w113.cell? (a3.add 1) = some (Value.int .i64 x67) ∧
 w113.cell? (a3.add 2) = some (Value.int .i64 x68) ∧
 aB x66 x67 x68 12 4 w113 fun r114 w115 => w115.cell? (a3.add 0) = some (Value.slice x69.a x69.len x69.cap) ∧
 w115.cell? (a3.add 1) = some (Value.int .i64 x70) ∧
 w115.cell? (a3.add 2) = some (Value.int .i64 x71) ∧
 aB x69 x70 x71 16 4 w115 fun r116 w117 => gJ (aO r72 r74 0 r110 r112 r114 r116 false false ⟨none, 0, 0⟩ ⟨none, 0, 0⟩) w117 a109 0 fun w118 => J11 a109 w118)) ∧
 (Al w73 (.cells ⟨(aO 0 0 0 0 0 0 0 false false ⟨none, 0, 0⟩ ⟨none, 0, 0⟩)⟩ 58) fun a120 w119 => w119.cell? (a3.add 0) = some (Value.slice x69.a x69.len x69.cap) ∧
 w119.cell? (a3.add 1) = some (Value.int .i64 x70) ∧
 w119.cell? (a3.add 2) = some (Value.int .i64 x71) ∧
 w119.cell? (a3.add 0) = some (Value.slice x66.a x66.len x66.cap) ∧
 w119.cell? (a3.add 1) = some (Value.int .i64 x67) ∧
 w119.cell? (a3.add 2) = some (Value.int .i64 x68) ∧
 w119.cell? (a3.add 0) = some (Value.slice x63.a x63.len x63.cap) ∧
 w119.cell? (a3.add 1) = some (Value.int .i64 x64) ∧
 w119.cell? (a3.add 2) = some (Value.int .i64 x65) ∧
 w119.cell? (a3.add 0) = some (Value.slice x60.a x60.len x60.cap) ∧
 w119.cell? (a3.add 1) = some (Value.int .i64 x61) ∧
 w119.cell? (a3.add 2) = some (Value.int .i64 x62) ∧
 w119.cell? (a3.add 0) = some (Value.slice x57.a x57.len x57.cap) ∧
 w119.cell? (a3.add 1) = some (Value.int .i64 x58) ∧
 w119.cell? (a3.add 2) = some (Value.int .i64 x59) ∧
 w119.cell? (a3.add 0) = some (Value.slice x54.a x54.len x54.cap) ∧
 w119.cell? (a3.add 1) = some (Value.int .i64 x55) ∧
 w119.cell? (a3.add 2) = some (Value.int .i64 x56) ∧
 aB x57 x58 x59 4 2 w119 fun r121 w122 => w122.cell? (a3.add 0) = some (Value.slice x69.a x69.len x69.cap) ∧
 w122.cell? (a3.add 1) = some (Value.int .i64 x70) ∧
 w122.cell? (a3.add 2) = some (Value.int .i64 x71) ∧
 w122.cell? (a3.add 0) = some (Value.slice x66.a x66.len x66.cap) ∧
 w122.cell? (a3.add 1) = some (Value.int .i64 x67) ∧
 w122.cell? (a3.add 2) = some (Value.int .i64 x68) ∧
 w122.cell? (a3.add 0) = some (Value.slice x63.a x63.len x63.cap) ∧
 w122.cell? (a3.add 1) = some (Value.int .i64 x64) ∧
 w122.cell? (a3.add 2) = some (Value.int .i64 x65) ∧
 w122.cell? (a3.add 0) = some (Value.slice x60.a x60.len x60.cap) ∧
 w122.cell? (a3.add 1) = some (Value.int .i64 x61) ∧
 w122.cell? (a3.add 2) = some (Value.int .i64 x62) ∧
 aB x60 x61 x62 8 1 w122 fun r123 w124 => w124.cell? (a3.add 0) = some (Value.slice x69.a x69.len x69.cap) ∧
 w124.cell? (a3.add 1) = some (Value.int .i64 x70) ∧
 w124.cell? (a3.add 2) = some (Value.int .i64 x71) ∧
 w124.cell? (a3.add 0) = some (Value.slice x66.a x66.len x66.cap) ∧
 w124.cell? (a3.add 1) = some (Value.int .i64 x67) ∧
 w124.cell? (a3.add 2) = some (Value.int .i64 x68) ∧
 w124.cell? (a3.add 0) = some (Value.slice x63.a x63.len x63.cap) ∧
 w124.cell? (a3.add 1) = some (Value.int .i64 x64) ∧
 w124.cell? (a3.add 2) = some (Value.int .i64 x65) ∧
 aB x63 x64 x65 9 1 w124 fun r125 w126 => w126.cell? (a3.add 0) = some (Value.slice x69.a x69.len x69.cap) ∧
 w126.cell? (a3.add 1) = some (Value.int .i64 x70) ∧
 w126.cell? (a3.add 2) = some (Value.int .i64 x71) ∧
 w126.cell? (a3.add 0) = some (Value.slice x66.a x66.len x66.cap) ∧
 w126.cell? (a3.add 1) = some (Value.int .i64 x67) ∧
 w126.cell? (a3.add 2) = some (Value.int .i64 x68) ∧
 aB x66 x67 x68 12 4 w126 fun r127 w128 => w128.cell? (a3.add 0) = some (Value.slice x69.a x69.len x69.cap) ∧
 w128.cell? (a3.add 1) = some (Value.int .i64 x70) ∧
 w128.cell? (a3.add 2) = some (Value.int .i64 x71) ∧
 aB x69 x70 x71 16 4 w128 fun r129 w130 => gJ (aO r72 r121 0 r123 r125 r127 r129 false false ⟨none, 0, 0⟩ ⟨none, 0, 0⟩) w130 a120 0 fun w131 => J11 a120 w131)) ∧
 (Al w10.drew (.cells ⟨(aO 0 0 0 0 0 0 0 false false ⟨none, 0, 0⟩ ⟨none, 0, 0⟩)⟩ 58) fun a133 w132 => w132.cell? (a3.add 0) = some (Value.slice x69.a x69.len x69.cap) ∧
 w132.cell? (a3.add 1) = some (Value.int .i64 x70) ∧
 w132.cell? (a3.add 2) = some (Value.int .i64 x71) ∧
 w132.cell? (a3.add 0) = some (Value.slice x66.a x66.len x66.cap) ∧
 w132.cell? (a3.add 1) = some (Value.int .i64 x67) ∧
 w132.cell? (a3.add 2) = some (Value.int .i64 x68) ∧
 w132.cell? (a3.add 0) = some (Value.slice x63.a x63.len x63.cap) ∧
 w132.cell? (a3.add 1) = some (Value.int .i64 x64) ∧
 w132.cell? (a3.add 2) = some (Value.int .i64 x65) ∧
 w132.cell? (a3.add 0) = some (Value.slice x60.a x60.len x60.cap) ∧
 w132.cell? (a3.add 1) = some (Value.int .i64 x61) ∧
 w132.cell? (a3.add 2) = some (Value.int .i64 x62) ∧
 w132.cell? (a3.add 0) = some (Value.slice x57.a x57.len x57.cap) ∧
 w132.cell? (a3.add 1) = some (Value.int .i64 x58) ∧
 w132.cell? (a3.add 2) = some (Value.int .i64 x59) ∧
 w132.cell? (a3.add 0) = some (Value.slice x54.a x54.len x54.cap) ∧
 w132.cell? (a3.add 1) = some (Value.int .i64 x55) ∧
 w132.cell? (a3.add 2) = some (Value.int .i64 x56) ∧
 aB x54 x55 x56 1 1 w132 fun r134 w135 => w135.cell? (a3.add 0) = some (Value.slice x69.a x69.len x69.cap) ∧
 w135.cell? (a3.add 1) = some (Value.int .i64 x70) ∧
 w135.cell? (a3.add 2) = some (Value.int .i64 x71) ∧
 w135.cell? (a3.add 0) = some (Value.slice x66.a x66.len x66.cap) ∧
 w135.cell? (a3.add 1) = some (Value.int .i64 x67) ∧
 w135.cell? (a3.add 2) = some (Value.int .i64 x68) ∧
 w135.cell? (a3.add 0) = some (Value.slice x63.a x63.len x63.cap) ∧
 w135.cell? (a3.add 1) = some (Value.int .i64 x64) ∧
 w135.cell? (a3.add 2) = some (Value.int .i64 x65) ∧
 w135.cell? (a3.add 0) = some (Value.slice x60.a x60.len x60.cap) ∧
 w135.cell? (a3.add 1) = some (Value.int .i64 x61) ∧
 w135.cell? (a3.add 2) = some (Value.int .i64 x62) ∧
 w135.cell? (a3.add 0) = some (Value.slice x57.a x57.len x57.cap) ∧
 w135.cell? (a3.add 1) = some (Value.int .i64 x58) ∧
 w135.cell? (a3.add 2) = some (Value.int .i64 x59) ∧
 aB x57 x58 x59 4 2 w135 fun r136 w137 => w137.cell? (a3.add 0) = some (Value.slice x69.a x69.len x69.cap) ∧
 w137.cell? (a3.add 1) = some (Value.int .i64 x70) ∧
 w137.cell? (a3.add 2) = some (Value.int .i64 x71) ∧
 w137.cell? (a3.add 0) = some (Value.slice x66.a x66.len x66.cap) ∧
 w137.cell? (a3.add 1) = some (Value.int .i64 x67) ∧
 w137.cell? (a3.add 2) = some (Value.int .i64 x68) ∧
 w137.cell? (a3.add 0) = some (Value.slice x63.a x63.len x63.cap) ∧
 w137.cell? (a3.add 1) = some (Value.int .i64 x64) ∧
 w137.cell? (a3.add 2) = some (Value.int .i64 x65) ∧
 w137.cell? (a3.add 0) = some (Value.slice x60.a x60.len x60.cap) ∧
 w137.cell? (a3.add 1) = some (Value.int .i64 x61) ∧
 w137.cell? (a3.add 2) = some (Value.int .i64 x62) ∧
 aB x60 x61 x62 8 1 w137 fun r138 w139 => w139.cell? (a3.add 0) = some (Value.slice x69.a x69.len x69.cap) ∧
 w139.cell? (a3.add 1) = some (Value.int .i64 x70) ∧
 w139.cell? (a3.add 2) = some (Value.int .i64 x71) ∧
 w139.cell? (a3.add 0) = some (Value.slice x66.a x66.len x66.cap) ∧
 w139.cell? (a3.add 1) = some (Value.int .i64 x67) ∧
 w139.cell? (a3.add 2) = some (Value.int .i64 x68) ∧
 w139.cell? (a3.add 0) = some (Value.slice x63.a x63.len x63.cap) ∧
 w139.cell? (a3.add 1) = some (Value.int .i64 x64) ∧
 w139.cell? (a3.add 2) = some (Value.int .i64 x65) ∧
 aB x63 x64 x65 9 1 w139 fun r140 w141 => w141.cell? (a3.add 0) = some (Value.slice x69.a x69.len x69.cap) ∧
 w141.cell? (a3.add 1) = some (Value.int .i64 x70) ∧
 w141.cell? (a3.add 2) = some (Value.int .i64 x71) ∧
 w141.cell? (a3.add 0) = some (Value.slice x66.a x66.len x66.cap) ∧
 w141.cell? (a3.add 1) = some (Value.int .i64 x67) ∧
 w141.cell? (a3.add 2) = some (Value.int .i64 x68) ∧
 aB x66 x67 x68 12 4 w141 fun r142 w143 => w143.cell? (a3.add 0) = some (Value.slice x69.a x69.len x69.cap) ∧
 w143.cell? (a3.add 1) = some (Value.int .i64 x70) ∧
 w143.cell? (a3.add 2) = some (Value.int .i64 x71) ∧
 aB x69 x70 x71 16 4 w143 fun r144 w145 => gJ (aO r134 r136 0 r138 r140 r142 r144 false false ⟨none, 0, 0⟩ ⟨none, 0, 0⟩) w145 a133 0 fun w146 => J11 a133 w146)) := okF cO Tryz.func65 .leaf (by kernel_rfl)
theorem KQ {A0 A1 A2 A3 A4 A5 A6 A7 A8 A9 A10 w K} : aN (jT A0 A1 A2 A3 A4 A5 A6 A7 A8 A9 A10 w K)
 (Al w (.cells ⟨(aO A0 A1 A2 A3 A4 A5 A6 A7 A8 A9 A10)⟩ 58) fun a3 w2 => Ld (.int .i64) w2.drew a3 fun x4 => Ld (.int .i64) w2.drew (a3.add 3) fun x5 => Ld (.int .i64) w2.drew (a3.add 4) fun x6 => Ld (.int .i64) w2.drew (a3.add 1) fun x7 => bY x4 1 w2.drew fun r8 w9 => w9.cell? (a3.add 1) = some (Value.int .i64 x7) ∧
 w9.cell? (a3.add 4) = some (Value.int .i64 x6) ∧
 w9.cell? (a3.add 3) = some (Value.int .i64 x5) ∧
 bY x5 1 w9 fun r10 w11 => w11.cell? (a3.add 1) = some (Value.int .i64 x7) ∧
 w11.cell? (a3.add 4) = some (Value.int .i64 x6) ∧
 bY x6 1 w11 fun r12 w13 => w13.cell? (a3.add 1) = some (Value.int .i64 x7) ∧
 bY x7 2 w13 fun r14 w15 => Al w15 (.cells ⟨[(Value.bool r8), (Value.bool r10), (Value.bool r12), (Value.bool r14)]⟩ 4) fun a17 w16 => jM ⟨(some a17), 4, 4⟩ w16 fun r18 w19 => Ld (.int .i64) w19.drew (a3.add 5) fun x20 => Ld (.int .i64) w19.drew (a3.add 6) fun x21 => fH x20 w19.drew fun r22 w23 => w23.cell? (a3.add 6) = some (Value.int .i64 x21) ∧
 fH x21 w23 fun r24 w25 => Al w25 (.cells ⟨[(Value.bool r22), (Value.bool r24)]⟩ 4) fun a27 w26 => jM ⟨(some a27), 2, 2⟩ w26 fun r28 w29 => let J30 : Bool -> World -> Prop := fun j31 w32 => (Ld .slice w32 (a3.add 9) fun x33 => Ld .slice w32 (a3.add 9) fun x34 => (4 : Int) ≠ 0 ∧
 Al w32 (.cells ⟨[(Value.bool (decide ((x33.len : Int) <= 40))), (Value.bool ((Int.tmod (x34.len : Int) 4) == 0))]⟩ 4) fun a36 w35 => jM ⟨(some a36), 2, 2⟩ w35 fun r37 w38 => Al w38 (.cells ⟨[(Value.bool r18), (Value.bool r28), (Value.bool j31), (Value.bool r37)]⟩ 4) fun a40 w39 => jM ⟨(some a40), 4, 4⟩ w39 fun r41 w42 => (bif (!r41) then
 K 1 w42
 else
 let J43 : Bool -> World -> Prop := fun j44 w45 => ((bif j44 then
 K 6 w45
 else
 K 0 w45))
 bZ w42 a3 fun x46 x47 x48 x49 x50 x51 x52 x53 x54 x55 x56 => lT x46 x47 x48 x49 x50 x51 x52 x53 x54 x55 x56 w42 fun r57 w58 => (bif (decide (r57 > 65535)) then
 J43 true w58
 else
 Ld (.int .i64) w58 (a3.add 2) fun x59 => Ld .slice w58 (a3.add 10) fun x60 => J43 (decide (x59 > (IntKind.i64.wrap (65535 - (x60.len : Int))))) w58)))
 Ld (.int .i64) w29 (a3.add 2) fun x61 => Ld (.int .i64) w29 (a3.add 2) fun x62 => Ld (.int .i64) w29 (a3.add 2) fun x63 => (8 : Int) ≠ 0 ∧
 Ld .bool w29 (a3.add 8) fun x64 => (bif (!x64) then
 Al w29 (.cells ⟨[(Value.bool (decide (x61 >= 0))), (Value.bool (decide (x62 <= 65528))), (Value.bool ((Int.tmod x63 8) == 0)), (Value.bool true)]⟩ 4) fun a66 w65 => jM ⟨(some a66), 4, 4⟩ w65 fun r67 w68 => J30 r67 w68
 else
 Ld .slice w29 (a3.add 10) fun x69 => (8 : Int) ≠ 0 ∧
 Al w29 (.cells ⟨[(Value.bool (decide (x61 >= 0))), (Value.bool (decide (x62 <= 65528))), (Value.bool ((Int.tmod x63 8) == 0)), (Value.bool ((Int.tmod (x69.len : Int) 8) == 0))]⟩ 4) fun a71 w70 => jM ⟨(some a71), 4, 4⟩ w70 fun r72 w73 => J30 r72 w73)) := okF cO Tryz.func66 .leaf (by kernel_rfl)
theorem Ci {a0 a1 w K} : aN (qX a0 a1 w K)
 ((bif (a1 != 0) then
 K ⟨none, 0, 0⟩ w
 else
 Al w (.cells ⟨[(Value.slice a0.a a0.len a0.cap)]⟩ 22) fun a4 w3 => K ⟨(some a4), 1, 1⟩ w3)) := okF cO Tryz.func67 .leaf (by kernel_rfl)
theorem EM {a0 w K} : aN (fH a0 w K)
 (let J2 : Bool -> Prop := fun j3 => (K j3 w)
 (bif (decide (a0 >= 0)) then
 J2 (decide (a0 < 4294967296))
 else
 J2 false)) := okF cO Tryz.func68 .leaf (by kernel_rfl)
theorem JO {a0 a1 w K} : aN (CB a0 a1 w K)
 (dU (S := Int × Unit) (fun s3 w4 next5 => (bif (decide (s3.1 < (a1.len : Int))) then
 dN a1 2 s3.1 fun a6 => Ld (.int .i64) w4 (a6.add 0) fun x7 => Ld (.int .i64) w4 (a6.add 1) fun x8 => Al w4 (.cells ⟨[(Value.int .i64 0), (Value.int .i64 0)]⟩ 128) fun a10 w9 => gJ [(Value.int .i64 x7), (Value.int .i64 x8)] w9 a10 0 fun w11 => Ld (.int .i64) w11 (a10.add 0) fun x12 => Ld (.int .i64) w11 (a10.add 1) fun x13 => g_ x12 x13 a0 w11 fun r14 w15 => (bif r14 then
 K true w15
 else
 next5 ((IntKind.i64.wrap (s3.1 + 1)), ()) w15)
 else
 K false w4)) (0, ()) w) := okF cO Tryz.func69 (.seq .leaf (.seq (.seq .leaf (.blk (.loop [(9, (.int .i64))] .leaf))) .leaf)) (by kernel_rfl)
theorem IQ {a0 a1 a2 a3 a4 w K} : aN (nG a0 a1 a2 a3 a4 w K)
 (Al w (.cells ⟨(aO 0 0 0 0 0 0 0 false false ⟨none, 0, 0⟩ ⟨none, 0, 0⟩)⟩ 58) fun a7 w6 => nR a4 w6 fun r8 r9 r10 r11 r12 r13 r14 r15 r16 r17 r18 r19 w20 => Al w20 (.cells ⟨(aO 0 0 0 0 0 0 0 false false ⟨none, 0, 0⟩ ⟨none, 0, 0⟩)⟩ 58) fun a22 w21 => gJ (aO r8 r9 r10 r11 r12 r13 r14 r15 r16 r17 r18) w21 a22 0 fun w23 => (bif (!r19) then
 gJ (aO 0 0 0 0 0 0 0 false false ⟨none, 0, 0⟩ ⟨none, 0, 0⟩) w23 a7 0 fun w24 => bZ w24 a7 fun y25 y26 y27 y28 y29 y30 y31 y32 y33 y34 y35 => K y25 y26 y27 y28 y29 y30 y31 y32 y33 y34 y35 11 w24
 else
 bZ w23 a22 fun x36 x37 x38 x39 x40 x41 x42 x43 x44 x45 x46 => kU a4 x36 x37 x38 x39 x40 x41 x42 x43 x44 x45 x46 w23 fun r47 w48 => Al w48 (.cells ⟨[(Value.int .i64 0), (Value.int .i64 0), (Value.int .i64 0), (Value.slice none 0 0)]⟩ 105) fun a50 w49 => gJ [(Value.int .i64 a1), (Value.int .i64 a2), (Value.int .i64 a3), (Value.slice r47.a r47.len r47.cap)] w49 a50 0 fun w51 => Ld (.int .i64) w51 (a50.add 0) fun x52 => Ld (.int .i64) w51 (a50.add 1) fun x53 => Ld (.int .i64) w51 (a50.add 2) fun x54 => Ld .slice w51 (a50.add 3) fun x55 => kR x52 x53 x54 x55 w51 fun r56 r57 w58 => (bif (r57 != 0) then
 gJ (aO 0 0 0 0 0 0 0 false false ⟨none, 0, 0⟩ ⟨none, 0, 0⟩) w58 a7 0 fun w59 => bZ w59 a7 fun y60 y61 y62 y63 y64 y65 y66 y67 y68 y69 y70 => K y60 y61 y62 y63 y64 y65 y66 y67 y68 y69 y70 1 w59
 else
 Ld (.int .i64) w58 (a22.add 5) fun x71 => Al w58 (.cells ⟨(aO 0 0 0 0 0 0 0 false false ⟨none, 0, 0⟩ ⟨none, 0, 0⟩)⟩ 58) fun a73 w72 => gJ (aO 0 0 0 64 1 a0 x71 false false ⟨none, 0, 0⟩ r56) w72 a73 0 fun w74 => bZ w74 a73 fun x75 x76 x77 x78 x79 x80 x81 x82 x83 x84 x85 => jT x75 x76 x77 x78 x79 x80 x81 x82 x83 x84 x85 w74 fun r86 w87 => (bif (r86 != 0) then
 gJ (aO 0 0 0 0 0 0 0 false false ⟨none, 0, 0⟩ ⟨none, 0, 0⟩) w87 a7 0 fun w88 => bZ w88 a7 fun y89 y90 y91 y92 y93 y94 y95 y96 y97 y98 y99 => K y89 y90 y91 y92 y93 y94 y95 y96 y97 y98 y99 1 w88
 else
 bZ w87 a73 fun x100 x101 x102 x103 x104 x105 x106 x107 x108 x109 x110 => gJ (aO x100 x101 x102 x103 x104 x105 x106 x107 x108 x109 x110) w87 a7 0 fun w111 => bZ w111 a7 fun y112 y113 y114 y115 y116 y117 y118 y119 y120 y121 y122 => K y112 y113 y114 y115 y116 y117 y118 y119 y120 y121 y122 0 w111)))) := okF cO Tryz.func70 .leaf (by kernel_rfl)
theorem I9 {A0 A1 A2 A3 A4 A5 A6 A7 A8 A9 A10 w K} : aN (nC A0 A1 A2 A3 A4 A5 A6 A7 A8 A9 A10 w K)
 (Al w (.cells ⟨(aO A0 A1 A2 A3 A4 A5 A6 A7 A8 A9 A10)⟩ 58) fun a3 w2 => bZ w2.drew a3 fun x4 x5 x6 x7 x8 x9 x10 x11 x12 x13 x14 => Ld (.int .i64) w2.drew a3 fun x15 => bZ w2.drew a3 fun x16 x17 x18 x19 x20 x21 x22 x23 x24 x25 x26 => Ld (.int .i64) w2.drew (a3.add 1) fun x27 => bZ w2.drew a3 fun x28 x29 x30 x31 x32 x33 x34 x35 x36 x37 x38 => Ld (.int .i64) w2.drew (a3.add 3) fun x39 => Ld (.int .i64) w2.drew (a3.add 4) fun x40 => Ld (.int .i64) w2.drew (a3.add 5) fun x41 => Ld (.int .i64) w2.drew (a3.add 6) fun x42 => oK x4 x5 x6 x7 x8 x9 x10 x11 x12 x13 x14 w2.drew fun r43 w44 => w44.cell? (a3.add 6) = some (Value.int .i64 x42) ∧
 w44.cell? (a3.add 5) = some (Value.int .i64 x41) ∧
 w44.cell? (a3.add 4) = some (Value.int .i64 x40) ∧
 w44.cell? (a3.add 3) = some (Value.int .i64 x39) ∧
 Dq (aO x28 x29 x30 x31 x32 x33 x34 x35 x36 x37 x38) w44 a3 0 (
 w44.cell? (a3.add 1) = some (Value.int .i64 x27) ∧
 Dq (aO x16 x17 x18 x19 x20 x21 x22 x23 x24 x25 x26) w44 a3 0 (
 w44.cell? a3 = some (Value.int .i64 x15) ∧
 (4 : Int) ≠ 0 ∧
 lT x16 x17 x18 x19 x20 x21 x22 x23 x24 x25 x26 w44 fun r45 w46 => w46.cell? (a3.add 6) = some (Value.int .i64 x42) ∧
 w46.cell? (a3.add 5) = some (Value.int .i64 x41) ∧
 w46.cell? (a3.add 4) = some (Value.int .i64 x40) ∧
 w46.cell? (a3.add 3) = some (Value.int .i64 x39) ∧
 Dq (aO x28 x29 x30 x31 x32 x33 x34 x35 x36 x37 x38) w46 a3 0 (
 w46.cell? (a3.add 1) = some (Value.int .i64 x27) ∧
 w46.cell? a3 = some (Value.int .i64 x15) ∧
 oO x28 x29 x30 x31 x32 x33 x34 x35 x36 x37 x38 w46 fun r47 w48 => w48.cell? (a3.add 6) = some (Value.int .i64 x42) ∧
 w48.cell? (a3.add 5) = some (Value.int .i64 x41) ∧
 w48.cell? (a3.add 4) = some (Value.int .i64 x40) ∧
 w48.cell? (a3.add 3) = some (Value.int .i64 x39) ∧
 w48.cell? (a3.add 1) = some (Value.int .i64 x27) ∧
 w48.cell? a3 = some (Value.int .i64 x15) ∧
 Al w48 (.cells ⟨(VA (Bj .i64 64 (IntKind.i64.wrap (Int.tdiv r43 4))) 1 x15 1 r45 2 x27 2 r47 2 x39 1 x40 1 0 2 x41 4 x42 4)⟩ 133) fun a50 w49 => K ⟨(some a50), 10, 10⟩ w49)))) := okF cO Tryz.func71 .leaf (by kernel_rfl)
theorem Qa {a0 a1 a2 a3 w K} : aN (qL a0 a1 a2 a3 w K)
 (bY a2 a3 w fun r5 w6 => (bif (!r5) then
 K ⟨none, 0, 0⟩ 1 w6
 else
 aC a0 w6 fun r7 w8 => jZ r7 a1 a3 w8 fun r9 r10 w11 => (bif (r10 != 0) then
 K ⟨none, 0, 0⟩ r10 w11
 else
 j_ a2 a3 w11 fun r12 w13 => dM r12 w13 fun r14 w15 => dU (S := Int × Unit) (fun s16 w17 next18 => (bif (decide (s16.1 < (r14.len : Int))) then
 dN r14 1 s16.1 fun a19 => Ld (.int .u8) w17 a19 fun x20 => dN r9 1 s16.1 fun a21 => St w17 a21 (Value.int .u8 x20) fun w22 => next18 ((IntKind.i64.wrap (s16.1 + 1)), ()) w22
 else
 K r7 0 w17)) (0, ()) w15))) := okF cO Tryz.func72 (.seq .leaf (.seq .leaf (.seq .leaf (.seq .leaf (.seq .leaf (.seq (.seq .leaf (.blk (.loop [(36, (.int .i64))] .leaf))) .leaf)))))) (by kernel_rfl)
theorem PE {a0 w K} : aN (qQ a0 w K)
 (oL a0 w fun r2 w3 => K (IntKind.i64.wrap (65535 - r2)) w3) := okF cO Tryz.func73 .leaf (by kernel_rfl)
theorem LP {A0 A1 A2 A3 A4 A5 A6 A7 A8 A9 A10 A11 A12 A13 A14 A15 A16 A17 A18 A19 A20 A21 A22 A23 A24 A25 A26 A27 A28 A29 A30 A31 A32 A33 A34 A35 A36 w K} : aN (oU A0 A1 A2 A3 A4 A5 A6 A7 A8 A9 A10 A11 A12 A13 A14 A15 A16 A17 A18 A19 A20 A21 A22 A23 A24 A25 A26 A27 A28 A29 A30 A31 A32 A33 A34 A35 A36 w K)
 (Al w (.cells ⟨(bG A0 A1 A2 A3 A4 A5 A6 A7 A8 A9 A10 A11 A12 A13 A14 A15 A16 A17 A18 A19 A20 A21 A22 A23 A24 A25 A26 A27 A28 A29 A30 A31 A32 A33 A34 A35 A36)⟩ 38) fun a3 w2 => dY w2 a3 fun x4 x5 x6 x7 x8 x9 x10 x11 x12 x13 x14 x15 x16 x17 x18 x19 x20 x21 x22 x23 x24 x25 x26 x27 x28 x29 x30 x31 x32 x33 x34 x35 x36 x37 x38 x39 x40 => jS x4 x5 x6 x7 x8 x9 x10 x11 x12 x13 x14 x15 x16 x17 x18 x19 x20 x21 x22 x23 x24 x25 x26 x27 x28 x29 x30 x31 x32 x33 x34 x35 x36 x37 x38 x39 x40 w2 fun r41 w42 => (bif (r41 != 0) then
 K ⟨none, 0, 0⟩ r41 w42
 else
 Ld (.int .i64) w42 a3 fun x43 => 0 <= (20 : Int) ∧
 Ld (.int .i64) w42 (a3.add 1) fun x44 => iY ⟨none, 0, 0⟩ (Bj .i64 (Bj .i64 1610612736 (yZ .i64 x43 20)) x44) 4 w42 fun r45 w46 => Ld .slice w46 (a3.add 36) fun x47 => iY r45 (x47.len : Int) 2 w46 fun r48 w49 => Ld (.int .i64) w49 (a3.add 2) fun x50 => Ld (.int .i64) w49 (a3.add 3) fun x51 => Al w49 (.cells ⟨[(Value.int .u8 (IntKind.u8.wrap x50)), (Value.int .u8 (IntKind.u8.wrap x51))]⟩ 5) fun a53 w52 => gI 5 1 1 [(Value.int .u8 0)] r48 ⟨(some a53), 2, 2⟩ w52 fun s54 w55 => lZ (a3.add 4) 16 1 0 (16 : Int) fun s56 => lZ (a3.add 20) 16 1 0 (16 : Int) fun s57 => Ld .slice w55.drew (a3.add 36) fun x58 => Al w55.drew (.cells ⟨[(Value.slice s54.a s54.len s54.cap), (Value.slice s56.a s56.len s56.cap), (Value.slice s57.a s57.len s57.cap), (Value.slice x58.a x58.len x58.cap)]⟩ 22) fun a60 w59 => bP ⟨(some a60), 4, 4⟩ w59 fun r61 w62 => K r61 0 w62)) := okF cO Tryz.func74 .leaf (by kernel_rfl)
theorem Jc {a0 w K} : aN (mY a0 w K)
 (dU (S := Int × Int × Unit) (fun s2 w3 next4 => (bif (decide (s2.2.1 < (a0.len : Int))) then
 dU (S := Int × Int × Unit) (fun s5 w6 next7 => dN a0 1 s2.2.1 fun a8 => Ld .slice w6 a8 fun x9 => (bif (decide (s5.2.1 < (x9.len : Int))) then
 dN a0 1 s2.2.1 fun a10 => Ld .slice w6 a10 fun x11 => kH x11 s5.2.1 w6 fun r12 w13 => next7 ((IntKind.i64.wrap (s5.1 + r12)), (IntKind.i64.wrap (s5.2.1 + 2)), ()) w13
 else
 next4 (s5.1, (IntKind.i64.wrap (s2.2.1 + 1)), ()) w6)) (s2.1, 0, ()) w3
 else
 kY s2.1 w3 fun r14 w15 => K r14 w15)) (0, 0, ()) w) := okF cO Tryz.func75 (.seq .leaf (.seq .leaf (.seq (.seq .leaf (.blk (.loop [(3, (.int .i64)), (4, (.int .i64))] (.seq .leaf (.seq (.blk (.seq .leaf (.blk (.loop [(3, (.int .i64)), (5, (.int .i64))] .leaf)))) .leaf))))) .leaf))) (by kernel_rfl)
theorem Ii {a0 a1 w K} : aN (iw a0 a1 w K)
 (a1 ≠ 0 ∧
 a1 ≠ 0 ∧
 K (Int.tmod (IntKind.i64.wrap ((Int.tmod a0 a1) + a1)) a1) w) := okF cO Tryz.func76 .leaf (by kernel_rfl)
theorem Ec {a0 w K} : aN (iJ a0 w K)
 (let J2 : Bool -> Prop := fun j3 => (K j3 w)
 (bif (decide (a0 >= 0)) then
 J2 (decide (a0 < 4294967296))
 else
 J2 false)) := okF cO Tryz.func77 .leaf (by kernel_rfl)
theorem EW {A0 A1 A2 A3 A4 A5 A6 A7 A8 A9 A10 w K} : aN (jy A0 A1 A2 A3 A4 A5 A6 A7 A8 A9 A10 w K)
 (Al w (.cells ⟨(aO A0 A1 A2 A3 A4 A5 A6 A7 A8 A9 A10)⟩ 58) fun a3 w2 => Ld .slice w2 (a3.add 9) fun x4 => K (IntKind.i64.wrap (20 + (x4.len : Int))) w2) := okF cO Tryz.func78 .leaf (by kernel_rfl)
theorem nO {a0 a1 w K} : aN (bH a0 a1 w K)
 (dD (Value.slice a0.a a0.len a0.cap) = true ∧
 Al w (.cells ⟨[(Value.slice a0.a a0.len a0.cap)]⟩ 22) fun a4 w3 => Gy Tryz.prog none [.one (.int .u8)] a1 w3 (fun l5 x6 W7 Kb8 => W7.heap[l5]? = W7.heap[l5]? ∧
 Ld .slice (aZ W7 l5) a4 fun x9 => Al (aZ W7 l5) (.cells ⟨[(Value.int .u8 x6.1)]⟩ 5) fun a11 w10 => gI 5 1 1 [(Value.int .u8 0)] x9 ⟨(some a11), 1, 1⟩ w10 fun s12 w13 => St w13 a4 (Value.slice s12.a s12.len s12.cap) fun w14 => Kb8 .normal w14)
 (fun w15 => Ld .slice w15 a4 fun x16 => w15.heap[w3.heap.size]? = some (.deferred (some [])) ∧
 K x16 (w15.putObj w3.heap.size (.deferred none)))
 (fun w17 => w17.heap[w3.heap.size]? = some (.deferred (some [])) ∧
 K ⟨none, 0, 0⟩ (w17.putObj w3.heap.size (.deferred none)))
 []) := okF cO Tryz.func79 (.seq .leaf (.seq (.seq .leaf (.blk (.rng [.one (.int .u8)] .leaf .leaf))) .leaf)) (by kernel_rfl)
theorem H7 {a0 a1 w K} : aN (j_ a0 a1 w K)
 (dD (Value.int .i64 a0) = true ∧
 Al w (.cells ⟨[(Value.int .i64 a0)]⟩ 3) fun a4 w3 => dD (Value.int .i64 a1) = true ∧
 Al w3 (.cells ⟨[(Value.int .i64 a1)]⟩ 3) fun a6 w5 => K (Value.func (.func 108) #[] #[(Value.pointer (some a6)), (Value.pointer (some a4))]) w5) := okF cO Tryz.func80 .leaf (by kernel_rfl)
theorem Qr {a0 a1 a2 w K} : aN (kN a0 a1 a2 w K)
 (jZ a0 a1 a2 w fun r4 r5 w6 => dU (S := Int × Int × Unit) (fun s7 w8 next9 => (bif (decide (s7.2.1 < (r4.len : Int))) then
 dN r4 1 s7.2.1 fun a10 => Ld (.int .u8) w8 a10 fun x11 => 0 <= (8 : Int) ∧
 next9 ((Bj .i64 (yZ .i64 s7.1 8) (IntKind.i64.wrap x11)), (IntKind.i64.wrap (s7.2.1 + 1)), ()) w8
 else
 K s7.1 r5 w8)) (0, 0, ()) w6) := okF cO Tryz.func81 (.seq .leaf (.seq .leaf (.seq .leaf (.seq (.seq .leaf (.blk (.loop [(10, (.int .i64)), (22, (.int .i64))] .leaf))) .leaf)))) (by kernel_rfl)
theorem nS {a0 a1 w K} : aN (gQ a0 a1 w K)
 (let J3 : Bool -> Prop := fun j4 => (K j4 w)
 (bif (!(Option.isNone a0)) then
 (bif (decide (a1 >= 0)) then
 Pt a0 fun a5 => Ld .slice w a5 fun x6 => J3 (decide (a1 < (x6.len : Int)))
 else
 J3 false)
 else
 J3 false)) := okF cO Tryz.func82 .leaf (by kernel_rfl)
theorem AY {a0 w K} : aN (iV a0 w K)
 (Al w (.cells ⟨[(Value.int .i64 0), (Value.int .i64 0), (Value.int .i64 0), (Value.bool false)]⟩ 67) fun a3 w2 => (bif (decide ((a0.len : Int) < 8)) then
 gJ [(Value.int .i64 0), (Value.int .i64 0), (Value.int .i64 0), (Value.bool false)] w2 a3 0 fun w4 => Ld (.int .i64) w4 (a3.add 0) fun y5 => Ld (.int .i64) w4 (a3.add 1) fun y6 => Ld (.int .i64) w4 (a3.add 2) fun y7 => Ld .bool w4 (a3.add 3) fun y8 => K y5 y6 y7 y8 ⟨none, 0, 0⟩ 3 w4
 else
 kN a0 2 2 w2 fun r9 r10 w11 => kN a0 4 4 w11 fun r12 r13 w14 => dN a0 1 0 fun a15 => Ld (.int .u8) w14 a15 fun x16 => Al w14 (.cells ⟨[(Value.int .i64 0), (Value.int .i64 0), (Value.int .i64 0), (Value.bool false)]⟩ 67) fun a18 w17 => gJ [(Value.int .i64 (IntKind.i64.wrap x16)), (Value.int .i64 (Bv .i64 r9 7)), (Value.int .i64 r12), (Value.bool ((nN .i64 r9 1) == 1))] w17 a18 0 fun w19 => Ld (.int .i64) w19.drew (a18.add 0) fun x20 => Ld (.int .i64) w19.drew (a18.add 1) fun x21 => Ld (.int .i64) w19.drew (a18.add 2) fun x22 => Ld .bool w19.drew (a18.add 3) fun x23 => eY a0 1 8 (a0.len : Int) fun s24 => aC s24 w19.drew fun r25 w26 => w26.cell? (a18.add 0) = some (Value.int .i64 x20) ∧
 w26.cell? (a18.add 1) = some (Value.int .i64 x21) ∧
 w26.cell? (a18.add 2) = some (Value.int .i64 x22) ∧
 w26.cell? (a18.add 3) = some (Value.bool x23) ∧
 gJ [(Value.int .i64 x20), (Value.int .i64 x21), (Value.int .i64 x22), (Value.bool x23)] w26 a3 0 fun w27 => Ld (.int .i64) w27 (a3.add 0) fun y28 => Ld (.int .i64) w27 (a3.add 1) fun y29 => Ld (.int .i64) w27 (a3.add 2) fun y30 => Ld .bool w27 (a3.add 3) fun y31 => K y28 y29 y30 y31 r25 0 w27)) := okF cO Tryz.func86 .leaf (by kernel_rfl)
theorem vK {a0 w K} : aN (d_ a0 w K)
 (let J2 : Bool -> Prop := fun j3 => (K j3 w)
 (bif (!(Option.isNone a0)) then
 Pt a0 fun a4 => Ld .map w a4 fun x5 => J2 (!(Option.isNone x5))
 else
 J2 false)) := okF cO Tryz.func87 .leaf (by kernel_rfl)
theorem wZ {a0 a1 a2 w K} : aN (fE a0 a1 a2 w K)
 (Pt a0 fun a4 => Ld .map w a4 fun x5 => yV Tryz.prog 9 x5 (Value.string a1) (Value.pointer none) w fun v6 b7 => ∃ r8 : Option Addr, v6 = (Value.pointer r8) ∧
 (bif b7 then
 K r8 0 w
 else
 Pt a0 fun a9 => Ld .map w.drew a9 fun x10 => Pt a0 fun a11 => Ld (.int .i64) w.drew (a11.add 1) fun x12 => HY w.drew x10 fun n13 => w.drew.cell? (a11.add 1) = some (Value.int .i64 x12) ∧
 (bif (decide (n13 >= x12)) then
 K none 7 w.drew
 else
 ny  w.drew fun r14 w15 => Al w15 (.cells ⟨[(Value.pointer r14), (Value.int .i64 (if (1099511627776 : Int) < (if (0 : Int) > a2 then 0 else a2) then 1099511627776 else (if (0 : Int) > a2 then 0 else a2))), (Value.string (bs [])), (Value.bool false)]⟩ 157) fun a17 w16 => K (some a17) 0 w16))) := okF cO Tryz.func88 .leaf (by kernel_rfl)
theorem vP {a0 a1 a2 w K} : aN (eX a0 a1 a2 w K)
 (let J4 : Bool -> World -> Prop := fun j5 w6 => ((bif j5 then
 K 0 w6
 else
 K (a2.len : Int) w6))
 bK a0 w fun r7 w8 => (bif (!r7) then
 J4 true w8
 else
 dH a0 a1 true a2 w8 fun r9 w10 => (bif r9 then
 J4 true w10
 else
 dH a0 a1 false a2 w10 fun r11 w12 => J4 r11 w12))) := okF cO Tryz.func89 .leaf (by kernel_rfl)
theorem zi {a0 w K} : aN (gY a0 w K)
 (Pt a0 fun a2 => Ld .map w a2 fun x3 => LY x3 w fun a4 w5 => dU (S := Int × Unit) (fun s6 w7 next8 => a4 = ⟨a4.block, 0, none⟩ ∧
 Ti a4.block w7 (fun w9 => K s6.1 w9) (fun k11 v12 w10 => a4 = ⟨a4.block, 0, none⟩ ∧
 MC a4.block w10 fun k13 v14 => Kind.dec .ptr v14 fun x15 => Pt x15 fun a16 => Ld .ptr w10 a16 fun x17 => dW x17 w10 fun r18 w19 => next8 ((IntKind.i64.wrap (s6.1 + r18)), ()) w19)) (0, ()) w5) := okF cO Tryz.func90 (.seq .leaf (.seq .leaf (.seq (.seq .leaf (.blk (.loop [(3, (.int .i64))] .leaf))) .leaf))) (by kernel_rfl)
theorem wO {a0 a1 a2 a3 w K} : aN (fU a0 a1 a2 a3 w K)
 (bK a0 w fun r5 w6 => (bif (!r5) then
 K 2 w6
 else
 Al w6 (.cells ⟨[(Value.int .i64 0), (Value.bool false), (Value.slice none 0 0)]⟩ 176) fun a8 w7 => gJ [(Value.int .i64 a1), (Value.bool a2), (Value.slice a3.a a3.len a3.cap)] w7 a8 0 fun w9 => Ld (.int .i64) w9 (a8.add 0) fun x10 => Ld .bool w9 (a8.add 1) fun x11 => Ld .slice w9 (a8.add 2) fun x12 => mX x10 x11 x12 w9 fun r13 w14 => (bif (r13 != 0) then
 K r13 w14
 else
 Ld (.int .i64) w14 (a8.add 0) fun x15 => Ld .bool w14 (a8.add 1) fun x16 => Ld .slice w14 (a8.add 2) fun x17 => dH a0 x15 x16 x17 w14 fun r18 w19 => (bif r18 then
 K 0 w19
 else
 Ld (.int .i64) w19 (a8.add 0) fun x20 => Ld .bool w19 (a8.add 1) fun x21 => Ld .slice w19 (a8.add 2) fun x22 => dV a0 x20 x21 x22 w19 fun r23 w24 => (bif r23 then
 K 9 w24
 else
 Ld (.int .i64) w24 (a8.add 0) fun x25 => Ld .bool w24 (a8.add 1) fun x26 => Ld .slice w24 (a8.add 2) fun x27 => eG a0 x25 x26 x27 w24 fun r28 w29 => (bif (!r28) then
 K 4 w29
 else
 aC a3 w29 fun r30 w31 => St w31 (a8.add 2) (Value.slice r30.a r30.len r30.cap) fun w32 => Pt a0 fun a33 => Ld .slice w32.drew a33 fun x34 => Ld (.int .i64) w32.drew (a8.add 0) fun x35 => Ld .bool w32.drew (a8.add 1) fun x36 => Ld .slice w32.drew (a8.add 2) fun x37 => aF x34 x35 x36 x37 (Value.func (.func 121) #[] #[]) w32.drew fun r38 r39 w40 => Pt a0 fun a41 => Ld .slice w40.drew a41 fun x42 => Ld (.int .i64) w40.drew (a8.add 0) fun x43 => Ld .bool w40.drew (a8.add 1) fun x44 => Ld .slice w40.drew (a8.add 2) fun x45 => Al w40.drew (.cells ⟨[(Value.int .i64 x43), (Value.bool x44), (Value.slice x45.a x45.len x45.cap)]⟩ 176) fun a47 w46 => w46.cell? a41 = some (Value.slice x42.a x42.len x42.cap) ∧
 aX x42 r38 ⟨(some a47), 1, 1⟩ w46 fun r48 w49 => Pt a0 fun a50 => St w49 a50 (Value.slice r48.a r48.len r48.cap) fun w51 => Pt a0 fun a52 => Ld (.int .i64) w51 (a52.add 1) fun x53 => Pt a0 fun a54 => St w51 (a54.add 1) (Value.int .i64 (IntKind.i64.wrap (x53 + (a3.len : Int)))) fun w55 => let J56 : World -> Prop := fun w57 => (K 0 w57)
 (bif (!a2) then
 Ld (.int .i64) w55 (a8.add 0) fun x58 => Ld .bool w55 (a8.add 1) fun x59 => Ld .slice w55 (a8.add 2) fun x60 => bg x58 x59 x60 w55 fun r61 w62 => Pt a0 fun a63 => St w62 (a63.add 2) (Value.int .i64 r61) fun w64 => J56 w64
 else
 J56 w55))))))) := okF cO Tryz.func91 .leaf (by kernel_rfl)
theorem vI {a0 w K} : aN (eH a0 w K)
 (Al w (.cells ⟨[(Value.slice none 0 0)]⟩ 22) fun a3 w2 => Al w2 (.cells ⟨[(Value.bool false)]⟩ 4) fun a5 w4 => let J6 : Bool -> World -> Prop := fun j7 w8 => ((bif j7 then
 St w8 a3 (Value.slice none 0 0) fun w9 => St w9 a5 (Value.bool false) fun w10 => Ld .slice w10 a3 fun y11 => Ld .bool w10 a5 fun y12 => K y11 y12 w10
 else
 eF a0 w8 fun r13 w14 => Gy Tryz.prog none [.one (.int .i64), .one (.int .i64)] r13 w14 (fun l15 x16 W17 Kb18 => W17.heap[l15]? = W17.heap[l15]? ∧
 St (aZ W17 l15) a3 (Value.slice none 0 0) fun w19 => St w19 a5 (Value.bool false) fun w20 => Kb18 .ret w20)
 (fun w21 => Pt a0 fun a22 => Ld (.int .i64) w21 (a22.add 1) fun x23 => QC 5 1 1 [(Value.int .u8 0)] 0 x23 w21 fun s24 w25 => Pt a0 fun a26 => Ld .slice w25 a26 fun x27 => dU (S := ah × Int × Unit) (fun s28 w29 next30 => (bif (decide (s28.2.1 < (x27.len : Int))) then
 dN x27 3 s28.2.1 fun a31 => Ld (.int .i64) w29 (a31.add 0) fun x32 => Ld .bool w29 (a31.add 1) fun x33 => Ld .slice w29 (a31.add 2) fun x34 => Al w29 (.cells ⟨[(Value.int .i64 0), (Value.bool false), (Value.slice none 0 0)]⟩ 176) fun a36 w35 => gJ [(Value.int .i64 x32), (Value.bool x33), (Value.slice x34.a x34.len x34.cap)] w35 a36 0 fun w37 => Ld .slice w37 (a36.add 2) fun x38 => gI 5 1 1 [(Value.int .u8 0)] s28.1 x38 w37 fun s39 w40 => next30 (s39, (IntKind.i64.wrap (s28.2.1 + 1)), ()) w40
 else
 St w29 a3 (Value.slice s28.1.a s28.1.len s28.1.cap) fun w41 => St w41 a5 (Value.bool true) fun w42 => w42.heap[w14.heap.size]? = some (.deferred (some [])) ∧
 Ld .slice (w42.putObj w14.heap.size (.deferred none)) a3 fun y43 => Ld .bool (w42.putObj w14.heap.size (.deferred none)) a5 fun y44 => K y43 y44 (w42.putObj w14.heap.size (.deferred none)))) (s24, 0, ()) w25)
 (fun w45 => w45.heap[w14.heap.size]? = some (.deferred (some [])) ∧
 Ld .slice (w45.putObj w14.heap.size (.deferred none)) a3 fun y46 => Ld .bool (w45.putObj w14.heap.size (.deferred none)) a5 fun y47 => K y46 y47 (w45.putObj w14.heap.size (.deferred none)))
 []))
 bK a0 w4 fun r48 w49 => (bif (!r48) then
 J6 true w49
 else
 Pt a0 fun a50 => Ld (.int .i64) w49 (a50.add 2) fun x51 => J6 (decide (x51 < 0)) w49)) := okF cO Tryz.func92 (.seq .leaf (.seq .leaf (.seq (.seq .leaf (.blk (.rng [.one (.int .i64), .one (.int .i64)] .leaf .leaf))) (.seq .leaf (.seq (.seq .leaf (.blk (.loop [(4, .slice), (31, (.int .i64))] .leaf))) .leaf))))) (by kernel_rfl)
theorem pV {a0 w K} : aN (bP a0 w K)
 (dU (S := Int × Int × Unit) (fun s2 w3 next4 => (bif (decide (s2.2.1 < (a0.len : Int))) then
 dN a0 1 s2.2.1 fun a5 => Ld .slice w3 a5 fun x6 => (bif (decide ((IntKind.i64.wrap (s2.1 + (x6.len : Int))) < 0)) then
 False
 else
 next4 ((IntKind.i64.wrap (s2.1 + (x6.len : Int))), (IntKind.i64.wrap (s2.2.1 + 1)), ()) w3)
 else
 dA ⟨none, 0, 0⟩ s2.1 w3 fun r7 w8 => dU (S := ah × Int × Unit) (fun s9 w10 next11 => (bif (decide (s9.2.1 < (a0.len : Int))) then
 dN a0 1 s9.2.1 fun a12 => Ld .slice w10 a12 fun x13 => gI 5 1 1 [(Value.int .u8 0)] s9.1 x13 w10 fun s14 w15 => next11 (s14, (IntKind.i64.wrap (s9.2.1 + 1)), ()) w15
 else
 K s9.1 w10)) (r7, 0, ()) w8)) (0, 0, ()) w) := okF cO Tryz.func93 (.seq .leaf (.seq .leaf (.seq (.seq .leaf (.blk (.loop [(3, (.int .i64)), (11, (.int .i64))] .leaf))) (.seq .leaf (.seq (.seq .leaf (.blk (.loop [(6, .slice), (27, (.int .i64))] .leaf))) .leaf))))) (by kernel_rfl)
theorem zC {A0 A1 A2 a1 a2 w K} : aN (aB A0 A1 A2 a1 a2 w K)
 (Al w (.cells ⟨[(Value.slice A0.a A0.len A0.cap), (Value.int .i64 A1), (Value.int .i64 A2)]⟩ 120) fun a5 w4 => Ld .slice w4 a5 fun x6 => kN x6 a1 a2 w4 fun r7 r8 w9 => K r7 w9) := okF cO Tryz.func94 .leaf (by kernel_rfl)
theorem Nw {a0 w K} : aN (oL a0 w K)
 (mW a0 w fun r2 w3 => oZ r2 w3 fun r4 w5 => K r4 w5) := okF cO Tryz.func95 .leaf (by kernel_rfl)
theorem Qm {a0 w K} : aN (jM a0 w K)
 (iR a0 false w fun r2 w3 => K (!r2) w3) := okF cO Tryz.func96 .leaf (by kernel_rfl)
theorem MQ {A0 A1 A2 A3 A4 A5 A6 A7 A8 A9 A10 w K} : aN (lT A0 A1 A2 A3 A4 A5 A6 A7 A8 A9 A10 w K)
 (Al w (.cells ⟨(aO A0 A1 A2 A3 A4 A5 A6 A7 A8 A9 A10)⟩ 58) fun a3 w2 => bZ w2.drew a3 fun x4 x5 x6 x7 x8 x9 x10 x11 x12 x13 x14 => Ld .slice w2.drew (a3.add 10) fun x15 => oK x4 x5 x6 x7 x8 x9 x10 x11 x12 x13 x14 w2.drew fun r16 w17 => w17.cell? (a3.add 10) = some (Value.slice x15.a x15.len x15.cap) ∧
 K (IntKind.i64.wrap (r16 + (x15.len : Int))) w17) := okF cO Tryz.func97 .leaf (by kernel_rfl)
theorem yU {A0 A1 a1 w K} : aN (g_ A0 A1 a1 w K)
 (Al w (.cells ⟨[(Value.int .i64 A0), (Value.int .i64 A1)]⟩ 128) fun a4 w3 => Ld (.int .i64) w3 (a4.add 1) fun x5 => let J6 : Bool -> World -> Prop := fun j7 w8 => (K j7 w8)
 fH a1 w3.drew fun r9 w10 => (bif r9 then
 0 <= (IntKind.i64.wrap (32 - x5)) ∧
 Ld (.int .i64) w10 a4 fun x11 => 0 <= (IntKind.i64.wrap (32 - x5)) ∧
 J6 ((lu .i64 a1 (IntKind.i64.wrap (32 - x5))) == (lu .i64 x11 (IntKind.i64.wrap (32 - x5)))) w10
 else
 J6 false w10)) := okF cO Tryz.func98 .leaf (by kernel_rfl)
theorem H6 {a0 w K} : aN (nR a0 w K)
 (Al w (.cells ⟨(aO 0 0 0 0 0 0 0 false false ⟨none, 0, 0⟩ ⟨none, 0, 0⟩)⟩ 58) fun a3 w2 => ng a0 w2 fun r4 r5 r6 r7 r8 r9 r10 r11 r12 r13 r14 r15 w16 => Al w16 (.cells ⟨(aO 0 0 0 0 0 0 0 false false ⟨none, 0, 0⟩ ⟨none, 0, 0⟩)⟩ 58) fun a18 w17 => gJ (aO r4 r5 r6 r7 r8 r9 r10 r11 r12 r13 r14) w17 a18 0 fun w19 => let J20 : Bool -> Prop := fun j21 => ((bif j21 then
 gJ (aO 0 0 0 0 0 0 0 false false ⟨none, 0, 0⟩ ⟨none, 0, 0⟩) w19 a3 0 fun w22 => bZ w22 a3 fun y23 y24 y25 y26 y27 y28 y29 y30 y31 y32 y33 => K y23 y24 y25 y26 y27 y28 y29 y30 y31 y32 y33 false w22
 else
 let J34 : Bool -> World -> Prop := fun j35 w36 => ((bif j35 then
 gJ (aO 0 0 0 0 0 0 0 false false ⟨none, 0, 0⟩ ⟨none, 0, 0⟩) w36 a3 0 fun w37 => bZ w37 a3 fun y38 y39 y40 y41 y42 y43 y44 y45 y46 y47 y48 => K y38 y39 y40 y41 y42 y43 y44 y45 y46 y47 y48 false w37
 else
 bZ w36.drew a18 fun x49 x50 x51 x52 x53 x54 x55 x56 x57 x58 x59 => bZ w36.drew a18 fun x60 x61 x62 x63 x64 x65 x66 x67 x68 x69 x70 => kT x60 x61 x62 x63 x64 x65 x66 x67 x68 x69 x70 w36.drew fun r71 w72 => Dq (aO x49 x50 x51 x52 x53 x54 x55 x56 x57 x58 x59) w72 a18 0 (
 gJ (aO x49 x50 x51 x52 x53 x54 x55 x56 x57 x58 x59) w72 a3 0 fun w73 => bZ w73 a3 fun y74 y75 y76 y77 y78 y79 y80 y81 y82 y83 y84 => K y74 y75 y76 y77 y78 y79 y80 y81 y82 y83 y84 r71 w73)))
 Ld (.int .i64) w19 (a18.add 5) fun x85 => jd x85 w19 fun r86 w87 => (bif (!r86) then
 J34 (!r86) w87
 else
 Ld (.int .i64) w87 (a18.add 6) fun x88 => jd x88 w87 fun r89 w90 => J34 (!r89) w90)))
 (bif (r15 != 0) then
 J20 (r15 != 0)
 else
 Ld (.int .i64) w19 (a18.add 2) fun x91 => J20 (decide (x91 > 0)))) := okF cO Tryz.func99 .leaf (by kernel_rfl)
theorem Et {a0 B0 B1 B2 B3 B4 B5 B6 B7 B8 B9 B10 w K} : aN (kU a0 B0 B1 B2 B3 B4 B5 B6 B7 B8 B9 B10 w K)
 (Al w (.cells ⟨(aO B0 B1 B2 B3 B4 B5 B6 B7 B8 B9 B10)⟩ 58) fun a4 w3 => bZ w3 a4 fun x5 x6 x7 x8 x9 x10 x11 x12 x13 x14 x15 => lT x5 x6 x7 x8 x9 x10 x11 x12 x13 x14 x15 w3 fun r16 w17 => eY a0 1 0 (if (548 : Int) < r16 then 548 else r16) fun s18 => aC s18 w17 fun r19 w20 => K r19 w20) := okF cO Tryz.func100 .leaf (by kernel_rfl)
theorem EZ {A0 A1 A2 A3 w K} : aN (kR A0 A1 A2 A3 w K)
 (Al w (.cells ⟨[(Value.int .i64 A0), (Value.int .i64 A1), (Value.int .i64 A2), (Value.slice A3.a A3.len A3.cap)]⟩ 105) fun a3 w2 => Ld (.int .i64) w2 (a3.add 0) fun x4 => Ld (.int .i64) w2 (a3.add 1) fun x5 => Ld (.int .i64) w2 (a3.add 2) fun x6 => Ld .slice w2 (a3.add 3) fun x7 => kE x4 x5 x6 x7 w2 fun r8 w9 => (bif (r8 != 0) then
 K ⟨none, 0, 0⟩ r8 w9
 else
 Ld (.int .i64) w9 a3 fun x10 => Ld (.int .i64) w9 (a3.add 1) fun x11 => Al w9 (.cells ⟨[(Value.int .u8 (IntKind.u8.wrap x10)), (Value.int .u8 (IntKind.u8.wrap x11)), (Value.int .u8 0), (Value.int .u8 0)]⟩ 5) fun a13 w12 => Ld (.int .i64) w12 (a3.add 2) fun x14 => iY ⟨(some a13), 4, 4⟩ x14 4 w12 fun r15 w16 => Ld .slice w16 (a3.add 3) fun x17 => gI 5 1 1 [(Value.int .u8 0)] r15 x17 w16 fun s18 w19 => Al w19 (.cells ⟨[(Value.slice s18.a s18.len s18.cap)]⟩ 22) fun a21 w20 => qQ ⟨(some a21), 1, 1⟩ w20 fun r22 w23 => qL s18 2 r22 2 w23 fun r24 r25 w26 => K r24 r25 w26)) := okF cO Tryz.func101 .leaf (by kernel_rfl)
theorem NC {A0 A1 A2 A3 A4 A5 A6 A7 A8 A9 A10 w K} : aN (oK A0 A1 A2 A3 A4 A5 A6 A7 A8 A9 A10 w K)
 (Al w (.cells ⟨(aO A0 A1 A2 A3 A4 A5 A6 A7 A8 A9 A10)⟩ 58) fun a3 w2 => Ld .slice w2 (a3.add 9) fun x4 => K (IntKind.i64.wrap (20 + (x4.len : Int))) w2) := okF cO Tryz.func102 .leaf (by kernel_rfl)
theorem Ju {A0 A1 A2 A3 A4 A5 A6 A7 A8 A9 A10 w K} : aN (oO A0 A1 A2 A3 A4 A5 A6 A7 A8 A9 A10 w K)
 (Al w (.cells ⟨(aO A0 A1 A2 A3 A4 A5 A6 A7 A8 A9 A10)⟩ 58) fun a3 w2 => Ld (.int .i64) w2 (a3.add 2) fun x4 => (8 : Int) ≠ 0 ∧
 let J5 : Int -> Prop := fun j6 => (let J7 : Int -> Prop := fun j8 => (K j8 w2)
 Ld .bool w2 (a3.add 8) fun x9 => (bif x9 then
 J7 (Bj .i64 j6 8192)
 else
 J7 j6))
 Ld .bool w2 (a3.add 7) fun x10 => (bif x10 then
 J5 (Bj .i64 (IntKind.i64.wrap (Int.tdiv x4 8)) 16384)
 else
 J5 (IntKind.i64.wrap (Int.tdiv x4 8)))) := okF cO Tryz.func103 .leaf (by kernel_rfl)
theorem Ho {a0 a1 a2 w K} : aN (jZ a0 a1 a2 w K)
 (let J4 : Bool -> World -> Prop := fun j5 w6 => ((bif j5 then
 K ⟨none, 0, 0⟩ 1 w6
 else
 let J7 : Bool -> Prop := fun j8 => ((bif j8 then
 K ⟨none, 0, 0⟩ 3 w6
 else
 CV a0 1 a1 (IntKind.i64.wrap (a1 + a2)) (IntKind.i64.wrap (a1 + a2)) fun s9 => K s9 0 w6))
 (bif (decide ((a0.len : Int) < a2)) then
 J7 true
 else
 J7 (decide (a1 > (IntKind.i64.wrap ((a0.len : Int) - a2)))))))
 lQ a2 w fun r10 w11 => (bif (!r10) then
 J4 true w11
 else
 J4 (decide (a1 < 0)) w11)) := okF cO Tryz.func104 .leaf (by kernel_rfl)
theorem rH {a0 w K} : aN (dM a0 w K)
 (bH ⟨none, 0, 0⟩ a0 w fun r2 w3 => K r2 w3) := okF cO Tryz.func105 .leaf (by kernel_rfl)
theorem E8 {a0 a1 w K} : aN (kH a0 a1 w K)
 ((bif (decide ((IntKind.i64.wrap (a1 + 1)) < (a0.len : Int))) then
 dN a0 1 a1 fun a3 => Ld (.int .u8) w.drew a3 fun x4 => dN a0 1 (IntKind.i64.wrap (a1 + 1)) fun a5 => Ld (.int .u8) w.drew a5 fun x6 => K (IntKind.i64.wrap ((IntKind.i64.wrap ((IntKind.i64.wrap x4) * 256)) + (IntKind.i64.wrap x6))) w.drew
 else
 dN a0 1 a1 fun a7 => Ld (.int .u8) w a7 fun x8 => K (IntKind.i64.wrap ((IntKind.i64.wrap x8) * 256)) w)) := okF cO Tryz.func106 .leaf (by kernel_rfl)
theorem Fa {a0 w K} : aN (kY a0 w K)
 ((bif (decide (a0 < 0)) then
 K 0 w
 else
 dU (S := Int × Unit) (fun s2 w3 next4 => (bif (decide (s2.1 > 65535)) then
 (65536 : Int) ≠ 0 ∧
 (65536 : Int) ≠ 0 ∧
 next4 ((IntKind.i64.wrap ((Int.tmod s2.1 65536) + (IntKind.i64.wrap (Int.tdiv s2.1 65536)))), ()) w3
 else
 K s2.1 w3)) (a0, ()) w)) := okF cO Tryz.func107 (.seq .leaf (.seq .leaf (.seq (.blk (.loop [(0, (.int .i64))] .leaf)) .leaf))) (by kernel_rfl)
theorem Di {a0 f0 f1 w K} : aN (Eu a0 f0 f1 w K)
 (Ld (.int .i64) w f0 fun x2 => dU (S := Int × Unit) (fun s3 w4 next5 => (bif (decide (s3.1 >= 0)) then
 Ld (.int .i64) w4 f1 fun x6 => 0 <= (IntKind.i64.wrap (8 * s3.1)) ∧
 iC Tryz.prog [.one .bool] a0 [(Value.int .u8 (IntKind.u8.wrap (lu .i64 x6 (IntKind.i64.wrap (8 * s3.1)))))] w4 fun r7 w8 => ∃ r9 : Bool, r7 = (Value.bool r9) ∧
 (bif (!r9) then
 K w8
 else
 next5 ((IntKind.i64.wrap (s3.1 - 1)), ()) w8)
 else
 K w4)) ((IntKind.i64.wrap (x2 - 1)), ()) w) := okF cO Tryz.func108 (.seq .leaf (.blk (.loop [(4, (.int .i64))] .leaf))) (by kernel_rfl)
theorem I_ {a0 w K} : aN (ng a0 w K)
 (Al w (.cells ⟨(aO 0 0 0 0 0 0 0 false false ⟨none, 0, 0⟩ ⟨none, 0, 0⟩)⟩ 58) fun a3 w2 => oM a0 true w2 fun r4 r5 r6 r7 w8 => Al w8 (.cells ⟨[(Value.slice none 0 0), (Value.int .i64 0), (Value.int .i64 0)]⟩ 120) fun a10 w9 => gJ [(Value.slice r4.a r4.len r4.cap), (Value.int .i64 r5), (Value.int .i64 r6)] w9 a10 0 fun w11 => (bif (r7 != 0) then
 gJ (aO 0 0 0 0 0 0 0 false false ⟨none, 0, 0⟩ ⟨none, 0, 0⟩) w11 a3 0 fun w12 => bZ w12 a3 fun y13 y14 y15 y16 y17 y18 y19 y20 y21 y22 y23 => K y13 y14 y15 y16 y17 y18 y19 y20 y21 y22 y23 r7 w12
 else
 Ld .slice w11 (a10.add 0) fun x24 => Ld (.int .i64) w11 (a10.add 1) fun x25 => Ld (.int .i64) w11 (a10.add 2) fun x26 => dP x24 x25 x26 w11 fun r27 r28 r29 r30 r31 r32 r33 r34 r35 r36 r37 w38 => gJ (aO r27 r28 r29 r30 r31 r32 r33 r34 r35 r36 r37) w38 a3 0 fun w39 => bZ w39 a3 fun y40 y41 y42 y43 y44 y45 y46 y47 y48 y49 y50 => K y40 y41 y42 y43 y44 y45 y46 y47 y48 y49 y50 0 w39)) := okF cO Tryz.func112 .leaf (by kernel_rfl)
theorem Hy { w K} : aN (ny  w K)
 (Al w (.cells ⟨[(Value.slice none 0 0), (Value.int .i64 0), (Value.int .i64 (-1)), (Value.bool true)]⟩ 182) fun a2 w1 => K (some a2) w1) := okF cO Tryz.func113 .leaf (by kernel_rfl)
theorem tC {a0 w K} : aN (bK a0 w K)
 (let J2 : Bool -> Prop := fun j3 => (K j3 w)
 (bif (!(Option.isNone a0)) then
 Pt a0 fun a4 => Ld .bool w (a4.add 3) fun x5 => J2 x5
 else
 J2 false)) := okF cO Tryz.func114 .leaf (by kernel_rfl)
theorem wP {a0 B0 B1 B2 w K} : aN (dH a0 B0 B1 B2 w K)
 (Al w (.cells ⟨[(Value.int .i64 B0), (Value.bool B1), (Value.slice B2.a B2.len B2.cap)]⟩ 176) fun a4 w3 => Pt a0 fun a5 => Ld .slice w3.drew a5 fun x6 => Ld (.int .i64) w3.drew (a4.add 0) fun x7 => Ld .bool w3.drew (a4.add 1) fun x8 => Ld .slice w3.drew (a4.add 2) fun x9 => aQ x6 (Value.func (.func 133) #[(Value.agg ⟨[(Value.int .i64 x7), (Value.bool x8), (Value.slice x9.a x9.len x9.cap)]⟩)] #[]) w3.drew fun r10 w11 => K r10 w11) := okF cO Tryz.func115 .leaf (by kernel_rfl)
theorem tX {a0 w K} : aN (dW a0 w K)
 (bK a0 w fun r2 w3 => (bif (!r2) then
 K 0 w3
 else
 Pt a0 fun a4 => Ld (.int .i64) w3 (a4.add 1) fun x5 => K x5 w3)) := okF cO Tryz.func116 .leaf (by kernel_rfl)
theorem Hz {A0 A1 A2 w K} : aN (mX A0 A1 A2 w K)
 (Al w (.cells ⟨[(Value.int .i64 A0), (Value.bool A1), (Value.slice A2.a A2.len A2.cap)]⟩ 176) fun a3 w2 => let J4 : Bool -> Prop := fun j5 => ((bif j5 then
 K 4 w2
 else
 Ld (.int .i64) w2 a3 fun x6 => Ld .slice w2 (a3.add 2) fun x7 => (bif (decide (x6 > (IntKind.i64.wrap (65535 - (x7.len : Int))))) then
 K 6 w2
 else
 K 0 w2)))
 Ld (.int .i64) w2 a3 fun x8 => (bif (decide (x8 < 0)) then
 J4 (decide (x8 < 0))
 else
 Ld .bool w2 (a3.add 1) fun x9 => (bif x9 then
 Ld .slice w2 (a3.add 2) fun x10 => (bif ((x10.len : Int) == 0) then
 J4 true
 else
 Ld .slice w2 (a3.add 2) fun x11 => (8 : Int) ≠ 0 ∧
 J4 ((Int.tmod (x11.len : Int) 8) != 0))
 else
 J4 false))) := okF cO Tryz.func117 .leaf (by kernel_rfl)
theorem tZ {a0 B0 B1 B2 w K} : aN (dV a0 B0 B1 B2 w K)
 (Al w (.cells ⟨[(Value.int .i64 B0), (Value.bool B1), (Value.slice B2.a B2.len B2.cap)]⟩ 176) fun a4 w3 => Pt a0 fun a5 => Ld .slice w3 a5 fun x6 => dU (S := Int × Unit) (fun s7 w8 next9 => (bif (decide (s7.1 < (x6.len : Int))) then
 let J10 : World -> Prop := fun w11 => (next9 ((IntKind.i64.wrap (s7.1 + 1)), ()) w11)
 dN x6 3 s7.1 fun a12 => Ld (.int .i64) w8 (a12.add 0) fun x13 => Ld .bool w8 (a12.add 1) fun x14 => Ld .slice w8 (a12.add 2) fun x15 => Al w8 (.cells ⟨[(Value.int .i64 0), (Value.bool false), (Value.slice none 0 0)]⟩ 176) fun a17 w16 => gJ [(Value.int .i64 x13), (Value.bool x14), (Value.slice x15.a x15.len x15.cap)] w16 a17 0 fun w18 => let J19 : Bool -> Prop := fun j20 => (let J21 : Bool -> Prop := fun j22 => ((bif j22 then
 K true w18
 else
 let J23 : Bool -> Prop := fun j24 => ((bif j24 then
 J10 w18
 else
 let J25 : Bool -> World -> Prop := fun j26 w27 => ((bif j26 then
 K true w27
 else
 J10 w27))
 Ld (.int .i64) w18.drew a17 fun x28 => Ld (.int .i64) w18.drew (a4.add 0) fun x29 => Ld .bool w18.drew (a4.add 1) fun x30 => Ld .slice w18.drew (a4.add 2) fun x31 => bg x29 x30 x31 w18.drew fun r32 w33 => w33.cell? a17 = some (Value.int .i64 x28) ∧
 (bif (decide (x28 < r32)) then
 Ld (.int .i64) w33 a4 fun x34 => Ld (.int .i64) w33 (a17.add 0) fun x35 => Ld .bool w33 (a17.add 1) fun x36 => Ld .slice w33 (a17.add 2) fun x37 => bg x35 x36 x37 w33 fun r38 w39 => w39.cell? a4 = some (Value.int .i64 x34) ∧
 J25 (decide (x34 < r38)) w39
 else
 J25 false w33)))
 Ld .slice w18 (a4.add 2) fun x40 => (bif ((x40.len : Int) == 0) then
 J23 true
 else
 Ld .slice w18 (a17.add 2) fun x41 => J23 ((x41.len : Int) == 0))))
 (bif j20 then
 Ld (.int .i64) w18 a4 fun x42 => Ld (.int .i64) w18 a17 fun x43 => J21 (x42 == x43)
 else
 J21 false))
 Ld .slice w18 (a4.add 2) fun x44 => (bif ((x44.len : Int) == 0) then
 Ld .slice w18 (a17.add 2) fun x45 => J19 ((x45.len : Int) == 0)
 else
 J19 false)
 else
 K false w8)) (0, ()) w3) := okF cO Tryz.func118 (.seq .leaf (.seq (.seq .leaf (.blk (.loop [(13, (.int .i64))] .leaf))) .leaf)) (by kernel_rfl)
theorem vT {a0 B0 B1 B2 w K} : aN (eG a0 B0 B1 B2 w K)
 (Al w (.cells ⟨[(Value.int .i64 B0), (Value.bool B1), (Value.slice B2.a B2.len B2.cap)]⟩ 176) fun a4 w3 => Ld .bool w3 (a4.add 1) fun x5 => (bif x5 then
 let J6 : Bool -> World -> Prop := fun j7 w8 => (K j7 w8)
 Pt a0 fun a9 => Ld (.int .i64) w3.drew (a9.add 2) fun x10 => (bif (decide (x10 < 0)) then
 J6 true w3.drew
 else
 Ld (.int .i64) w3.drew (a4.add 0) fun x11 => Ld .bool w3.drew (a4.add 1) fun x12 => Ld .slice w3.drew (a4.add 2) fun x13 => Pt a0 fun a14 => Ld (.int .i64) w3.drew (a14.add 2) fun x15 => bg x11 x12 x13 w3.drew fun r16 w17 => w17.cell? (a14.add 2) = some (Value.int .i64 x15) ∧
 J6 (decide (r16 <= x15)) w17)
 else
 let J18 : Bool -> World -> Prop := fun j19 w20 => (K j19 w20)
 Pt a0 fun a21 => Ld (.int .i64) w3.drew (a21.add 2) fun x22 => (bif (decide (x22 < 0)) then
 Ld (.int .i64) w3.drew (a4.add 0) fun x23 => Ld .bool w3.drew (a4.add 1) fun x24 => Ld .slice w3.drew (a4.add 2) fun x25 => fG a0 w3.drew fun r26 w27 => w27.cell? (a4.add 0) = some (Value.int .i64 x23) ∧
 w27.cell? (a4.add 1) = some (Value.bool x24) ∧
 w27.cell? (a4.add 2) = some (Value.slice x25.a x25.len x25.cap) ∧
 bg x23 x24 x25 w27 fun r28 w29 => J18 (decide (r26 <= r28)) w29
 else
 J18 false w3.drew))) := okF cO Tryz.func119 .leaf (by kernel_rfl)
theorem dI {a0 B0 B1 B2 a2 w K} : aN (aF a0 B0 B1 B2 a2 w K)
 (Al w (.cells ⟨[(Value.int .i64 B0), (Value.bool B1), (Value.slice B2.a B2.len B2.cap)]⟩ 176) fun a5 w4 => dU (S := Int × Int × Unit) (fun s6 w7 next8 => (bif (decide (s6.1 < s6.2.1)) then
 0 <= (1 : Int) ∧
 dN a0 3 (IntKind.i64.wrap (lu .u64 (IntKind.u64.wrap (IntKind.i64.wrap (s6.1 + s6.2.1))) 1)) fun a9 => Ld (.int .i64) w7.drew (a9.add 0) fun x10 => Ld .bool w7.drew (a9.add 1) fun x11 => Ld .slice w7.drew (a9.add 2) fun x12 => Ld (.int .i64) w7.drew (a5.add 0) fun x13 => Ld .bool w7.drew (a5.add 1) fun x14 => Ld .slice w7.drew (a5.add 2) fun x15 => iC Tryz.prog [.one (.int .i64)] a2 [(Value.agg ⟨[(Value.int .i64 x10), (Value.bool x11), (Value.slice x12.a x12.len x12.cap)]⟩), (Value.agg ⟨[(Value.int .i64 x13), (Value.bool x14), (Value.slice x15.a x15.len x15.cap)]⟩)] w7.drew fun r16 w17 => ∃ r18 : Int, r16 = (Value.int .i64 r18) ∧
 (bif (decide (r18 < 0)) then
 next8 ((IntKind.i64.wrap ((IntKind.i64.wrap (lu .u64 (IntKind.u64.wrap (IntKind.i64.wrap (s6.1 + s6.2.1))) 1)) + 1)), s6.2.1, ()) w17
 else
 next8 (s6.1, (IntKind.i64.wrap (lu .u64 (IntKind.u64.wrap (IntKind.i64.wrap (s6.1 + s6.2.1))) 1)), ()) w17)
 else
 let J19 : Int -> Bool -> World -> Prop := fun j20 j21 w22 => (K j20 j21 w22)
 (bif (decide (s6.1 < (a0.len : Int))) then
 dN a0 3 s6.1 fun a23 => Ld (.int .i64) w7.drew (a23.add 0) fun x24 => Ld .bool w7.drew (a23.add 1) fun x25 => Ld .slice w7.drew (a23.add 2) fun x26 => Ld (.int .i64) w7.drew (a5.add 0) fun x27 => Ld .bool w7.drew (a5.add 1) fun x28 => Ld .slice w7.drew (a5.add 2) fun x29 => iC Tryz.prog [.one (.int .i64)] a2 [(Value.agg ⟨[(Value.int .i64 x24), (Value.bool x25), (Value.slice x26.a x26.len x26.cap)]⟩), (Value.agg ⟨[(Value.int .i64 x27), (Value.bool x28), (Value.slice x29.a x29.len x29.cap)]⟩)] w7.drew fun r30 w31 => ∃ r32 : Int, r30 = (Value.int .i64 r32) ∧
 J19 s6.1 (r32 == 0) w31
 else
 J19 s6.1 false w7.drew))) (0, (a0.len : Int), ()) w4) := okF cO Tryz.func120 (.seq .leaf (.seq .leaf (.seq .leaf (.seq (.blk (.loop [(9, (.int .i64)), (10, (.int .i64))] .leaf)) .leaf)))) (by kernel_rfl)
theorem D7 {A0 A1 A2 B0 B1 B2 w K} : aN (wu A0 A1 A2 B0 B1 B2 w K)
 (Al w (.cells ⟨[(Value.int .i64 A0), (Value.bool A1), (Value.slice A2.a A2.len A2.cap)]⟩ 176) fun a4 w3 => Al w3 (.cells ⟨[(Value.int .i64 B0), (Value.bool B1), (Value.slice B2.a B2.len B2.cap)]⟩ 176) fun a6 w5 => Ld (.int .i64) w5.drew a4 fun x7 => Ld (.int .i64) w5.drew a6 fun x8 => Ld .slice w5.drew (a4.add 2) fun x9 => Ld .slice w5.drew (a6.add 2) fun x10 => dR x7 x8 w5.drew fun r11 w12 => w12.cell? (a6.add 2) = some (Value.slice x10.a x10.len x10.cap) ∧
 w12.cell? (a4.add 2) = some (Value.slice x9.a x9.len x9.cap) ∧
 dR (x9.len : Int) (x10.len : Int) w12 fun r13 w14 => Al w14 (.cells ⟨[(Value.int .i64 r11), (Value.int .i64 r13)]⟩ 3) fun a16 w15 => kP ⟨(some a16), 2, 2⟩ w15 fun r17 w18 => K r17 w18) := okF cO Tryz.func121 .leaf (by kernel_rfl)
theorem iP {a0 a1 a2 w K} : aN (aX a0 a1 a2 w K)
 (eY a0 3 a1 (a0.len : Int) fun s4 => (bif ((a2.len : Int) == 0) then
 K a0 w
 else
 (bif (a1 == (a0.len : Int)) then
 gI 176 3 40 [(Value.int .i64 0), (Value.bool false), (Value.slice none 0 0)] a0 a2 w fun s5 w6 => K s5 w6
 else
 (bif (decide ((IntKind.i64.wrap ((a0.len : Int) + (a2.len : Int))) > (a0.cap : Int))) then
 eY a0 3 0 a1 fun s7 => Gw 176 3 40 [(Value.int .i64 0), (Value.bool false), (Value.slice none 0 0)] s7 (IntKind.i64.wrap ((IntKind.i64.wrap ((a0.len : Int) + (a2.len : Int))) - a1)) w fun s8 w9 => eY s8 3 a1 (s8.len : Int) fun s10 => qE 3 s10 a2 w9 fun n11 w12 => eY s8 3 (IntKind.i64.wrap (a1 + (a2.len : Int))) (s8.len : Int) fun s13 => eY a0 3 a1 (a0.len : Int) fun s14 => qE 3 s13 s14 w12.drew fun n15 w16 => K s8 w16
 else
 eY a0 3 0 (IntKind.i64.wrap ((a0.len : Int) + (a2.len : Int))) fun s17 => eY s17 3 (IntKind.i64.wrap (a1 + (a2.len : Int))) (s17.len : Int) fun s18 => U7 Tryz.prog 137 [(Value.slice a2.a a2.len a2.cap), (Value.slice s18.a s18.len s18.cap)] w fun r19 w20 => ∃ r21 : Bool, r19 = (Value.bool r21) ∧
 (bif (!r21) then
 eY s17 3 (IntKind.i64.wrap (a1 + (a2.len : Int))) (s17.len : Int) fun s22 => eY s17 3 a1 (s17.len : Int) fun s23 => qE 3 s22 s23 w20.drew fun n24 w25 => eY s17 3 a1 (s17.len : Int) fun s26 => qE 3 s26 a2 w25 fun n27 w28 => K s17 w28
 else
 eY s17 3 (a0.len : Int) (s17.len : Int) fun s29 => qE 3 s29 a2 w20 fun n30 w31 => eY s17 3 a1 (s17.len : Int) fun s32 => kL s32 (a2.len : Int) w31 fun w33 => K s17 w33))))) := okF cO Tryz.func122 .leaf (by kernel_rfl)
theorem wV {A0 A1 A2 w K} : aN (bg A0 A1 A2 w K)
 (Al w (.cells ⟨[(Value.int .i64 A0), (Value.bool A1), (Value.slice A2.a A2.len A2.cap)]⟩ 176) fun a3 w2 => Ld (.int .i64) w2 a3 fun x4 => Ld .slice w2 (a3.add 2) fun x5 => K (IntKind.i64.wrap (x4 + (x5.len : Int))) w2) := okF cO Tryz.func123 .leaf (by kernel_rfl)
theorem vH {a0 w K} : aN (eF a0 w K)
 (dD (Value.pointer a0) = true ∧
 Al w (.cells ⟨[(Value.pointer a0)]⟩ 155) fun a3 w2 => K (Value.func (.func 139) #[] #[(Value.pointer (some a3))]) w2) := okF cO Tryz.func124 .leaf (by kernel_rfl)
theorem qw {a0 a1 w K} : aN (dA a0 a1 w K)
 ((bif (decide (a1 < 0)) then
 False
 else
 let J3 : ah -> World -> Prop := fun j4 w5 => (K j4 w5)
 (bif (decide ((IntKind.i64.wrap (a1 - (IntKind.i64.wrap ((a0.cap : Int) - (a0.len : Int))))) > 0)) then
 eY a0 1 0 (a0.cap : Int) fun s6 => Gw 5 1 1 [(Value.int .u8 0)] s6 (IntKind.i64.wrap (a1 - (IntKind.i64.wrap ((a0.cap : Int) - (a0.len : Int))))) w fun s7 w8 => eY s7 1 0 (a0.len : Int) fun s9 => J3 s9 w8
 else
 J3 a0 w))) := okF cO Tryz.func125 .leaf (by kernel_rfl)
theorem LC {a0 w K} : aN (oZ a0 w K)
 (dU (S := Int × Unit) (fun s2 w3 next4 => (bif (decide (s2.1 > 65535)) then
 0 <= (16 : Int) ∧
 next4 ((IntKind.i64.wrap ((nN .i64 s2.1 65535) + (lu .i64 s2.1 16))), ()) w3
 else
 K s2.1 w3)) ((if (0 : Int) > a0 then 0 else a0), ()) w) := okF cO Tryz.func126 (.seq .leaf (.seq .leaf (.seq (.blk (.loop [(0, (.int .i64))] .leaf)) .leaf))) (by kernel_rfl)
theorem IE {a0 w K} : aN (mW a0 w K)
 (Al w (.cells ⟨[(Value.int .i64 0)]⟩ 3) fun a3 w2 => St w2 a3 (Value.int .i64 0) fun w4 => dU (S := (Int × Unit) × List Nat) (fun s5 w6 next7 => (bif (decide (s5.1.1 < (a0.len : Int))) then
 dN a0 1 s5.1.1 fun a8 => Ld .slice w6 a8 fun x9 => Dl x9 w6 fun r10 w11 => Gy Tryz.prog none [.one (.int .i64), .one (.int .i64)] r10 w11 (fun l12 x13 W14 Kb15 => W14.heap[l12]? = W14.heap[l12]? ∧
 Ld (.int .i64) (aZ W14 l12) a3 fun x16 => St (aZ W14 l12) a3 (Value.int .i64 (IntKind.i64.wrap (x16 + x13.2.1))) fun w17 => Kb15 .normal w17)
 (fun w18 => next7 (((IntKind.i64.wrap (s5.1.1 + 1)), ()), (w11.heap.size :: s5.2)) w18)
 (fun w19 => tH (w11.heap.size :: s5.2) w19 fun w20 => K 0 w20)
 []
 else
 Ld (.int .i64) w6 a3 fun x21 => tH s5.2 w6 fun w22 => K x21 w22)) ((0, ()), []) w4) := okF cO Tryz.func127 (.seq .leaf (.seq .leaf (.seq (.seq .leaf (.blk (.loop [(10, (.int .i64))] (.seq .leaf (.seq .leaf (.seq (.blk (.seq .leaf (.seq .leaf (.blk (.rng [.one (.int .i64), .one (.int .i64)] .leaf .leaf))))) .leaf)))))) .leaf))) (by kernel_rfl)
theorem nV {a0 a1 w K} : aN (iR a0 a1 w K)
 (jI a0 a1 w fun r3 w4 => K (decide (r3 >= 0)) w4) := okF cO Tryz.func128 .leaf (by kernel_rfl)
theorem EI {A0 A1 A2 A3 A4 A5 A6 A7 A8 A9 A10 w K} : aN (kT A0 A1 A2 A3 A4 A5 A6 A7 A8 A9 A10 w K)
 (Al w (.cells ⟨(aO A0 A1 A2 A3 A4 A5 A6 A7 A8 A9 A10)⟩ 58) fun a3 w2 => Ld (.int .i64) w2 (a3.add 4) fun x4 => (bif (x4 != 1) then
 K true w2
 else
 let J5 : Bool -> World -> Prop := fun j6 w7 => (K j6 w7)
 Ld .slice w2 (a3.add 10) fun x8 => (bif (decide ((x8.len : Int) > 0)) then
 Ld .slice w2 (a3.add 10) fun x9 => dN x9 1 0 fun a10 => Ld (.int .u8) w2 a10 fun x11 => kQ (IntKind.i64.wrap x11) w2 fun r12 w13 => J5 (!r12) w13
 else
 J5 false w2))) := okF cO Tryz.func129 .leaf (by kernel_rfl)
theorem Fb {A0 A1 A2 A3 w K} : aN (kE A0 A1 A2 A3 w K)
 (Al w (.cells ⟨[(Value.int .i64 A0), (Value.int .i64 A1), (Value.int .i64 A2), (Value.slice A3.a A3.len A3.cap)]⟩ 105) fun a3 w2 => let J4 : Bool -> World -> Prop := fun j5 w6 => ((bif j5 then
 K 1 w6
 else
 Ld .slice w6 (a3.add 3) fun x7 => (bif (decide ((x7.len : Int) > 65527)) then
 K 6 w6
 else
 K 0 w6)))
 Ld (.int .i64) w2 a3 fun x8 => bY x8 1 w2 fun r9 w10 => (bif (!r9) then
 J4 true w10
 else
 Ld (.int .i64) w10 (a3.add 1) fun x11 => bY x11 1 w10 fun r12 w13 => (bif (!r12) then
 J4 true w13
 else
 Ld (.int .i64) w13 (a3.add 2) fun x14 => bY x14 4 w13 fun r15 w16 => J4 (!r15) w16))) := okF cO Tryz.func130 .leaf (by kernel_rfl)
theorem gq {a0 a1 w K} : aN (aQ a0 a1 w K)
 (aW a0 a1 w fun r3 w4 => K (decide (r3 >= 0)) w4) := okF cO Tryz.func132 .leaf (by kernel_rfl)
theorem xY {A0 A1 A2 B0 B1 B2 w K} : aN (rC A0 A1 A2 B0 B1 B2 w K)
 (Al w (.cells ⟨[(Value.int .i64 A0), (Value.bool A1), (Value.slice A2.a A2.len A2.cap)]⟩ 176) fun a4 w3 => Al w3 (.cells ⟨[(Value.int .i64 B0), (Value.bool B1), (Value.slice B2.a B2.len B2.cap)]⟩ 176) fun a6 w5 => let J7 : Bool -> World -> Prop := fun j8 w9 => (K j8 w9)
 Ld (.int .i64) w5 a4 fun x10 => Ld (.int .i64) w5 a6 fun x11 => (bif (x10 == x11) then
 Ld .bool w5 (a4.add 1) fun x12 => Ld .bool w5 (a6.add 1) fun x13 => (bif ((x12 : Bool) == x13) then
 Ld .slice w5 (a4.add 2) fun x14 => Ld .slice w5 (a6.add 2) fun x15 => jF x14 x15 w5 fun r16 w17 => J7 r16 w17
 else
 J7 false w5)
 else
 J7 false w5)) := okF cO Tryz.func133 .leaf (by kernel_rfl)
theorem xK {a0 w K} : aN (fG a0 w K)
 (Pt a0 fun a2 => Ld .slice w a2 fun x3 => dU (S := Int × Int × Unit) (fun s4 w5 next6 => (bif (decide (s4.2.1 < (x3.len : Int))) then
 dN x3 3 s4.2.1 fun a7 => Ld (.int .i64) w5 (a7.add 0) fun x8 => Ld .bool w5 (a7.add 1) fun x9 => Ld .slice w5 (a7.add 2) fun x10 => Al w5 (.cells ⟨[(Value.int .i64 0), (Value.bool false), (Value.slice none 0 0)]⟩ 176) fun a12 w11 => gJ [(Value.int .i64 x8), (Value.bool x9), (Value.slice x10.a x10.len x10.cap)] w11 a12 0 fun w13 => Ld (.int .i64) w13 (a12.add 0) fun x14 => Ld .bool w13 (a12.add 1) fun x15 => Ld .slice w13 (a12.add 2) fun x16 => bg x14 x15 x16 w13 fun r17 w18 => next6 ((if r17 > s4.1 then r17 else s4.1), (IntKind.i64.wrap (s4.2.1 + 1)), ()) w18
 else
 K s4.1 w5)) (0, 0, ()) w) := okF cO Tryz.func134 (.seq .leaf (.seq .leaf (.seq (.seq .leaf (.blk (.loop [(3, (.int .i64)), (11, (.int .i64))] .leaf))) .leaf))) (by kernel_rfl)
theorem Ey {a0 w K} : aN (kP a0 w K)
 (dU (S := Int × Unit) (fun s2 w3 next4 => (bif (decide (s2.1 < (a0.len : Int))) then
 dN a0 1 s2.1 fun a5 => Ld (.int .i64) w3 a5 fun x6 => (bif (x6 != 0) then
 K x6 w3
 else
 next4 ((IntKind.i64.wrap (s2.1 + 1)), ()) w3)
 else
 K 0 w3)) (0, ()) w) := okF cO Tryz.func135 (.seq .leaf (.seq .leaf (.seq (.seq .leaf (.blk (.loop [(8, (.int .i64))] .leaf))) .leaf))) (by kernel_rfl)
theorem wQ {a0 a1 w K} : aN (dR a0 a1 w K)
 (fC a0 w fun r3 w4 => fC a1 w4 fun r5 w6 => (bif r3 then
 (bif r5 then
 K 0 w6
 else
 K (-1) w6)
 else
 (bif r5 then
 K 1 w6
 else
 (bif (decide (a0 < a1)) then
 K (-1) w6
 else
 (bif (decide (a0 > a1)) then
 K 1 w6
 else
 K 0 w6))))) := okF cO Tryz.func136 .leaf (by kernel_rfl)
theorem sF {a0 f0 w K} : aN (uz a0 f0 w K)
 (Ld .ptr w f0 fun x2 => bK x2 w fun r3 w4 => (bif (!r3) then
 K w4
 else
 Ld .ptr w4 f0 fun x5 => Pt x5 fun a6 => Ld .slice w4 a6 fun x7 => dU (S := Int × Int × Unit) (fun s8 w9 next10 => (bif (decide (s8.2.1 < (x7.len : Int))) then
 dN x7 3 s8.2.1 fun a11 => Ld (.int .i64) w9 (a11.add 0) fun x12 => Ld .bool w9 (a11.add 1) fun x13 => Ld .slice w9 (a11.add 2) fun x14 => Al w9 (.cells ⟨[(Value.int .i64 0), (Value.bool false), (Value.slice none 0 0)]⟩ 176) fun a16 w15 => gJ [(Value.int .i64 x12), (Value.bool x13), (Value.slice x14.a x14.len x14.cap)] w15 a16 0 fun w17 => let J18 : Bool -> World -> Prop := fun j19 w20 => ((bif j19 then
 K w20
 else
 Ld (.int .i64) w20 (a16.add 0) fun x21 => Ld .bool w20 (a16.add 1) fun x22 => Ld .slice w20 (a16.add 2) fun x23 => bg x21 x22 x23 w20 fun r24 w25 => next10 ((if r24 > s8.1 then r24 else s8.1), (IntKind.i64.wrap (s8.2.1 + 1)), ()) w25))
 Ld (.int .i64) w17 a16 fun x26 => (bif (decide (x26 > s8.1)) then
 Ld (.int .i64) w17 a16 fun x27 => iC Tryz.prog [.one .bool] a0 [(Value.int .i64 s8.1), (Value.int .i64 x27)] w17 fun r28 w29 => ∃ r30 : Bool, r28 = (Value.bool r30) ∧
 J18 (!r30) w29
 else
 J18 false w17)
 else
 Ld .ptr w9 f0 fun x31 => Pt x31 fun a32 => Ld (.int .i64) w9 (a32.add 2) fun x33 => (bif (decide (x33 > s8.1)) then
 Ld .ptr w9 f0 fun x34 => Pt x34 fun a35 => Ld (.int .i64) w9 (a35.add 2) fun x36 => iC Tryz.prog [.one .bool] a0 [(Value.int .i64 s8.1), (Value.int .i64 x36)] w9 fun r37 w38 => ∃ r39 : Bool, r37 = (Value.bool r39) ∧
 K w38
 else
 K w9))) (0, 0, ()) w4)) := okF cO Tryz.func139 (.seq .leaf (.seq .leaf (.seq (.seq .leaf (.blk (.loop [(3, (.int .i64)), (14, (.int .i64))] .leaf))) .leaf))) (by kernel_rfl)
theorem JH {a0 w K} : aN (Dl a0 w K)
 (dD (Value.slice a0.a a0.len a0.cap) = true ∧
 Al w (.cells ⟨[(Value.slice a0.a a0.len a0.cap)]⟩ 22) fun a3 w2 => K (Value.func (.func 147) #[] #[(Value.pointer (some a3))]) w2) := okF cO Tryz.func140 .leaf (by kernel_rfl)
theorem pW {a0 a1 w K} : aN (jI a0 a1 w K)
 (dU (S := Int × Unit) (fun s3 w4 next5 => (bif (decide (s3.1 < (a0.len : Int))) then
 dN a0 1 s3.1 fun a6 => Ld .bool w4 a6 fun x7 => (bif ((a1 : Bool) == x7) then
 K s3.1 w4
 else
 next5 ((IntKind.i64.wrap (s3.1 + 1)), ()) w4)
 else
 K (-1) w4)) (0, ()) w) := okF cO Tryz.func141 (.seq .leaf (.seq (.seq .leaf (.blk (.loop [(8, (.int .i64))] .leaf))) .leaf)) (by kernel_rfl)
theorem ER {a0 w K} : aN (kQ a0 w K)
 (Al w (.cells ⟨[(Value.int .i64 3), (Value.int .i64 4), (Value.int .i64 5), (Value.int .i64 11), (Value.int .i64 12)]⟩ 3) fun a3 w2 => CZ a0 ⟨(some a3), 5, 5⟩ w2 fun r4 w5 => K r4 w5) := okF cO Tryz.func142 .leaf (by kernel_rfl)
theorem ig {a0 a1 w K} : aN (aW a0 a1 w K)
 (dU (S := Int × Unit) (fun s3 w4 next5 => (bif (decide (s3.1 < (a0.len : Int))) then
 dN a0 3 s3.1 fun a6 => Ld (.int .i64) w4 (a6.add 0) fun x7 => Ld .bool w4 (a6.add 1) fun x8 => Ld .slice w4 (a6.add 2) fun x9 => iC Tryz.prog [.one .bool] a1 [(Value.agg ⟨[(Value.int .i64 x7), (Value.bool x8), (Value.slice x9.a x9.len x9.cap)]⟩)] w4 fun r10 w11 => ∃ r12 : Bool, r10 = (Value.bool r12) ∧
 (bif r12 then
 K s3.1 w11
 else
 next5 ((IntKind.i64.wrap (s3.1 + 1)), ()) w11)
 else
 K (-1) w4)) (0, ()) w) := okF cO Tryz.func143 (.seq .leaf (.seq (.seq .leaf (.blk (.loop [(8, (.int .i64))] .leaf))) .leaf)) (by kernel_rfl)
theorem BQ {a0 a1 w K} : aN (jF a0 a1 w K)
 (fM w a0 fun b3 => fM w a1 fun b4 => K (strEq b3 b4) w) := okF cO Tryz.func144 .leaf (by kernel_rfl)
theorem zl {a0 w K} : aN (fC a0 w K)
 (K (a0 != a0) w) := okF cO Tryz.func145 .leaf (by kernel_rfl)
theorem E5 {a0 f0 w K} : aN (Ib a0 f0 w K)
 (dU (S := Int × Unit) (fun s2 w3 next4 => Ld .slice w3 f0 fun x5 => (bif (decide (s2.1 < (x5.len : Int))) then
 Ld .slice w3 f0 fun x6 => dN x6 1 s2.1 fun a7 => Ld (.int .u8) w3 a7 fun x8 => 0 <= (8 : Int) ∧
 let J9 : Int -> Prop := fun j10 => (iC Tryz.prog [.one .bool] a0 [(Value.int .i64 s2.1), (Value.int .i64 j10)] w3 fun r11 w12 => ∃ r13 : Bool, r11 = (Value.bool r13) ∧
 (bif (!r13) then
 K w12
 else
 next4 ((IntKind.i64.wrap (s2.1 + 2)), ()) w12))
 Ld .slice w3 f0 fun x14 => (bif (decide ((IntKind.i64.wrap (s2.1 + 1)) < (x14.len : Int))) then
 Ld .slice w3 f0 fun x15 => dN x15 1 (IntKind.i64.wrap (s2.1 + 1)) fun a16 => Ld (.int .u8) w3 a16 fun x17 => J9 (Bj .i64 (yZ .i64 (IntKind.i64.wrap x8) 8) (IntKind.i64.wrap x17))
 else
 J9 (yZ .i64 (IntKind.i64.wrap x8) 8))
 else
 K w3)) (0, ()) w) := okF cO Tryz.func147 (.seq .leaf (.blk (.loop [(3, (.int .i64))] .leaf))) (by kernel_rfl)
theorem Le {a0 a1 w K} : aN (CZ a0 a1 w K)
 (b_ a1 a0 w fun r3 w4 => K r3 w4) := okF cO Tryz.func148 .leaf (by kernel_rfl)
theorem o_ {a0 a1 w K} : aN (b_ a0 a1 w K)
 (dJ a0 a1 w fun r3 w4 => K (decide (r3 >= 0)) w4) := okF cO Tryz.func150 .leaf (by kernel_rfl)
theorem qR {a0 a1 w K} : aN (dJ a0 a1 w K)
 (dU (S := Int × Unit) (fun s3 w4 next5 => (bif (decide (s3.1 < (a0.len : Int))) then
 dN a0 1 s3.1 fun a6 => Ld (.int .i64) w4 a6 fun x7 => (bif (a1 == x7) then
 K s3.1 w4
 else
 next5 ((IntKind.i64.wrap (s3.1 + 1)), ()) w4)
 else
 K (-1) w4)) (0, ()) w) := okF cO Tryz.func151 (.seq .leaf (.seq (.seq .leaf (.blk (.loop [(8, (.int .i64))] .leaf))) .leaf)) (by kernel_rfl)
end Go.Proofs
