import Derived.Test.YtfpoefdigpfohaaGreatDoorW4
import Derived.Test.YtfpoefdigpfohaaGreatDoorProg
import Derived.KernelRfl
namespace Go.Proofs
open Gp
set_option maxRecDepth 100000
set_option maxHeartbeats 4000000
theorem dW : xQ Tryz.prog := xQ.Tq (by kernel_rfl) (by kernel_rfl)
@[reducible] def gU (x0 x1 x2 x3 x4 x5 x6 x7 x8 x9 x10 x11 x12 x13 x14 x15 : Int) (x16 x17 : ah) (x18 x19 x20 x21 x22 x23 x24 x25 x26 x27 x28 x29 x30 x31 x32 x33 x34 : Int) (x35 : ah) : List Value := .int .u8 x0 :: .int .u8 x1 :: .int .u8 x2 :: .int .u8 x3 :: .int .u8 x4 :: .int .u8 x5 :: .int .u8 x6 :: .int .u8 x7 :: .int .u8 x8 :: .int .u8 x9 :: .int .u8 x10 :: .int .u8 x11 :: .int .u8 x12 :: .int .u8 x13 :: .int .u8 x14 :: .int .u8 x15 :: .slice x16.a x16.len x16.cap :: .slice x17.a x17.len x17.cap :: .int .i64 x18 :: .int .i64 x19 :: .int .i64 x20 :: .int .i64 x21 :: .int .i64 x22 :: .int .i64 x23 :: .int .i64 x24 :: .int .i64 x25 :: .int .i64 x26 :: .int .i64 x27 :: .int .i64 x28 :: .int .i64 x29 :: .int .i64 x30 :: .int .i64 x31 :: .int .i64 x32 :: .int .i64 x33 :: .int .i64 x34 :: .slice x35.a x35.len x35.cap :: []
@[reducible] def rW (w : World) (a : Addr) (K : Int -> Int -> Int -> Int -> Int -> Int -> Int -> Int -> Int -> Int -> Int -> Int -> Int -> Int -> Int -> Int -> ah -> ah -> Int -> Int -> Int -> Int -> Int -> Int -> Int -> Int -> Int -> Int -> Int -> Int -> Int -> Int -> Int -> Int -> Int -> ah -> Prop) : Prop := Ld (.int .u8) w (a.add 0) fun x0 => Ld (.int .u8) w (a.add 1) fun x1 => Ld (.int .u8) w (a.add 2) fun x2 => Ld (.int .u8) w (a.add 3) fun x3 => Ld (.int .u8) w (a.add 4) fun x4 => Ld (.int .u8) w (a.add 5) fun x5 => Ld (.int .u8) w (a.add 6) fun x6 => Ld (.int .u8) w (a.add 7) fun x7 => Ld (.int .u8) w (a.add 8) fun x8 => Ld (.int .u8) w (a.add 9) fun x9 => Ld (.int .u8) w (a.add 10) fun x10 => Ld (.int .u8) w (a.add 11) fun x11 => Ld (.int .u8) w (a.add 12) fun x12 => Ld (.int .u8) w (a.add 13) fun x13 => Ld (.int .u8) w (a.add 14) fun x14 => Ld (.int .u8) w (a.add 15) fun x15 => Ld .slice w (a.add 16) fun x16 => Ld .slice w (a.add 17) fun x17 => Ld (.int .i64) w (a.add 18) fun x18 => Ld (.int .i64) w (a.add 19) fun x19 => Ld (.int .i64) w (a.add 20) fun x20 => Ld (.int .i64) w (a.add 21) fun x21 => Ld (.int .i64) w (a.add 22) fun x22 => Ld (.int .i64) w (a.add 23) fun x23 => Ld (.int .i64) w (a.add 24) fun x24 => Ld (.int .i64) w (a.add 25) fun x25 => Ld (.int .i64) w (a.add 26) fun x26 => Ld (.int .i64) w (a.add 27) fun x27 => Ld (.int .i64) w (a.add 28) fun x28 => Ld (.int .i64) w (a.add 29) fun x29 => Ld (.int .i64) w (a.add 30) fun x30 => Ld (.int .i64) w (a.add 31) fun x31 => Ld (.int .i64) w (a.add 32) fun x32 => Ld (.int .i64) w (a.add 33) fun x33 => Ld (.int .i64) w (a.add 34) fun x34 => Ld .slice w (a.add 35) fun x35 => K x0 x1 x2 x3 x4 x5 x6 x7 x8 x9 x10 x11 x12 x13 x14 x15 x16 x17 x18 x19 x20 x21 x22 x23 x24 x25 x26 x27 x28 x29 x30 x31 x32 x33 x34 x35
abbrev JY : List Kind := (.int .u8) :: (.int .u8) :: (.int .u8) :: (.int .u8) :: (.int .u8) :: (.int .u8) :: (.int .u8) :: (.int .u8) :: (.int .u8) :: (.int .u8) :: (.int .u8) :: (.int .u8) :: (.int .u8) :: (.int .u8) :: (.int .u8) :: (.int .u8) :: []
@[reducible] def gq (x0 x1 x2 x3 x4 x5 x6 x7 x8 x9 x10 x11 x12 x13 x14 x15 : Int) : List Value := .int .u8 x0 :: .int .u8 x1 :: .int .u8 x2 :: .int .u8 x3 :: .int .u8 x4 :: .int .u8 x5 :: .int .u8 x6 :: .int .u8 x7 :: .int .u8 x8 :: .int .u8 x9 :: .int .u8 x10 :: .int .u8 x11 :: .int .u8 x12 :: .int .u8 x13 :: .int .u8 x14 :: .int .u8 x15 :: []
@[reducible] def rV (w : World) (a : Addr) (K : Int -> Int -> Int -> Int -> Int -> Int -> Int -> Int -> Int -> Int -> Int -> Int -> Int -> Int -> Int -> Int -> Prop) : Prop := Ld (.int .u8) w (a.add 0) fun x0 => Ld (.int .u8) w (a.add 1) fun x1 => Ld (.int .u8) w (a.add 2) fun x2 => Ld (.int .u8) w (a.add 3) fun x3 => Ld (.int .u8) w (a.add 4) fun x4 => Ld (.int .u8) w (a.add 5) fun x5 => Ld (.int .u8) w (a.add 6) fun x6 => Ld (.int .u8) w (a.add 7) fun x7 => Ld (.int .u8) w (a.add 8) fun x8 => Ld (.int .u8) w (a.add 9) fun x9 => Ld (.int .u8) w (a.add 10) fun x10 => Ld (.int .u8) w (a.add 11) fun x11 => Ld (.int .u8) w (a.add 12) fun x12 => Ld (.int .u8) w (a.add 13) fun x13 => Ld (.int .u8) w (a.add 14) fun x14 => Ld (.int .u8) w (a.add 15) fun x15 => K x0 x1 x2 x3 x4 x5 x6 x7 x8 x9 x10 x11 x12 x13 x14 x15
@[reducible] def Uc (x0 x1 x2 x3 x4 x5 x6 x7 x8 x9 x10 x11 x12 x13 x14 x15 x16 x17 x18 x19 x20 x21 x22 x23 x24 x25 x26 x27 x28 x29 x30 x31 x32 x33 x34 x35 x36 x37 x38 x39 x40 x41 x42 x43 x44 x45 x46 x47 x48 x49 x50 x51 x52 x53 x54 x55 x56 : Int) : List Value := .int .i64 x0 :: .int .i64 x1 :: .int .i64 x2 :: .int .i64 x3 :: .int .i64 x4 :: .int .i64 x5 :: .int .i64 x6 :: .int .i64 x7 :: .int .i64 x8 :: .int .i64 x9 :: .int .i64 x10 :: .int .i64 x11 :: .int .i64 x12 :: .int .i64 x13 :: .int .i64 x14 :: .int .i64 x15 :: .int .i64 x16 :: .int .i64 x17 :: .int .i64 x18 :: .int .i64 x19 :: .int .i64 x20 :: .int .i64 x21 :: .int .i64 x22 :: .int .i64 x23 :: .int .i64 x24 :: .int .i64 x25 :: .int .i64 x26 :: .int .i64 x27 :: .int .i64 x28 :: .int .i64 x29 :: .int .i64 x30 :: .int .i64 x31 :: .int .i64 x32 :: .int .i64 x33 :: .int .i64 x34 :: .int .i64 x35 :: .int .i64 x36 :: .int .i64 x37 :: .int .i64 x38 :: .int .i64 x39 :: .int .i64 x40 :: .int .i64 x41 :: .int .i64 x42 :: .int .i64 x43 :: .int .i64 x44 :: .int .i64 x45 :: .int .i64 x46 :: .int .i64 x47 :: .int .i64 x48 :: .int .i64 x49 :: .int .i64 x50 :: .int .i64 x51 :: .int .i64 x52 :: .int .i64 x53 :: .int .i64 x54 :: .int .i64 x55 :: .int .i64 x56 :: []
def o8 (A0 A1 A2 A3 A4 A5 A6 A7 A8 A9 A10 A11 A12 A13 A14 A15 : Int) (A16 A17 : ah) (A18 A19 A20 A21 A22 A23 A24 A25 A26 A27 A28 A29 A30 A31 A32 A33 A34 : Int) (A35 : ah) (B0 : Int) (B1 B2 : ah) (B3 B4 B5 : Int) (B6 : ah) (C0 C1 C2 : Int) (C3 : ah) (w : World) (K : Bool -> World -> Prop) : Prop :=
 aj Tryz.prog 3 [.agg ⟨gU A0 A1 A2 A3 A4 A5 A6 A7 A8 A9 A10 A11 A12 A13 A14 A15 A16 A17 A18 A19 A20 A21 A22 A23 A24 A25 A26 A27 A28 A29 A30 A31 A32 A33 A34 A35⟩, (.agg ⟨[.int .i64 B0, .slice B1.a B1.len B1.cap, .slice B2.a B2.len B2.cap, .int .i64 B3, .int .i64 B4, .int .i64 B5, .slice B6.a B6.len B6.cap]⟩), (.agg ⟨[.int .i64 C0, .int .i64 C1, .int .i64 C2, .slice C3.a C3.len C3.cap]⟩)] [.one .bool] w K
def mV (A0 : Int) (A1 A2 : ah) (A3 A4 A5 : Int) (A6 : ah) (w : World) (K : Bool -> World -> Prop) : Prop :=
 aj Tryz.prog 4 [(.agg ⟨[.int .i64 A0, .slice A1.a A1.len A1.cap, .slice A2.a A2.len A2.cap, .int .i64 A3, .int .i64 A4, .int .i64 A5, .slice A6.a A6.len A6.cap]⟩)] [.one .bool] w K
theorem E5 {A0 A1 A2 A3 A4 A5 A6 w K K'} : mV A0 A1 A2 A3 A4 A5 A6 w K -> (∀ x0 w, K x0 w -> K' x0 w) -> mV A0 A1 A2 A3 A4 A5 A6 w K' := aj.mono
def jo (A0 A1 A2 A3 A4 A5 A6 A7 A8 A9 A10 A11 A12 A13 A14 A15 : Int) (A16 A17 : ah) (A18 A19 A20 A21 A22 A23 A24 A25 A26 A27 A28 A29 A30 A31 A32 A33 A34 : Int) (A35 : ah) (w : World) (K : Bool -> World -> Prop) : Prop :=
 aj Tryz.prog 5 [.agg ⟨gU A0 A1 A2 A3 A4 A5 A6 A7 A8 A9 A10 A11 A12 A13 A14 A15 A16 A17 A18 A19 A20 A21 A22 A23 A24 A25 A26 A27 A28 A29 A30 A31 A32 A33 A34 A35⟩] [.one .bool] w K
theorem BN {A0 A1 A2 A3 A4 A5 A6 A7 A8 A9 A10 A11 A12 A13 A14 A15 A16 A17 A18 A19 A20 A21 A22 A23 A24 A25 A26 A27 A28 A29 A30 A31 A32 A33 A34 A35 w K K'} : jo A0 A1 A2 A3 A4 A5 A6 A7 A8 A9 A10 A11 A12 A13 A14 A15 A16 A17 A18 A19 A20 A21 A22 A23 A24 A25 A26 A27 A28 A29 A30 A31 A32 A33 A34 A35 w K -> (∀ x0 w, K x0 w -> K' x0 w) -> jo A0 A1 A2 A3 A4 A5 A6 A7 A8 A9 A10 A11 A12 A13 A14 A15 A16 A17 A18 A19 A20 A21 A22 A23 A24 A25 A26 A27 A28 A29 A30 A31 A32 A33 A34 A35 w K' := aj.mono
def gZ  (w : World) (K : Bool -> World -> Prop) : Prop :=
 aj Tryz.prog 6 [] [.one .bool] w K
theorem sH { w K K'} : gZ  w K -> (∀ x0 w, K x0 w -> K' x0 w) -> gZ  w K' := aj.mono
def kT (A0 A1 A2 A3 A4 A5 A6 A7 A8 A9 A10 A11 A12 A13 A14 A15 : Int) (A16 A17 : ah) (A18 A19 A20 A21 A22 A23 A24 A25 A26 A27 A28 A29 A30 A31 A32 A33 A34 : Int) (A35 : ah) (B0 : Int) (B1 B2 : ah) (B3 B4 B5 : Int) (B6 : ah) (C0 : Int) (C1 C2 : ah) (C3 C4 C5 : Int) (C6 : ah) (D0 D1 D2 : Int) (D3 : ah) (w : World) (K : Int -> World -> Prop) : Prop :=
 aj Tryz.prog 7 [.agg ⟨gU A0 A1 A2 A3 A4 A5 A6 A7 A8 A9 A10 A11 A12 A13 A14 A15 A16 A17 A18 A19 A20 A21 A22 A23 A24 A25 A26 A27 A28 A29 A30 A31 A32 A33 A34 A35⟩, (.agg ⟨[.int .i64 B0, .slice B1.a B1.len B1.cap, .slice B2.a B2.len B2.cap, .int .i64 B3, .int .i64 B4, .int .i64 B5, .slice B6.a B6.len B6.cap]⟩), (.agg ⟨[.int .i64 C0, .slice C1.a C1.len C1.cap, .slice C2.a C2.len C2.cap, .int .i64 C3, .int .i64 C4, .int .i64 C5, .slice C6.a C6.len C6.cap]⟩), (.agg ⟨[.int .i64 D0, .int .i64 D1, .int .i64 D2, .slice D3.a D3.len D3.cap]⟩)] [.one (.int .i64)] w K
theorem Dp {A0 A1 A2 A3 A4 A5 A6 A7 A8 A9 A10 A11 A12 A13 A14 A15 A16 A17 A18 A19 A20 A21 A22 A23 A24 A25 A26 A27 A28 A29 A30 A31 A32 A33 A34 A35 B0 B1 B2 B3 B4 B5 B6 C0 C1 C2 C3 C4 C5 C6 D0 D1 D2 D3 w K K'} : kT A0 A1 A2 A3 A4 A5 A6 A7 A8 A9 A10 A11 A12 A13 A14 A15 A16 A17 A18 A19 A20 A21 A22 A23 A24 A25 A26 A27 A28 A29 A30 A31 A32 A33 A34 A35 B0 B1 B2 B3 B4 B5 B6 C0 C1 C2 C3 C4 C5 C6 D0 D1 D2 D3 w K -> (∀ x0 w, K x0 w -> K' x0 w) -> kT A0 A1 A2 A3 A4 A5 A6 A7 A8 A9 A10 A11 A12 A13 A14 A15 A16 A17 A18 A19 A20 A21 A22 A23 A24 A25 A26 A27 A28 A29 A30 A31 A32 A33 A34 A35 B0 B1 B2 B3 B4 B5 B6 C0 C1 C2 C3 C4 C5 C6 D0 D1 D2 D3 w K' := aj.mono
def gY (A0 A1 A2 A3 A4 A5 A6 A7 A8 A9 A10 A11 A12 A13 A14 A15 : Int) (A16 A17 : ah) (A18 A19 A20 A21 A22 A23 A24 A25 A26 A27 A28 A29 A30 A31 A32 A33 A34 : Int) (A35 : ah) (B0 : Int) (B1 B2 : ah) (B3 B4 B5 : Int) (B6 : ah) (w : World) (K : Int -> World -> Prop) : Prop :=
 aj Tryz.prog 8 [.agg ⟨gU A0 A1 A2 A3 A4 A5 A6 A7 A8 A9 A10 A11 A12 A13 A14 A15 A16 A17 A18 A19 A20 A21 A22 A23 A24 A25 A26 A27 A28 A29 A30 A31 A32 A33 A34 A35⟩, (.agg ⟨[.int .i64 B0, .slice B1.a B1.len B1.cap, .slice B2.a B2.len B2.cap, .int .i64 B3, .int .i64 B4, .int .i64 B5, .slice B6.a B6.len B6.cap]⟩)] [.one (.int .i64)] w K
theorem sV {A0 A1 A2 A3 A4 A5 A6 A7 A8 A9 A10 A11 A12 A13 A14 A15 A16 A17 A18 A19 A20 A21 A22 A23 A24 A25 A26 A27 A28 A29 A30 A31 A32 A33 A34 A35 B0 B1 B2 B3 B4 B5 B6 w K K'} : gY A0 A1 A2 A3 A4 A5 A6 A7 A8 A9 A10 A11 A12 A13 A14 A15 A16 A17 A18 A19 A20 A21 A22 A23 A24 A25 A26 A27 A28 A29 A30 A31 A32 A33 A34 A35 B0 B1 B2 B3 B4 B5 B6 w K -> (∀ x0 w, K x0 w -> K' x0 w) -> gY A0 A1 A2 A3 A4 A5 A6 A7 A8 A9 A10 A11 A12 A13 A14 A15 A16 A17 A18 A19 A20 A21 A22 A23 A24 A25 A26 A27 A28 A29 A30 A31 A32 A33 A34 A35 B0 B1 B2 B3 B4 B5 B6 w K' := aj.mono
def kM (A0 : Int) (A1 A2 : ah) (A3 A4 A5 : Int) (A6 : ah) (B0 : Int) (B1 B2 : ah) (B3 B4 B5 : Int) (B6 : ah) (w : World) (K : ah -> World -> Prop) : Prop :=
 aj Tryz.prog 9 [(.agg ⟨[.int .i64 A0, .slice A1.a A1.len A1.cap, .slice A2.a A2.len A2.cap, .int .i64 A3, .int .i64 A4, .int .i64 A5, .slice A6.a A6.len A6.cap]⟩), (.agg ⟨[.int .i64 B0, .slice B1.a B1.len B1.cap, .slice B2.a B2.len B2.cap, .int .i64 B3, .int .i64 B4, .int .i64 B5, .slice B6.a B6.len B6.cap]⟩)] [.one .slice] w K
theorem DI {A0 A1 A2 A3 A4 A5 A6 B0 B1 B2 B3 B4 B5 B6 w K K'} : kM A0 A1 A2 A3 A4 A5 A6 B0 B1 B2 B3 B4 B5 B6 w K -> (∀ x0 w, K x0 w -> K' x0 w) -> kM A0 A1 A2 A3 A4 A5 A6 B0 B1 B2 B3 B4 B5 B6 w K' := aj.mono
def kC (A0 : Int) (A1 A2 : ah) (A3 A4 A5 : Int) (A6 : ah) (B0 : Int) (B1 B2 : ah) (B3 B4 B5 : Int) (B6 : ah) (w : World) (K : ah -> World -> Prop) : Prop :=
 aj Tryz.prog 11 [(.agg ⟨[.int .i64 A0, .slice A1.a A1.len A1.cap, .slice A2.a A2.len A2.cap, .int .i64 A3, .int .i64 A4, .int .i64 A5, .slice A6.a A6.len A6.cap]⟩), (.agg ⟨[.int .i64 B0, .slice B1.a B1.len B1.cap, .slice B2.a B2.len B2.cap, .int .i64 B3, .int .i64 B4, .int .i64 B5, .slice B6.a B6.len B6.cap]⟩)] [.one .slice] w K
theorem Dz {A0 A1 A2 A3 A4 A5 A6 B0 B1 B2 B3 B4 B5 B6 w K K'} : kC A0 A1 A2 A3 A4 A5 A6 B0 B1 B2 B3 B4 B5 B6 w K -> (∀ x0 w, K x0 w -> K' x0 w) -> kC A0 A1 A2 A3 A4 A5 A6 B0 B1 B2 B3 B4 B5 B6 w K' := aj.mono
def jI (A0 : Int) (A1 A2 : ah) (A3 A4 A5 : Int) (A6 : ah) (B0 : Int) (B1 B2 : ah) (B3 B4 B5 : Int) (B6 : ah) (C0 C1 C2 : Int) (C3 : ah) (w : World) (K : Bool -> World -> Prop) : Prop :=
 aj Tryz.prog 12 [(.agg ⟨[.int .i64 A0, .slice A1.a A1.len A1.cap, .slice A2.a A2.len A2.cap, .int .i64 A3, .int .i64 A4, .int .i64 A5, .slice A6.a A6.len A6.cap]⟩), (.agg ⟨[.int .i64 B0, .slice B1.a B1.len B1.cap, .slice B2.a B2.len B2.cap, .int .i64 B3, .int .i64 B4, .int .i64 B5, .slice B6.a B6.len B6.cap]⟩), (.agg ⟨[.int .i64 C0, .int .i64 C1, .int .i64 C2, .slice C3.a C3.len C3.cap]⟩)] [.one .bool] w K
theorem Bf {A0 A1 A2 A3 A4 A5 A6 B0 B1 B2 B3 B4 B5 B6 C0 C1 C2 C3 w K K'} : jI A0 A1 A2 A3 A4 A5 A6 B0 B1 B2 B3 B4 B5 B6 C0 C1 C2 C3 w K -> (∀ x0 w, K x0 w -> K' x0 w) -> jI A0 A1 A2 A3 A4 A5 A6 B0 B1 B2 B3 B4 B5 B6 C0 C1 C2 C3 w K' := aj.mono
def Dw (a0 : Int) (w : World) (K : Bool -> World -> Prop) : Prop :=
 aj Tryz.prog 13 [.int .i64 a0] [.one .bool] w K
def iJ (A0 A1 A2 A3 A4 A5 A6 A7 A8 A9 A10 A11 A12 A13 A14 A15 : Int) (A16 A17 : ah) (A18 A19 A20 A21 A22 A23 A24 A25 A26 A27 A28 A29 A30 A31 A32 A33 A34 : Int) (A35 : ah) (w : World) (K : Int -> World -> Prop) : Prop :=
 aj Tryz.prog 14 [.agg ⟨gU A0 A1 A2 A3 A4 A5 A6 A7 A8 A9 A10 A11 A12 A13 A14 A15 A16 A17 A18 A19 A20 A21 A22 A23 A24 A25 A26 A27 A28 A29 A30 A31 A32 A33 A34 A35⟩] [.one (.int .i64)] w K
theorem Af {A0 A1 A2 A3 A4 A5 A6 A7 A8 A9 A10 A11 A12 A13 A14 A15 A16 A17 A18 A19 A20 A21 A22 A23 A24 A25 A26 A27 A28 A29 A30 A31 A32 A33 A34 A35 w K K'} : iJ A0 A1 A2 A3 A4 A5 A6 A7 A8 A9 A10 A11 A12 A13 A14 A15 A16 A17 A18 A19 A20 A21 A22 A23 A24 A25 A26 A27 A28 A29 A30 A31 A32 A33 A34 A35 w K -> (∀ x0 w, K x0 w -> K' x0 w) -> iJ A0 A1 A2 A3 A4 A5 A6 A7 A8 A9 A10 A11 A12 A13 A14 A15 A16 A17 A18 A19 A20 A21 A22 A23 A24 A25 A26 A27 A28 A29 A30 A31 A32 A33 A34 A35 w K' := aj.mono
abbrev zQ : FuncId := 15
def z_ (A0 A1 A2 A3 A4 : Int) (f0 : Addr) (w : World) (K : Bool -> World -> Prop) : Prop :=
 aj Tryz.prog 15 [(.agg ⟨[.int .i64 A0, .int .i64 A1, .int .i64 A2, .int .i64 A3, .int .i64 A4]⟩), (.pointer (some f0))] [.one .bool] w K
def fG (A0 : Int) (A1 A2 : ah) (A3 A4 A5 : Int) (A6 : ah) (w : World) (K : Bool -> World -> Prop) : Prop :=
 aj Tryz.prog 16 [(.agg ⟨[.int .i64 A0, .slice A1.a A1.len A1.cap, .slice A2.a A2.len A2.cap, .int .i64 A3, .int .i64 A4, .int .i64 A5, .slice A6.a A6.len A6.cap]⟩)] [.one .bool] w K
theorem wH {A0 A1 A2 A3 A4 A5 A6 w K K'} : fG A0 A1 A2 A3 A4 A5 A6 w K -> (∀ x0 w, K x0 w -> K' x0 w) -> fG A0 A1 A2 A3 A4 A5 A6 w K' := aj.mono
def jr (A0 A1 A2 A3 A4 A5 A6 A7 A8 A9 A10 A11 A12 A13 A14 A15 : Int) (A16 A17 : ah) (A18 A19 A20 A21 A22 A23 A24 A25 A26 A27 A28 A29 A30 A31 A32 A33 A34 : Int) (A35 : ah) (B0 : Int) (B1 B2 : ah) (B3 B4 B5 : Int) (B6 : ah) (w : World) (K : Bool -> World -> Prop) : Prop :=
 aj Tryz.prog 17 [.agg ⟨gU A0 A1 A2 A3 A4 A5 A6 A7 A8 A9 A10 A11 A12 A13 A14 A15 A16 A17 A18 A19 A20 A21 A22 A23 A24 A25 A26 A27 A28 A29 A30 A31 A32 A33 A34 A35⟩, (.agg ⟨[.int .i64 B0, .slice B1.a B1.len B1.cap, .slice B2.a B2.len B2.cap, .int .i64 B3, .int .i64 B4, .int .i64 B5, .slice B6.a B6.len B6.cap]⟩)] [.one .bool] w K
theorem CG {A0 A1 A2 A3 A4 A5 A6 A7 A8 A9 A10 A11 A12 A13 A14 A15 A16 A17 A18 A19 A20 A21 A22 A23 A24 A25 A26 A27 A28 A29 A30 A31 A32 A33 A34 A35 B0 B1 B2 B3 B4 B5 B6 w K K'} : jr A0 A1 A2 A3 A4 A5 A6 A7 A8 A9 A10 A11 A12 A13 A14 A15 A16 A17 A18 A19 A20 A21 A22 A23 A24 A25 A26 A27 A28 A29 A30 A31 A32 A33 A34 A35 B0 B1 B2 B3 B4 B5 B6 w K -> (∀ x0 w, K x0 w -> K' x0 w) -> jr A0 A1 A2 A3 A4 A5 A6 A7 A8 A9 A10 A11 A12 A13 A14 A15 A16 A17 A18 A19 A20 A21 A22 A23 A24 A25 A26 A27 A28 A29 A30 A31 A32 A33 A34 A35 B0 B1 B2 B3 B4 B5 B6 w K' := aj.mono
def iI (A0 A1 A2 A3 A4 A5 A6 A7 A8 A9 A10 A11 A12 A13 A14 A15 : Int) (A16 A17 : ah) (A18 A19 A20 A21 A22 A23 A24 A25 A26 A27 A28 A29 A30 A31 A32 A33 A34 : Int) (A35 : ah) (B0 : Int) (B1 B2 : ah) (B3 B4 B5 : Int) (B6 : ah) (w : World) (K : Bool -> World -> Prop) : Prop :=
 aj Tryz.prog 18 [.agg ⟨gU A0 A1 A2 A3 A4 A5 A6 A7 A8 A9 A10 A11 A12 A13 A14 A15 A16 A17 A18 A19 A20 A21 A22 A23 A24 A25 A26 A27 A28 A29 A30 A31 A32 A33 A34 A35⟩, (.agg ⟨[.int .i64 B0, .slice B1.a B1.len B1.cap, .slice B2.a B2.len B2.cap, .int .i64 B3, .int .i64 B4, .int .i64 B5, .slice B6.a B6.len B6.cap]⟩)] [.one .bool] w K
theorem Ac {A0 A1 A2 A3 A4 A5 A6 A7 A8 A9 A10 A11 A12 A13 A14 A15 A16 A17 A18 A19 A20 A21 A22 A23 A24 A25 A26 A27 A28 A29 A30 A31 A32 A33 A34 A35 B0 B1 B2 B3 B4 B5 B6 w K K'} : iI A0 A1 A2 A3 A4 A5 A6 A7 A8 A9 A10 A11 A12 A13 A14 A15 A16 A17 A18 A19 A20 A21 A22 A23 A24 A25 A26 A27 A28 A29 A30 A31 A32 A33 A34 A35 B0 B1 B2 B3 B4 B5 B6 w K -> (∀ x0 w, K x0 w -> K' x0 w) -> iI A0 A1 A2 A3 A4 A5 A6 A7 A8 A9 A10 A11 A12 A13 A14 A15 A16 A17 A18 A19 A20 A21 A22 A23 A24 A25 A26 A27 A28 A29 A30 A31 A32 A33 A34 A35 B0 B1 B2 B3 B4 B5 B6 w K' := aj.mono
def aG (a0 : ah) (a1 : Value) (w : World) (K : Bool -> World -> Prop) : Prop :=
 aj Tryz.prog 19 [.slice a0.a a0.len a0.cap, a1] [.one .bool] w K
theorem eY {a0 a1 w K K'} : aG a0 a1 w K -> (∀ x0 w, K x0 w -> K' x0 w) -> aG a0 a1 w K' := aj.mono
def kE (A0 A1 A2 A3 A4 A5 A6 A7 A8 A9 A10 A11 A12 A13 A14 A15 : Int) (A16 A17 : ah) (A18 A19 A20 A21 A22 A23 A24 A25 A26 A27 A28 A29 A30 A31 A32 A33 A34 : Int) (A35 : ah) (w : World) (K : Value -> World -> Prop) : Prop :=
 aj Tryz.prog 20 [.agg ⟨gU A0 A1 A2 A3 A4 A5 A6 A7 A8 A9 A10 A11 A12 A13 A14 A15 A16 A17 A18 A19 A20 A21 A22 A23 A24 A25 A26 A27 A28 A29 A30 A31 A32 A33 A34 A35⟩] [.one .any] w K
theorem zO {A0 A1 A2 A3 A4 A5 A6 A7 A8 A9 A10 A11 A12 A13 A14 A15 A16 A17 A18 A19 A20 A21 A22 A23 A24 A25 A26 A27 A28 A29 A30 A31 A32 A33 A34 A35 w K K'} : kE A0 A1 A2 A3 A4 A5 A6 A7 A8 A9 A10 A11 A12 A13 A14 A15 A16 A17 A18 A19 A20 A21 A22 A23 A24 A25 A26 A27 A28 A29 A30 A31 A32 A33 A34 A35 w K -> (∀ x0 w, K x0 w -> K' x0 w) -> kE A0 A1 A2 A3 A4 A5 A6 A7 A8 A9 A10 A11 A12 A13 A14 A15 A16 A17 A18 A19 A20 A21 A22 A23 A24 A25 A26 A27 A28 A29 A30 A31 A32 A33 A34 A35 w K' := aj.mono
def aH (a0 : ah) (a1 : Value) (w : World) (K : Bool -> World -> Prop) : Prop :=
 aj Tryz.prog 21 [.slice a0.a a0.len a0.cap, a1] [.one .bool] w K
theorem eX {a0 a1 w K K'} : aH a0 a1 w K -> (∀ x0 w, K x0 w -> K' x0 w) -> aH a0 a1 w K' := aj.mono
def iW (a0 : Value) (w : World) (K : ah -> World -> Prop) : Prop :=
 aj Tryz.prog 22 [a0] [.one .slice] w K
theorem uQ {a0 w K K'} : iW a0 w K -> (∀ x0 w, K x0 w -> K' x0 w) -> iW a0 w K' := aj.mono
def dL (A0 : Int) (A1 A2 : ah) (A3 A4 A5 : Int) (A6 : ah) (B0 : Int) (B1 B2 : ah) (B3 B4 B5 : Int) (B6 : ah) (w : World) (K : Value -> World -> Prop) : Prop :=
 aj Tryz.prog 23 [(.agg ⟨[.int .i64 A0, .slice A1.a A1.len A1.cap, .slice A2.a A2.len A2.cap, .int .i64 A3, .int .i64 A4, .int .i64 A5, .slice A6.a A6.len A6.cap]⟩), (.agg ⟨[.int .i64 B0, .slice B1.a B1.len B1.cap, .slice B2.a B2.len B2.cap, .int .i64 B3, .int .i64 B4, .int .i64 B5, .slice B6.a B6.len B6.cap]⟩)] [.one .any] w K
theorem lS {A0 A1 A2 A3 A4 A5 A6 B0 B1 B2 B3 B4 B5 B6 w K K'} : dL A0 A1 A2 A3 A4 A5 A6 B0 B1 B2 B3 B4 B5 B6 w K -> (∀ x0 w, K x0 w -> K' x0 w) -> dL A0 A1 A2 A3 A4 A5 A6 B0 B1 B2 B3 B4 B5 B6 w K' := aj.mono
def gK (A0 A1 A2 : Int) (A3 : ah) (w : World) (K : Int -> Bool -> World -> Prop) : Prop :=
 aj Tryz.prog 25 [(.agg ⟨[.int .i64 A0, .int .i64 A1, .int .i64 A2, .slice A3.a A3.len A3.cap]⟩)] [.one (.int .i64), .one .bool] w K
theorem yg {A0 A1 A2 A3 w K K'} : gK A0 A1 A2 A3 w K -> (∀ x0 x1 w, K x0 x1 w -> K' x0 x1 w) -> gK A0 A1 A2 A3 w K' := aj.mono
def Gv (A0 : Int) (A1 A2 : ah) (A3 A4 A5 : Int) (A6 : ah) (a1 : Int) (w : World) (K : Int -> World -> Prop) : Prop :=
 aj Tryz.prog 26 [(.agg ⟨[.int .i64 A0, .slice A1.a A1.len A1.cap, .slice A2.a A2.len A2.cap, .int .i64 A3, .int .i64 A4, .int .i64 A5, .slice A6.a A6.len A6.cap]⟩), .int .i64 a1] [.one (.int .i64)] w K
def gQ (A0 A1 A2 A3 A4 A5 A6 A7 A8 A9 A10 A11 A12 A13 A14 A15 : Int) (A16 A17 : ah) (A18 A19 A20 A21 A22 A23 A24 A25 A26 A27 A28 A29 A30 A31 A32 A33 A34 : Int) (A35 : ah) (w : World) (K : ah -> World -> Prop) : Prop :=
 aj Tryz.prog 27 [.agg ⟨gU A0 A1 A2 A3 A4 A5 A6 A7 A8 A9 A10 A11 A12 A13 A14 A15 A16 A17 A18 A19 A20 A21 A22 A23 A24 A25 A26 A27 A28 A29 A30 A31 A32 A33 A34 A35⟩] [.one .slice] w K
theorem yX {A0 A1 A2 A3 A4 A5 A6 A7 A8 A9 A10 A11 A12 A13 A14 A15 A16 A17 A18 A19 A20 A21 A22 A23 A24 A25 A26 A27 A28 A29 A30 A31 A32 A33 A34 A35 w K K'} : gQ A0 A1 A2 A3 A4 A5 A6 A7 A8 A9 A10 A11 A12 A13 A14 A15 A16 A17 A18 A19 A20 A21 A22 A23 A24 A25 A26 A27 A28 A29 A30 A31 A32 A33 A34 A35 w K -> (∀ x0 w, K x0 w -> K' x0 w) -> gQ A0 A1 A2 A3 A4 A5 A6 A7 A8 A9 A10 A11 A12 A13 A14 A15 A16 A17 A18 A19 A20 A21 A22 A23 A24 A25 A26 A27 A28 A29 A30 A31 A32 A33 A34 A35 w K' := aj.mono
def bU (A0 A1 A2 : Int) (w : World) (K : Bool -> World -> Prop) : Prop :=
 aj Tryz.prog 28 [(.agg ⟨[.int .i64 A0, .int .i64 A1, .int .i64 A2]⟩)] [.one .bool] w K
theorem dV {A0 A1 A2 w K K'} : bU A0 A1 A2 w K -> (∀ x0 w, K x0 w -> K' x0 w) -> bU A0 A1 A2 w K' := aj.mono
def iF (a0 : Int) (w : World) (K : Bool -> World -> Prop) : Prop :=
 aj Tryz.prog 29 [.int .i64 a0] [.one .bool] w K
theorem zZ {a0 w K K'} : iF a0 w K -> (∀ x0 w, K x0 w -> K' x0 w) -> iF a0 w K' := aj.mono
def iO (A0 A1 A2 A3 A4 A5 A6 A7 A8 A9 A10 A11 A12 A13 A14 A15 : Int) (A16 A17 : ah) (A18 A19 A20 A21 A22 A23 A24 A25 A26 A27 A28 A29 A30 A31 A32 A33 A34 : Int) (A35 : ah) (w : World) (K : Bool -> World -> Prop) : Prop :=
 aj Tryz.prog 30 [.agg ⟨gU A0 A1 A2 A3 A4 A5 A6 A7 A8 A9 A10 A11 A12 A13 A14 A15 A16 A17 A18 A19 A20 A21 A22 A23 A24 A25 A26 A27 A28 A29 A30 A31 A32 A33 A34 A35⟩] [.one .bool] w K
theorem zX {A0 A1 A2 A3 A4 A5 A6 A7 A8 A9 A10 A11 A12 A13 A14 A15 A16 A17 A18 A19 A20 A21 A22 A23 A24 A25 A26 A27 A28 A29 A30 A31 A32 A33 A34 A35 w K K'} : iO A0 A1 A2 A3 A4 A5 A6 A7 A8 A9 A10 A11 A12 A13 A14 A15 A16 A17 A18 A19 A20 A21 A22 A23 A24 A25 A26 A27 A28 A29 A30 A31 A32 A33 A34 A35 w K -> (∀ x0 w, K x0 w -> K' x0 w) -> iO A0 A1 A2 A3 A4 A5 A6 A7 A8 A9 A10 A11 A12 A13 A14 A15 A16 A17 A18 A19 A20 A21 A22 A23 A24 A25 A26 A27 A28 A29 A30 A31 A32 A33 A34 A35 w K' := aj.mono
def fP (A0 A1 A2 A3 A4 A5 A6 A7 A8 A9 A10 A11 A12 A13 A14 A15 : Int) (A16 A17 : ah) (A18 A19 A20 A21 A22 A23 A24 A25 A26 A27 A28 A29 A30 A31 A32 A33 A34 : Int) (A35 : ah) (w : World) (K : Bool -> World -> Prop) : Prop :=
 aj Tryz.prog 31 [.agg ⟨gU A0 A1 A2 A3 A4 A5 A6 A7 A8 A9 A10 A11 A12 A13 A14 A15 A16 A17 A18 A19 A20 A21 A22 A23 A24 A25 A26 A27 A28 A29 A30 A31 A32 A33 A34 A35⟩] [.one .bool] w K
theorem xg {A0 A1 A2 A3 A4 A5 A6 A7 A8 A9 A10 A11 A12 A13 A14 A15 A16 A17 A18 A19 A20 A21 A22 A23 A24 A25 A26 A27 A28 A29 A30 A31 A32 A33 A34 A35 w K K'} : fP A0 A1 A2 A3 A4 A5 A6 A7 A8 A9 A10 A11 A12 A13 A14 A15 A16 A17 A18 A19 A20 A21 A22 A23 A24 A25 A26 A27 A28 A29 A30 A31 A32 A33 A34 A35 w K -> (∀ x0 w, K x0 w -> K' x0 w) -> fP A0 A1 A2 A3 A4 A5 A6 A7 A8 A9 A10 A11 A12 A13 A14 A15 A16 A17 A18 A19 A20 A21 A22 A23 A24 A25 A26 A27 A28 A29 A30 A31 A32 A33 A34 A35 w K' := aj.mono
def dH (a0 : Value) (w : World) (K : Bool -> World -> Prop) : Prop :=
 aj Tryz.prog 32 [a0] [.one .bool] w K
theorem qY {a0 w K K'} : dH a0 w K -> (∀ x0 w, K x0 w -> K' x0 w) -> dH a0 w K' := aj.mono
def bf (a0 : ah) (a1 : Value) (w : World) (K : Value -> World -> Prop) : Prop :=
 aj Tryz.prog 33 [.slice a0.a a0.len a0.cap, a1] [.one .any] w K
theorem jM {a0 a1 w K K'} : bf a0 a1 w K -> (∀ x0 w, K x0 w -> K' x0 w) -> bf a0 a1 w K' := aj.mono
abbrev EU : FuncId := 34
def xH (A0 A1 A2 A3 A4 A5 A6 : Int) (A7 : Bool) (w : World) (K : Int -> Int -> Int -> Int -> World -> Prop) : Prop :=
 aj Tryz.prog 34 [(.agg ⟨[.int .i64 A0, .int .i64 A1, .int .i64 A2, .int .i64 A3, .int .i64 A4, .int .i64 A5, .int .i64 A6, .bool A7]⟩)] [.agg [(.int .i64), (.int .i64), (.int .i64), (.int .i64)]] w K
def dG (a0 : Value) (w : World) (K : Bool -> World -> Prop) : Prop :=
 aj Tryz.prog 35 [a0] [.one .bool] w K
theorem qX {a0 w K K'} : dG a0 w K -> (∀ x0 w, K x0 w -> K' x0 w) -> dG a0 w K' := aj.mono
def bg (a0 : ah) (a1 : Value) (w : World) (K : Value -> World -> Prop) : Prop :=
 aj Tryz.prog 36 [.slice a0.a a0.len a0.cap, a1] [.one .any] w K
theorem jL {a0 a1 w K K'} : bg a0 a1 w K -> (∀ x0 w, K x0 w -> K' x0 w) -> bg a0 a1 w K' := aj.mono
abbrev FW : FuncId := 37
def wY (A0 A1 A2 A3 A4 A5 A6 : Int) (A7 : Bool) (w : World) (K : Int -> Int -> Int -> World -> Prop) : Prop :=
 aj Tryz.prog 37 [(.agg ⟨[.int .i64 A0, .int .i64 A1, .int .i64 A2, .int .i64 A3, .int .i64 A4, .int .i64 A5, .int .i64 A6, .bool A7]⟩)] [.agg [(.int .i64), (.int .i64), (.int .i64)]] w K
def aK (a0 : ah) (a1 : Value) (w : World) (K : Int -> World -> Prop) : Prop :=
 aj Tryz.prog 38 [.slice a0.a a0.len a0.cap, a1] [.one (.int .i64)] w K
theorem fZ {a0 a1 w K K'} : aK a0 a1 w K -> (∀ x0 w, K x0 w -> K' x0 w) -> aK a0 a1 w K' := aj.mono
abbrev lK : FuncId := 39
def yh (A0 A1 A2 A3 A4 A5 A6 : Int) (A7 : Bool) (f0 : Addr) (w : World) (K : Bool -> World -> Prop) : Prop :=
 aj Tryz.prog 39 [(.agg ⟨[.int .i64 A0, .int .i64 A1, .int .i64 A2, .int .i64 A3, .int .i64 A4, .int .i64 A5, .int .i64 A6, .bool A7]⟩), (.pointer (some f0))] [.one .bool] w K
def bC (a0 : ah) (a1 : Int) (w : World) (K : Bool -> World -> Prop) : Prop :=
 aj Tryz.prog 40 [.slice a0.a a0.len a0.cap, .int .i64 a1] [.one .bool] w K
theorem dS {a0 a1 w K K'} : bC a0 a1 w K -> (∀ x0 w, K x0 w -> K' x0 w) -> bC a0 a1 w K' := aj.mono
def aJ (a0 : ah) (a1 : Value) (w : World) (K : Int -> World -> Prop) : Prop :=
 aj Tryz.prog 41 [.slice a0.a a0.len a0.cap, a1] [.one (.int .i64)] w K
theorem f_ {a0 a1 w K K'} : aJ a0 a1 w K -> (∀ x0 w, K x0 w -> K' x0 w) -> aJ a0 a1 w K' := aj.mono
abbrev wC : FuncId := 42
def wQ (a0 : Value) (f0 f1 : Addr) (w : World) (K : World -> Prop) : Prop :=
 aj Tryz.prog 42 [a0, (.pointer (some f0)), (.pointer (some f1))] [] w K
def aN (a0 : ah) (B0 B1 B2 B3 B4 B5 B6 : Int) (B7 : Bool) (w : World) (K : Bool -> World -> Prop) : Prop :=
 aj Tryz.prog 43 [.slice a0.a a0.len a0.cap, (.agg ⟨[.int .i64 B0, .int .i64 B1, .int .i64 B2, .int .i64 B3, .int .i64 B4, .int .i64 B5, .int .i64 B6, .bool B7]⟩)] [.one .bool] w K
theorem gG {a0 B0 B1 B2 B3 B4 B5 B6 B7 w K K'} : aN a0 B0 B1 B2 B3 B4 B5 B6 B7 w K -> (∀ x0 w, K x0 w -> K' x0 w) -> aN a0 B0 B1 B2 B3 B4 B5 B6 B7 w K' := aj.mono
def mQ (a0 : ByteArray) (w : World) (K : Int -> Int -> Int -> Int -> Int -> Int -> Int -> Int -> Int -> World -> Prop) : Prop :=
 aj Tryz.prog 44 [.string a0] [.agg [(.int .i64), (.int .i64), (.int .i64), (.int .i64), (.int .i64), (.int .i64), (.int .i64), (.int .i64)], .one (.int .i64)] w K
theorem Gj {a0 w K K'} : mQ a0 w K -> (∀ x0 x1 x2 x3 x4 x5 x6 x7 x8 w, K x0 x1 x2 x3 x4 x5 x6 x7 x8 w -> K' x0 x1 x2 x3 x4 x5 x6 x7 x8 w) -> mQ a0 w K' := aj.mono
abbrev xX : FuncId := 45
def yV (A0 A1 A2 A3 A4 A5 A6 A7 A8 A9 A10 A11 A12 A13 A14 A15 : Int) (w : World) (K : Bool -> World -> Prop) : Prop :=
 aj Tryz.prog 45 [.agg ⟨gq A0 A1 A2 A3 A4 A5 A6 A7 A8 A9 A10 A11 A12 A13 A14 A15⟩] [.one .bool] w K
def lT (A0 A1 A2 A3 A4 A5 A6 A7 A8 A9 A10 A11 A12 A13 A14 A15 : Int) (w : World) (K : Bool -> World -> Prop) : Prop :=
 aj Tryz.prog 46 [.agg ⟨gq A0 A1 A2 A3 A4 A5 A6 A7 A8 A9 A10 A11 A12 A13 A14 A15⟩] [.one .bool] w K
theorem zJ {A0 A1 A2 A3 A4 A5 A6 A7 A8 A9 A10 A11 A12 A13 A14 A15 w K K'} : lT A0 A1 A2 A3 A4 A5 A6 A7 A8 A9 A10 A11 A12 A13 A14 A15 w K -> (∀ x0 w, K x0 w -> K' x0 w) -> lT A0 A1 A2 A3 A4 A5 A6 A7 A8 A9 A10 A11 A12 A13 A14 A15 w K' := aj.mono
abbrev yU : FuncId := 47
def yY (a0 : Int) (w : World) (K : Bool -> World -> Prop) : Prop :=
 aj Tryz.prog 47 [.int .i64 a0] [.one .bool] w K
def iT (a0 : Int) (w : World) (K : Bool -> World -> Prop) : Prop :=
 aj Tryz.prog 48 [.int .i64 a0] [.one .bool] w K
theorem rO {a0 w K K'} : iT a0 w K -> (∀ x0 w, K x0 w -> K' x0 w) -> iT a0 w K' := aj.mono
abbrev xZ : FuncId := 49
def yS (A0 A1 A2 A3 A4 A5 A6 : Int) (f0 : Addr) (w : World) (K : Bool -> World -> Prop) : Prop :=
 aj Tryz.prog 49 [(.agg ⟨[.int .i64 A0, .int .i64 A1, .int .i64 A2, .int .i64 A3, .int .i64 A4, .int .i64 A5, .int .i64 A6]⟩), (.pointer (some f0))] [.one .bool] w K
def jJ (A0 A1 A2 A3 A4 A5 A6 A7 A8 A9 A10 A11 A12 A13 A14 A15 : Int) (A16 A17 : ah) (A18 A19 A20 A21 A22 A23 A24 A25 A26 A27 A28 A29 A30 A31 A32 A33 A34 : Int) (A35 : ah) (B0 B1 B2 B3 B4 B5 B6 : Int) (w : World) (K : Bool -> World -> Prop) : Prop :=
 aj Tryz.prog 50 [.agg ⟨gU A0 A1 A2 A3 A4 A5 A6 A7 A8 A9 A10 A11 A12 A13 A14 A15 A16 A17 A18 A19 A20 A21 A22 A23 A24 A25 A26 A27 A28 A29 A30 A31 A32 A33 A34 A35⟩, (.agg ⟨[.int .i64 B0, .int .i64 B1, .int .i64 B2, .int .i64 B3, .int .i64 B4, .int .i64 B5, .int .i64 B6]⟩)] [.one .bool] w K
theorem AQ {A0 A1 A2 A3 A4 A5 A6 A7 A8 A9 A10 A11 A12 A13 A14 A15 A16 A17 A18 A19 A20 A21 A22 A23 A24 A25 A26 A27 A28 A29 A30 A31 A32 A33 A34 A35 B0 B1 B2 B3 B4 B5 B6 w K K'} : jJ A0 A1 A2 A3 A4 A5 A6 A7 A8 A9 A10 A11 A12 A13 A14 A15 A16 A17 A18 A19 A20 A21 A22 A23 A24 A25 A26 A27 A28 A29 A30 A31 A32 A33 A34 A35 B0 B1 B2 B3 B4 B5 B6 w K -> (∀ x0 w, K x0 w -> K' x0 w) -> jJ A0 A1 A2 A3 A4 A5 A6 A7 A8 A9 A10 A11 A12 A13 A14 A15 A16 A17 A18 A19 A20 A21 A22 A23 A24 A25 A26 A27 A28 A29 A30 A31 A32 A33 A34 A35 B0 B1 B2 B3 B4 B5 B6 w K' := aj.mono
def aS (a0 : ah) (a1 : Value) (w : World) (K : Bool -> World -> Prop) : Prop :=
 aj Tryz.prog 51 [.slice a0.a a0.len a0.cap, a1] [.one .bool] w K
theorem iR {a0 a1 w K K'} : aS a0 a1 w K -> (∀ x0 w, K x0 w -> K' x0 w) -> aS a0 a1 w K' := aj.mono
def aZ (a0 : ah) (a1 : Value) (w : World) (K : Bool -> World -> Prop) : Prop :=
 aj Tryz.prog 52 [.slice a0.a a0.len a0.cap, a1] [.one .bool] w K
theorem fQ {a0 a1 w K K'} : aZ a0 a1 w K -> (∀ x0 w, K x0 w -> K' x0 w) -> aZ a0 a1 w K' := aj.mono
def aI (a0 : ah) (a1 : Value) (w : World) (K : Bool -> World -> Prop) : Prop :=
 aj Tryz.prog 53 [.slice a0.a a0.len a0.cap, a1] [.one .bool] w K
theorem fO {a0 a1 w K K'} : aI a0 a1 w K -> (∀ x0 w, K x0 w -> K' x0 w) -> aI a0 a1 w K' := aj.mono
def aT (a0 : ah) (w : World) (K : ah -> World -> Prop) : Prop :=
 aj Tryz.prog 54 [.slice a0.a a0.len a0.cap] [.one .slice] w K
theorem fE {a0 w K K'} : aT a0 w K -> (∀ x0 w, K x0 w -> K' x0 w) -> aT a0 w K' := aj.mono
abbrev vY : FuncId := 55
def oz (A0 A1 A2 A3 A4 A5 A6 : Int) (w : World) (K : Int -> Int -> Int -> Int -> World -> Prop) : Prop :=
 aj Tryz.prog 55 [(.agg ⟨[.int .i64 A0, .int .i64 A1, .int .i64 A2, .int .i64 A3, .int .i64 A4, .int .i64 A5, .int .i64 A6]⟩)] [.agg [(.int .i64), (.int .i64), (.int .i64), (.int .i64)]] w K
abbrev vS : FuncId := 56
def og (A0 A1 A2 A3 A4 A5 A6 : Int) (w : World) (K : Int -> Int -> Int -> World -> Prop) : Prop :=
 aj Tryz.prog 56 [(.agg ⟨[.int .i64 A0, .int .i64 A1, .int .i64 A2, .int .i64 A3, .int .i64 A4, .int .i64 A5, .int .i64 A6]⟩)] [.agg [(.int .i64), (.int .i64), (.int .i64)]] w K
def dA (a0 : Value) (w : World) (K : Bool -> World -> Prop) : Prop :=
 aj Tryz.prog 57 [a0] [.one .bool] w K
theorem qI {a0 w K K'} : dA a0 w K -> (∀ x0 w, K x0 w -> K' x0 w) -> dA a0 w K' := aj.mono
def bJ (a0 : ah) (a1 : Value) (w : World) (K : Value -> World -> Prop) : Prop :=
 aj Tryz.prog 58 [.slice a0.a a0.len a0.cap, a1] [.one .any] w K
theorem lD {a0 a1 w K K'} : bJ a0 a1 w K -> (∀ x0 w, K x0 w -> K' x0 w) -> bJ a0 a1 w K' := aj.mono
abbrev qE : FuncId := 59
def jU (A0 A1 A2 A3 A4 A5 A6 A7 A8 A9 A10 A11 A12 A13 A14 A15 : Int) (w : World) (K : Int -> Int -> Int -> Int -> Int -> Int -> Int -> Int -> Int -> Int -> Int -> Int -> Int -> Int -> Int -> Int -> World -> Prop) : Prop :=
 aj Tryz.prog 59 [.agg ⟨gq A0 A1 A2 A3 A4 A5 A6 A7 A8 A9 A10 A11 A12 A13 A14 A15⟩] [.agg JY] w K
def dU (a0 : Value) (w : World) (K : Bool -> World -> Prop) : Prop :=
 aj Tryz.prog 60 [a0] [.one .bool] w K
theorem uK {a0 w K K'} : dU a0 w K -> (∀ x0 w, K x0 w -> K' x0 w) -> dU a0 w K' := aj.mono
def dI (a0 : ah) (a1 : Value) (w : World) (K : Value -> World -> Prop) : Prop :=
 aj Tryz.prog 61 [.slice a0.a a0.len a0.cap, a1] [.one .any] w K
theorem qQ {a0 a1 w K K'} : dI a0 a1 w K -> (∀ x0 w, K x0 w -> K' x0 w) -> dI a0 a1 w K' := aj.mono
abbrev uJ : FuncId := 62
def uy (a0 : Int) (w : World) (K : Int -> World -> Prop) : Prop :=
 aj Tryz.prog 62 [.int .i64 a0] [.one (.int .i64)] w K
def b_ (a0 : Value) (w : World) (K : Bool -> World -> Prop) : Prop :=
 aj Tryz.prog 63 [a0] [.one .bool] w K
theorem oP {a0 w K K'} : b_ a0 w K -> (∀ x0 w, K x0 w -> K' x0 w) -> b_ a0 w K' := aj.mono
def aX (a0 : ah) (a1 : Value) (w : World) (K : Value -> World -> Prop) : Prop :=
 aj Tryz.prog 64 [.slice a0.a a0.len a0.cap, a1] [.one .any] w K
theorem jl {a0 a1 w K K'} : aX a0 a1 w K -> (∀ x0 w, K x0 w -> K' x0 w) -> aX a0 a1 w K' := aj.mono
def cO (a0 : Value) (w : World) (K : Bool -> World -> Prop) : Prop :=
 aj Tryz.prog 65 [a0] [.one .bool] w K
theorem oL {a0 w K K'} : cO a0 w K -> (∀ x0 w, K x0 w -> K' x0 w) -> cO a0 w K' := aj.mono
def aW (a0 : ah) (a1 : Value) (w : World) (K : Value -> World -> Prop) : Prop :=
 aj Tryz.prog 66 [.slice a0.a a0.len a0.cap, a1] [.one .any] w K
theorem jC {a0 a1 w K K'} : aW a0 a1 w K -> (∀ x0 w, K x0 w -> K' x0 w) -> aW a0 a1 w K' := aj.mono
abbrev vI : FuncId := 67
def vP (a0 : Int) (f0 : Addr) (w : World) (K : Bool -> World -> Prop) : Prop :=
 aj Tryz.prog 67 [.int .i64 a0, (.pointer (some f0))] [.one .bool] w K
abbrev jH : FuncId := 68
def jm (a0 : Value) (f0 f1 : Addr) (w : World) (K : World -> Prop) : Prop :=
 aj Tryz.prog 68 [a0, (.pointer (some f0)), (.pointer (some f1))] [] w K
abbrev jA : FuncId := 69
def jD (a0 : Value) (f0 f1 : Addr) (w : World) (K : World -> Prop) : Prop :=
 aj Tryz.prog 69 [a0, (.pointer (some f0)), (.pointer (some f1))] [] w K
def dD (a0 : ah) (a1 : Int) (w : World) (K : Int -> World -> Prop) : Prop :=
 aj Tryz.prog 70 [.slice a0.a a0.len a0.cap, .int .i64 a1] [.one (.int .i64)] w K
theorem qw {a0 a1 w K K'} : dD a0 a1 w K -> (∀ x0 w, K x0 w -> K' x0 w) -> dD a0 a1 w K' := aj.mono
def aQ (a0 : ah) (B0 B1 B2 B3 B4 B5 B6 : Int) (B7 : Bool) (w : World) (K : Int -> World -> Prop) : Prop :=
 aj Tryz.prog 71 [.slice a0.a a0.len a0.cap, (.agg ⟨[.int .i64 B0, .int .i64 B1, .int .i64 B2, .int .i64 B3, .int .i64 B4, .int .i64 B5, .int .i64 B6, .bool B7]⟩)] [.one (.int .i64)] w K
theorem iy {a0 B0 B1 B2 B3 B4 B5 B6 B7 w K K'} : aQ a0 B0 B1 B2 B3 B4 B5 B6 B7 w K -> (∀ x0 w, K x0 w -> K' x0 w) -> aQ a0 B0 B1 B2 B3 B4 B5 B6 B7 w K' := aj.mono
def dX (a0 a1 : ByteArray) (w : World) (K : ah -> World -> Prop) : Prop :=
 aj Tryz.prog 72 [.string a0, .string a1] [.one .slice] w K
theorem qF {a0 a1 w K K'} : dX a0 a1 w K -> (∀ x0 w, K x0 w -> K' x0 w) -> dX a0 a1 w K' := aj.mono
def kV (a0 : Int) (w : World) (K : ByteArray -> Int -> Bool -> World -> Prop) : Prop :=
 aj Tryz.prog 73 [.int .i64 a0] [.agg [.str, (.int .i64)], .one .bool] w K
theorem DV {a0 w K K'} : kV a0 w K -> (∀ x0 x1 x2 w, K x0 x1 x2 w -> K' x0 x1 x2 w) -> kV a0 w K' := aj.mono
def nX (a0 : Int) (a1 : ah) (w : World) (K : Int -> Int -> Int -> Int -> Int -> Int -> Int -> Int -> Bool -> World -> Prop) : Prop :=
 aj Tryz.prog 74 [.int .i64 a0, .slice a1.a a1.len a1.cap] [.agg [(.int .i64), (.int .i64), (.int .i64), (.int .i64), (.int .i64), (.int .i64), (.int .i64), (.int .i64)], .one .bool] w K
theorem G9 {a0 a1 w K K'} : nX a0 a1 w K -> (∀ x0 x1 x2 x3 x4 x5 x6 x7 x8 w, K x0 x1 x2 x3 x4 x5 x6 x7 x8 w -> K' x0 x1 x2 x3 x4 x5 x6 x7 x8 w) -> nX a0 a1 w K' := aj.mono
def jd (a0 : Int) (w : World) (K : Bool -> World -> Prop) : Prop :=
 aj Tryz.prog 75 [.int .i64 a0] [.one .bool] w K
theorem pG {a0 w K K'} : jd a0 w K -> (∀ x0 w, K x0 w -> K' x0 w) -> jd a0 w K' := aj.mono
def qV (a0 : Int) (a1 : ah) (w : World) (K : Bool -> World -> Prop) : Prop :=
 aj Tryz.prog 76 [.int .i64 a0, .slice a1.a a1.len a1.cap] [.one .bool] w K
theorem zh {a0 a1 w K K'} : qV a0 a1 w K -> (∀ x0 w, K x0 w -> K' x0 w) -> qV a0 a1 w K' := aj.mono
def iL (a0 : Int) (w : World) (K : Bool -> World -> Prop) : Prop :=
 aj Tryz.prog 77 [.int .i64 a0] [.one .bool] w K
theorem Ae {a0 w K K'} : iL a0 w K -> (∀ x0 w, K x0 w -> K' x0 w) -> iL a0 w K' := aj.mono
def aV (a0 : ah) (a1 : Value) (w : World) (K : Int -> World -> Prop) : Prop :=
 aj Tryz.prog 78 [.slice a0.a a0.len a0.cap, a1] [.one (.int .i64)] w K
theorem jq {a0 a1 w K K'} : aV a0 a1 w K -> (∀ x0 w, K x0 w -> K' x0 w) -> aV a0 a1 w K' := aj.mono
def bW (a0 : ah) (a1 : Value) (w : World) (K : Int -> World -> Prop) : Prop :=
 aj Tryz.prog 79 [.slice a0.a a0.len a0.cap, a1] [.one (.int .i64)] w K
theorem nR {a0 a1 w K K'} : bW a0 a1 w K -> (∀ x0 w, K x0 w -> K' x0 w) -> bW a0 a1 w K' := aj.mono
def aO (a0 : ah) (a1 : Value) (w : World) (K : Int -> World -> Prop) : Prop :=
 aj Tryz.prog 80 [.slice a0.a a0.len a0.cap, a1] [.one (.int .i64)] w K
theorem gJ {a0 a1 w K K'} : aO a0 a1 w K -> (∀ x0 w, K x0 w -> K' x0 w) -> aO a0 a1 w K' := aj.mono
abbrev kZ : FuncId := 81
def lC (a0 : Value) (f0 f1 : Addr) (w : World) (K : World -> Prop) : Prop :=
 aj Tryz.prog 81 [a0, (.pointer (some f0)), (.pointer (some f1))] [] w K
abbrev qC : FuncId := 82
def qB (a0 : Value) (f0 f1 : Addr) (w : World) (K : World -> Prop) : Prop :=
 aj Tryz.prog 82 [a0, (.pointer (some f0)), (.pointer (some f1))] [] w K
abbrev ji : FuncId := 83
def jg (a0 : Value) (f0 f1 : Addr) (w : World) (K : World -> Prop) : Prop :=
 aj Tryz.prog 83 [a0, (.pointer (some f0)), (.pointer (some f1))] [] w K
abbrev jk : FuncId := 84
def jf (a0 : Value) (f0 f1 : Addr) (w : World) (K : World -> Prop) : Prop :=
 aj Tryz.prog 84 [a0, (.pointer (some f0)), (.pointer (some f1))] [] w K
def gB (a0 a1 : ByteArray) (a2 a3 : Int) (w : World) (K : ah -> World -> Prop) : Prop :=
 aj Tryz.prog 85 [.string a0, .string a1, .int .i64 a2, .int .i64 a3] [.one .slice] w K
theorem uD {a0 a1 a2 a3 w K K'} : gB a0 a1 a2 a3 w K -> (∀ x0 w, K x0 w -> K' x0 w) -> gB a0 a1 a2 a3 w K' := aj.mono
def bP (a0 : Option Addr) (a1 : Int) (w : World) (K : Int -> World -> Prop) : Prop :=
 aj Tryz.prog 86 [.pointer a0, .int .i64 a1] [.one (.int .i64)] w K
theorem eF {a0 a1 w K K'} : bP a0 a1 w K -> (∀ x0 w, K x0 w -> K' x0 w) -> bP a0 a1 w K' := aj.mono
def dJ (a0 : Option Addr) (w : World) (K : Int -> Int -> Int -> Int -> World -> Prop) : Prop :=
 aj Tryz.prog 87 [.pointer a0] [.agg [(.int .i64), (.int .i64), (.int .i64), (.int .i64)]] w K
theorem nC {a0 w K K'} : dJ a0 w K -> (∀ x0 x1 x2 x3 w, K x0 x1 x2 x3 w -> K' x0 x1 x2 x3 w) -> dJ a0 w K' := aj.mono
def dK (a0 : Option Addr) (w : World) (K : Int -> World -> Prop) : Prop :=
 aj Tryz.prog 88 [.pointer a0] [.one (.int .i64)] w K
theorem oC {a0 w K K'} : dK a0 w K -> (∀ x0 w, K x0 w -> K' x0 w) -> dK a0 w K' := aj.mono
def fK (A0 A1 a1 : Int) (w : World) (K : Bool -> World -> Prop) : Prop :=
 aj Tryz.prog 89 [(.agg ⟨[.int .i64 A0, .int .i64 A1]⟩), .int .i64 a1] [.one .bool] w K
theorem o9 {A0 A1 a1 w K K'} : fK A0 A1 a1 w K -> (∀ x0 w, K x0 w -> K' x0 w) -> fK A0 A1 a1 w K' := aj.mono
def xM (a0 : ByteArray) (a1 : Int) (w : World) (K : ah -> World -> Prop) : Prop :=
 aj Tryz.prog 90 [.string a0, .int .i64 a1] [.one .slice] w K
def gW (a0 a1 : ByteArray) (w : World) (K : Int -> World -> Prop) : Prop :=
 aj Tryz.prog 91 [.string a0, .string a1] [.one (.int .i64)] w K
theorem yI {a0 a1 w K K'} : gW a0 a1 w K -> (∀ x0 w, K x0 w -> K' x0 w) -> gW a0 a1 w K' := aj.mono
def dZ (a0 a1 : ByteArray) (w : World) (K : Int -> World -> Prop) : Prop :=
 aj Tryz.prog 92 [.string a0, .string a1] [.one (.int .i64)] w K
theorem yE {a0 a1 w K K'} : dZ a0 a1 w K -> (∀ x0 w, K x0 w -> K' x0 w) -> dZ a0 a1 w K' := aj.mono
def kP (a0 : ByteArray) (a1 : Int) (w : World) (K : Int -> Bool -> World -> Prop) : Prop :=
 aj Tryz.prog 93 [.string a0, .int .i64 a1] [.one (.int .i64), .one .bool] w K
theorem DN {a0 a1 w K K'} : kP a0 a1 w K -> (∀ x0 x1 w, K x0 x1 w -> K' x0 x1 w) -> kP a0 a1 w K' := aj.mono
def dB (a0 : Option Addr) (w : World) (K : ByteArray -> World -> Prop) : Prop :=
 aj Tryz.prog 94 [.pointer a0] [.one .str] w K
theorem jO {a0 w K K'} : dB a0 w K -> (∀ x0 w, K x0 w -> K' x0 w) -> dB a0 w K' := aj.mono
def dR (a0 : Option Addr) (w : World) (K : Int -> World -> Prop) : Prop :=
 aj Tryz.prog 95 [.pointer a0] [.one (.int .i64)] w K
theorem uw {a0 w K K'} : dR a0 w K -> (∀ x0 w, K x0 w -> K' x0 w) -> dR a0 w K' := aj.mono
def ku (a0 : ByteArray) (w : World) (K : Int -> Int -> World -> Prop) : Prop :=
 aj Tryz.prog 96 [.string a0] [.one (.int .i64), .one (.int .i64)] w K
theorem DT {a0 w K K'} : ku a0 w K -> (∀ x0 x1 w, K x0 x1 w -> K' x0 x1 w) -> ku a0 w K' := aj.mono
def kJ (a0 : ByteArray) (w : World) (K : Int -> World -> Prop) : Prop :=
 aj Tryz.prog 97 [.string a0] [.one (.int .i64)] w K
def dh (a0 a1 : ByteArray) (w : World) (K : Int -> World -> Prop) : Prop :=
 aj Tryz.prog 100 [.string a0, .string a1] [.one (.int .i64)] w K
theorem mM {a0 a1 w K K'} : dh a0 a1 w K -> (∀ x0 w, K x0 w -> K' x0 w) -> dh a0 a1 w K' := aj.mono
def mO (a0 : ByteArray) (w : World) (K : Int -> Bool -> World -> Prop) : Prop :=
 aj Tryz.prog 101 [.string a0] [.one (.int .i64), .one .bool] w K
theorem Gf {a0 w K K'} : mO a0 w K -> (∀ x0 x1 w, K x0 x1 w -> K' x0 x1 w) -> mO a0 w K' := aj.mono
def mD (a0 : ByteArray) (w : World) (K : Int -> Bool -> World -> Prop) : Prop :=
 aj Tryz.prog 102 [.string a0] [.one (.int .i64), .one .bool] w K
theorem EL {a0 w K K'} : mD a0 w K -> (∀ x0 x1 w, K x0 x1 w -> K' x0 x1 w) -> mD a0 w K' := aj.mono
def bF (a0 : ByteArray) (a1 : Int) (w : World) (K : Int -> World -> Prop) : Prop :=
 aj Tryz.prog 104 [.string a0, .int .u8 a1] [.one (.int .i64)] w K
theorem jY {a0 a1 w K K'} : bF a0 a1 w K -> (∀ x0 w, K x0 w -> K' x0 w) -> bF a0 a1 w K' := aj.mono
def ou (a0 : Int) (w : World) (K : Int -> World -> Prop) : Prop :=
 aj Tryz.prog 106 [.int .i64 a0] [.one (.int .i64)] w K
def g_ (a0 a1 : ByteArray) (w : World) (K : Int -> World -> Prop) : Prop :=
 aj Tryz.prog 107 [.string a0, .string a1] [.one (.int .i64)] w K
def nZ (a0 : Int) (w : World) (K : ByteArray -> World -> Prop) : Prop :=
 aj Tryz.prog 108 [.int .i64 a0] [.one .str] w K
theorem Ij {a0 w K K'} : nZ a0 w K -> (∀ x0 w, K x0 w -> K' x0 w) -> nZ a0 w K' := aj.mono
theorem vN {A0 A1 A2 A3 A4 A5 A6 A7 A8 A9 A10 A11 A12 A13 A14 A15 A16 A17 A18 A19 A20 A21 A22 A23 A24 A25 A26 A27 A28 A29 A30 A31 A32 A33 A34 A35 B0 B1 B2 B3 B4 B5 B6 C0 C1 C2 C3 w K} : aY (o8 A0 A1 A2 A3 A4 A5 A6 A7 A8 A9 A10 A11 A12 A13 A14 A15 A16 A17 A18 A19 A20 A21 A22 A23 A24 A25 A26 A27 A28 A29 A30 A31 A32 A33 A34 A35 B0 B1 B2 B3 B4 B5 B6 C0 C1 C2 C3 w K)
 (Al w (.cells ⟨(gU A0 A1 A2 A3 A4 A5 A6 A7 A8 A9 A10 A11 A12 A13 A14 A15 A16 A17 A18 A19 A20 A21 A22 A23 A24 A25 A26 A27 A28 A29 A30 A31 A32 A33 A34 A35)⟩ 28) fun a5 w4 => Al w4 (.cells ⟨[(Value.int .i64 B0), (Value.slice B1.a B1.len B1.cap), (Value.slice B2.a B2.len B2.cap), (Value.int .i64 B3), (Value.int .i64 B4), (Value.int .i64 B5), (Value.slice B6.a B6.len B6.cap)]⟩ 32) fun a7 w6 => Al w6 (.cells ⟨[(Value.int .i64 C0), (Value.int .i64 C1), (Value.int .i64 C2), (Value.slice C3.a C3.len C3.cap)]⟩ 35) fun a9 w8 => let J10 : Bool -> World -> Prop := fun j11 w12 => ((bif j11 then
 gZ  w12 fun r13 w14 => K r13 w14
 else
 let J15 : Bool -> World -> Prop := fun j16 w17 => (K j16 w17)
 rW w12.drew a5 fun x18 x19 x20 x21 x22 x23 x24 x25 x26 x27 x28 x29 x30 x31 x32 x33 x34 x35 x36 x37 x38 x39 x40 x41 x42 x43 x44 x45 x46 x47 x48 x49 x50 x51 x52 x53 => Ld (.int .i64) w12.drew (a7.add 0) fun x54 => Ld .slice w12.drew (a7.add 1) fun x55 => Ld .slice w12.drew (a7.add 2) fun x56 => Ld (.int .i64) w12.drew (a7.add 3) fun x57 => Ld (.int .i64) w12.drew (a7.add 4) fun x58 => Ld (.int .i64) w12.drew (a7.add 5) fun x59 => Ld .slice w12.drew (a7.add 6) fun x60 => Ld (.int .i64) w12.drew (a7.add 0) fun x61 => Ld .slice w12.drew (a7.add 1) fun x62 => Ld .slice w12.drew (a7.add 2) fun x63 => Ld (.int .i64) w12.drew (a7.add 3) fun x64 => Ld (.int .i64) w12.drew (a7.add 4) fun x65 => Ld (.int .i64) w12.drew (a7.add 5) fun x66 => Ld .slice w12.drew (a7.add 6) fun x67 => Ld (.int .i64) w12.drew (a9.add 0) fun x68 => Ld (.int .i64) w12.drew (a9.add 1) fun x69 => Ld (.int .i64) w12.drew (a9.add 2) fun x70 => Ld .slice w12.drew (a9.add 3) fun x71 => rW w12.drew a5 fun x72 x73 x74 x75 x76 x77 x78 x79 x80 x81 x82 x83 x84 x85 x86 x87 x88 x89 x90 x91 x92 x93 x94 x95 x96 x97 x98 x99 x100 x101 x102 x103 x104 x105 x106 x107 => Ld (.int .i64) w12.drew (a7.add 0) fun x108 => Ld .slice w12.drew (a7.add 1) fun x109 => Ld .slice w12.drew (a7.add 2) fun x110 => Ld (.int .i64) w12.drew (a7.add 3) fun x111 => Ld (.int .i64) w12.drew (a7.add 4) fun x112 => Ld (.int .i64) w12.drew (a7.add 5) fun x113 => Ld .slice w12.drew (a7.add 6) fun x114 => kT x18 x19 x20 x21 x22 x23 x24 x25 x26 x27 x28 x29 x30 x31 x32 x33 x34 x35 x36 x37 x38 x39 x40 x41 x42 x43 x44 x45 x46 x47 x48 x49 x50 x51 x52 x53 x54 x55 x56 x57 x58 x59 x60 x61 x62 x63 x64 x65 x66 x67 x68 x69 x70 x71 w12.drew fun r115 w116 => w116.cell? (a7.add 0) = some (Value.int .i64 x108) ∧
 w116.cell? (a7.add 1) = some (Value.slice x109.a x109.len x109.cap) ∧
 w116.cell? (a7.add 2) = some (Value.slice x110.a x110.len x110.cap) ∧
 w116.cell? (a7.add 3) = some (Value.int .i64 x111) ∧
 w116.cell? (a7.add 4) = some (Value.int .i64 x112) ∧
 w116.cell? (a7.add 5) = some (Value.int .i64 x113) ∧
 w116.cell? (a7.add 6) = some (Value.slice x114.a x114.len x114.cap) ∧
 Tc (gU x72 x73 x74 x75 x76 x77 x78 x79 x80 x81 x82 x83 x84 x85 x86 x87 x88 x89 x90 x91 x92 x93 x94 x95 x96 x97 x98 x99 x100 x101 x102 x103 x104 x105 x106 x107) w116 a5 0 (
 gY x72 x73 x74 x75 x76 x77 x78 x79 x80 x81 x82 x83 x84 x85 x86 x87 x88 x89 x90 x91 x92 x93 x94 x95 x96 x97 x98 x99 x100 x101 x102 x103 x104 x105 x106 x107 x108 x109 x110 x111 x112 x113 x114 w116 fun r117 w118 => (bif (r115 == r117) then
 Ld (.int .i64) w118 (a7.add 0) fun x119 => Ld .slice w118 (a7.add 1) fun x120 => Ld .slice w118 (a7.add 2) fun x121 => Ld (.int .i64) w118 (a7.add 3) fun x122 => Ld (.int .i64) w118 (a7.add 4) fun x123 => Ld (.int .i64) w118 (a7.add 5) fun x124 => Ld .slice w118 (a7.add 6) fun x125 => Ld (.int .i64) w118 (a7.add 0) fun x126 => Ld .slice w118 (a7.add 1) fun x127 => Ld .slice w118 (a7.add 2) fun x128 => Ld (.int .i64) w118 (a7.add 3) fun x129 => Ld (.int .i64) w118 (a7.add 4) fun x130 => Ld (.int .i64) w118 (a7.add 5) fun x131 => Ld .slice w118 (a7.add 6) fun x132 => kM x119 x120 x121 x122 x123 x124 x125 x126 x127 x128 x129 x130 x131 x132 w118 fun r133 w134 => (bif ((r133.len : Int) == 0) then
 gZ  w134 fun r135 w136 => J15 r135 w136
 else
 J15 false w134)
 else
 J15 false w118))))
 Ld (.int .i64) w8 (a7.add 0) fun x137 => Ld .slice w8 (a7.add 1) fun x138 => Ld .slice w8 (a7.add 2) fun x139 => Ld (.int .i64) w8 (a7.add 3) fun x140 => Ld (.int .i64) w8 (a7.add 4) fun x141 => Ld (.int .i64) w8 (a7.add 5) fun x142 => Ld .slice w8 (a7.add 6) fun x143 => mV x137 x138 x139 x140 x141 x142 x143 w8 fun r144 w145 => (bif (!r144) then
 J10 true w145
 else
 rW w145 a5 fun x146 x147 x148 x149 x150 x151 x152 x153 x154 x155 x156 x157 x158 x159 x160 x161 x162 x163 x164 x165 x166 x167 x168 x169 x170 x171 x172 x173 x174 x175 x176 x177 x178 x179 x180 x181 => jo x146 x147 x148 x149 x150 x151 x152 x153 x154 x155 x156 x157 x158 x159 x160 x161 x162 x163 x164 x165 x166 x167 x168 x169 x170 x171 x172 x173 x174 x175 x176 x177 x178 x179 x180 x181 w145 fun r182 w183 => (bif (!r182) then
 J10 true w183
 else
 Ld .slice w183 (a9.add 3) fun x184 => J10 (decide ((x184.len : Int) > 300)) w183))) := okF dW Tryz.func3 .leaf (by kernel_rfl)
theorem Fz {A0 A1 A2 A3 A4 A5 A6 w K} : aY (mV A0 A1 A2 A3 A4 A5 A6 w K)
 (Al w (.cells ⟨[(Value.int .i64 A0), (Value.slice A1.a A1.len A1.cap), (Value.slice A2.a A2.len A2.cap), (Value.int .i64 A3), (Value.int .i64 A4), (Value.int .i64 A5), (Value.slice A6.a A6.len A6.cap)]⟩ 32) fun a3 w2 => let J4 : Bool -> Prop := fun j5 => (K j5 w2)
 Ld .slice w2 (a3.add 1) fun x6 => (bif (decide ((x6.len : Int) <= 40)) then
 Ld .slice w2 (a3.add 2) fun x7 => J4 (decide ((x7.len : Int) <= 60))
 else
 J4 false)) := okF dW Tryz.func4 .leaf (by kernel_rfl)
theorem AZ {A0 A1 A2 A3 A4 A5 A6 A7 A8 A9 A10 A11 A12 A13 A14 A15 A16 A17 A18 A19 A20 A21 A22 A23 A24 A25 A26 A27 A28 A29 A30 A31 A32 A33 A34 A35 w K} : aY (jo A0 A1 A2 A3 A4 A5 A6 A7 A8 A9 A10 A11 A12 A13 A14 A15 A16 A17 A18 A19 A20 A21 A22 A23 A24 A25 A26 A27 A28 A29 A30 A31 A32 A33 A34 A35 w K)
 (Al w (.cells ⟨(gU A0 A1 A2 A3 A4 A5 A6 A7 A8 A9 A10 A11 A12 A13 A14 A15 A16 A17 A18 A19 A20 A21 A22 A23 A24 A25 A26 A27 A28 A29 A30 A31 A32 A33 A34 A35)⟩ 28) fun a3 w2 => let J4 : Bool -> Prop := fun j5 => (K j5 w2)
 Ld .slice w2 (a3.add 16) fun x6 => (bif (decide ((x6.len : Int) <= 8)) then
 Ld .slice w2 (a3.add 17) fun x7 => (bif (decide ((x7.len : Int) <= 4)) then
 Ld .slice w2 (a3.add 35) fun x8 => J4 (decide ((x8.len : Int) <= 12))
 else
 J4 false)
 else
 J4 false)) := okF dW Tryz.func5 .leaf (by kernel_rfl)
theorem DY {A0 A1 A2 A3 A4 A5 A6 A7 A8 A9 A10 A11 A12 A13 A14 A15 A16 A17 A18 A19 A20 A21 A22 A23 A24 A25 A26 A27 A28 A29 A30 A31 A32 A33 A34 A35 B0 B1 B2 B3 B4 B5 B6 C0 C1 C2 C3 C4 C5 C6 D0 D1 D2 D3 w K} : aY (kT A0 A1 A2 A3 A4 A5 A6 A7 A8 A9 A10 A11 A12 A13 A14 A15 A16 A17 A18 A19 A20 A21 A22 A23 A24 A25 A26 A27 A28 A29 A30 A31 A32 A33 A34 A35 B0 B1 B2 B3 B4 B5 B6 C0 C1 C2 C3 C4 C5 C6 D0 D1 D2 D3 w K)
 (Al w (.cells ⟨(gU A0 A1 A2 A3 A4 A5 A6 A7 A8 A9 A10 A11 A12 A13 A14 A15 A16 A17 A18 A19 A20 A21 A22 A23 A24 A25 A26 A27 A28 A29 A30 A31 A32 A33 A34 A35)⟩ 28) fun a6 w5 => Al w5 (.cells ⟨[(Value.int .i64 B0), (Value.slice B1.a B1.len B1.cap), (Value.slice B2.a B2.len B2.cap), (Value.int .i64 B3), (Value.int .i64 B4), (Value.int .i64 B5), (Value.slice B6.a B6.len B6.cap)]⟩ 32) fun a8 w7 => Al w7 (.cells ⟨[(Value.int .i64 C0), (Value.slice C1.a C1.len C1.cap), (Value.slice C2.a C2.len C2.cap), (Value.int .i64 C3), (Value.int .i64 C4), (Value.int .i64 C5), (Value.slice C6.a C6.len C6.cap)]⟩ 32) fun a10 w9 => Al w9 (.cells ⟨[(Value.int .i64 D0), (Value.int .i64 D1), (Value.int .i64 D2), (Value.slice D3.a D3.len D3.cap)]⟩ 35) fun a12 w11 => rW w11 a6 fun x13 x14 x15 x16 x17 x18 x19 x20 x21 x22 x23 x24 x25 x26 x27 x28 x29 x30 x31 x32 x33 x34 x35 x36 x37 x38 x39 x40 x41 x42 x43 x44 x45 x46 x47 x48 => Ld (.int .i64) w11 (a10.add 0) fun x49 => Ld .slice w11 (a10.add 1) fun x50 => Ld .slice w11 (a10.add 2) fun x51 => Ld (.int .i64) w11 (a10.add 3) fun x52 => Ld (.int .i64) w11 (a10.add 4) fun x53 => Ld (.int .i64) w11 (a10.add 5) fun x54 => Ld .slice w11 (a10.add 6) fun x55 => gY x13 x14 x15 x16 x17 x18 x19 x20 x21 x22 x23 x24 x25 x26 x27 x28 x29 x30 x31 x32 x33 x34 x35 x36 x37 x38 x39 x40 x41 x42 x43 x44 x45 x46 x47 x48 x49 x50 x51 x52 x53 x54 x55 w11 fun r56 w57 => (bif (r56 != 0) then
 K r56 w57
 else
 Ld (.int .i64) w57 (a8.add 0) fun x58 => Ld .slice w57 (a8.add 1) fun x59 => Ld .slice w57 (a8.add 2) fun x60 => Ld (.int .i64) w57 (a8.add 3) fun x61 => Ld (.int .i64) w57 (a8.add 4) fun x62 => Ld (.int .i64) w57 (a8.add 5) fun x63 => Ld .slice w57 (a8.add 6) fun x64 => Ld (.int .i64) w57 (a10.add 0) fun x65 => Ld .slice w57 (a10.add 1) fun x66 => Ld .slice w57 (a10.add 2) fun x67 => Ld (.int .i64) w57 (a10.add 3) fun x68 => Ld (.int .i64) w57 (a10.add 4) fun x69 => Ld (.int .i64) w57 (a10.add 5) fun x70 => Ld .slice w57 (a10.add 6) fun x71 => kC x58 x59 x60 x61 x62 x63 x64 x65 x66 x67 x68 x69 x70 x71 w57 fun r72 w73 => let J74 : Bool -> World -> Prop := fun j75 w76 => ((bif j75 then
 K 11 w76
 else
 let J77 : Bool -> World -> Prop := fun j78 w79 => ((bif j78 then
 K 8 w79
 else
 (bif (decide ((r72.len : Int) > 1)) then
 K 10 w79
 else
 K 0 w79)))
 (bif (decide ((r72.len : Int) > 0)) then
 Ld (.int .i64) w76 a12 fun x80 => Dw x80 w76 fun r81 w82 => J77 (!r81) w82
 else
 J77 false w76)))
 Ld (.int .i64) w73 a10 fun x83 => Ld (.int .i64) w73 a8 fun x84 => (bif (decide (x83 < x84)) then
 J74 (decide (x83 < x84)) w73
 else
 Ld (.int .i64) w73 (a8.add 0) fun x85 => Ld .slice w73 (a8.add 1) fun x86 => Ld .slice w73 (a8.add 2) fun x87 => Ld (.int .i64) w73 (a8.add 3) fun x88 => Ld (.int .i64) w73 (a8.add 4) fun x89 => Ld (.int .i64) w73 (a8.add 5) fun x90 => Ld .slice w73 (a8.add 6) fun x91 => Ld (.int .i64) w73 (a10.add 0) fun x92 => Ld .slice w73 (a10.add 1) fun x93 => Ld .slice w73 (a10.add 2) fun x94 => Ld (.int .i64) w73 (a10.add 3) fun x95 => Ld (.int .i64) w73 (a10.add 4) fun x96 => Ld (.int .i64) w73 (a10.add 5) fun x97 => Ld .slice w73 (a10.add 6) fun x98 => Ld (.int .i64) w73 (a12.add 0) fun x99 => Ld (.int .i64) w73 (a12.add 1) fun x100 => Ld (.int .i64) w73 (a12.add 2) fun x101 => Ld .slice w73 (a12.add 3) fun x102 => jI x85 x86 x87 x88 x89 x90 x91 x92 x93 x94 x95 x96 x97 x98 x99 x100 x101 x102 w73 fun r103 w104 => J74 r103 w104))) := okF dW Tryz.func7 .leaf (by kernel_rfl)
theorem AP {A0 A1 A2 A3 A4 A5 A6 A7 A8 A9 A10 A11 A12 A13 A14 A15 A16 A17 A18 A19 A20 A21 A22 A23 A24 A25 A26 A27 A28 A29 A30 A31 A32 A33 A34 A35 B0 B1 B2 B3 B4 B5 B6 w K} : aY (gY A0 A1 A2 A3 A4 A5 A6 A7 A8 A9 A10 A11 A12 A13 A14 A15 A16 A17 A18 A19 A20 A21 A22 A23 A24 A25 A26 A27 A28 A29 A30 A31 A32 A33 A34 A35 B0 B1 B2 B3 B4 B5 B6 w K)
 (Al w (.cells ⟨(gU A0 A1 A2 A3 A4 A5 A6 A7 A8 A9 A10 A11 A12 A13 A14 A15 A16 A17 A18 A19 A20 A21 A22 A23 A24 A25 A26 A27 A28 A29 A30 A31 A32 A33 A34 A35)⟩ 28) fun a4 w3 => Al w3 (.cells ⟨[(Value.int .i64 B0), (Value.slice B1.a B1.len B1.cap), (Value.slice B2.a B2.len B2.cap), (Value.int .i64 B3), (Value.int .i64 B4), (Value.int .i64 B5), (Value.slice B6.a B6.len B6.cap)]⟩ 32) fun a6 w5 => rW w5 a4 fun x7 x8 x9 x10 x11 x12 x13 x14 x15 x16 x17 x18 x19 x20 x21 x22 x23 x24 x25 x26 x27 x28 x29 x30 x31 x32 x33 x34 x35 x36 x37 x38 x39 x40 x41 x42 => iJ x7 x8 x9 x10 x11 x12 x13 x14 x15 x16 x17 x18 x19 x20 x21 x22 x23 x24 x25 x26 x27 x28 x29 x30 x31 x32 x33 x34 x35 x36 x37 x38 x39 x40 x41 x42 w5 fun r43 w44 => (bif (r43 != 0) then
 K r43 w44
 else
 Ld (.int .i64) w44 (a6.add 0) fun x45 => Ld .slice w44 (a6.add 1) fun x46 => Ld .slice w44 (a6.add 2) fun x47 => Ld (.int .i64) w44 (a6.add 3) fun x48 => Ld (.int .i64) w44 (a6.add 4) fun x49 => Ld (.int .i64) w44 (a6.add 5) fun x50 => Ld .slice w44 (a6.add 6) fun x51 => fG x45 x46 x47 x48 x49 x50 x51 w44 fun r52 w53 => (bif (!r52) then
 K 9 w53
 else
 rW w53 a4 fun x54 x55 x56 x57 x58 x59 x60 x61 x62 x63 x64 x65 x66 x67 x68 x69 x70 x71 x72 x73 x74 x75 x76 x77 x78 x79 x80 x81 x82 x83 x84 x85 x86 x87 x88 x89 => Ld (.int .i64) w53 (a6.add 0) fun x90 => Ld .slice w53 (a6.add 1) fun x91 => Ld .slice w53 (a6.add 2) fun x92 => Ld (.int .i64) w53 (a6.add 3) fun x93 => Ld (.int .i64) w53 (a6.add 4) fun x94 => Ld (.int .i64) w53 (a6.add 5) fun x95 => Ld .slice w53 (a6.add 6) fun x96 => jr x54 x55 x56 x57 x58 x59 x60 x61 x62 x63 x64 x65 x66 x67 x68 x69 x70 x71 x72 x73 x74 x75 x76 x77 x78 x79 x80 x81 x82 x83 x84 x85 x86 x87 x88 x89 x90 x91 x92 x93 x94 x95 x96 w53 fun r97 w98 => (bif r97 then
 K 10 w98
 else
 rW w98 a4 fun x99 x100 x101 x102 x103 x104 x105 x106 x107 x108 x109 x110 x111 x112 x113 x114 x115 x116 x117 x118 x119 x120 x121 x122 x123 x124 x125 x126 x127 x128 x129 x130 x131 x132 x133 x134 => Ld (.int .i64) w98 (a6.add 0) fun x135 => Ld .slice w98 (a6.add 1) fun x136 => Ld .slice w98 (a6.add 2) fun x137 => Ld (.int .i64) w98 (a6.add 3) fun x138 => Ld (.int .i64) w98 (a6.add 4) fun x139 => Ld (.int .i64) w98 (a6.add 5) fun x140 => Ld .slice w98 (a6.add 6) fun x141 => iI x99 x100 x101 x102 x103 x104 x105 x106 x107 x108 x109 x110 x111 x112 x113 x114 x115 x116 x117 x118 x119 x120 x121 x122 x123 x124 x125 x126 x127 x128 x129 x130 x131 x132 x133 x134 x135 x136 x137 x138 x139 x140 x141 w98 fun r142 w143 => (bif r142 then
 K 7 w143
 else
 Ld .slice w143.drew (a6.add 1) fun x144 => rW w143.drew a4 fun x145 x146 x147 x148 x149 x150 x151 x152 x153 x154 x155 x156 x157 x158 x159 x160 x161 x162 x163 x164 x165 x166 x167 x168 x169 x170 x171 x172 x173 x174 x175 x176 x177 x178 x179 x180 => kE x145 x146 x147 x148 x149 x150 x151 x152 x153 x154 x155 x156 x157 x158 x159 x160 x161 x162 x163 x164 x165 x166 x167 x168 x169 x170 x171 x172 x173 x174 x175 x176 x177 x178 x179 x180 w143.drew fun r181 w182 => w182.cell? (a6.add 1) = some (Value.slice x144.a x144.len x144.cap) ∧
 aG x144 r181 w182 fun r183 w184 => (bif r183 then
 K 12 w184
 else
 Ld .slice w184 (a6.add 2) fun x185 => aH x185 (Value.func (.func 15) #[] #[(Value.pointer (some a6))]) w184 fun r186 w187 => (bif r186 then
 K 1 w187
 else
 K 0 w187))))))) := okF dW Tryz.func8 .leaf (by kernel_rfl)
theorem DZ {A0 A1 A2 A3 A4 A5 A6 B0 B1 B2 B3 B4 B5 B6 w K} : aY (kM A0 A1 A2 A3 A4 A5 A6 B0 B1 B2 B3 B4 B5 B6 w K)
 (Al w (.cells ⟨[(Value.int .i64 A0), (Value.slice A1.a A1.len A1.cap), (Value.slice A2.a A2.len A2.cap), (Value.int .i64 A3), (Value.int .i64 A4), (Value.int .i64 A5), (Value.slice A6.a A6.len A6.cap)]⟩ 32) fun a4 w3 => Al w3 (.cells ⟨[(Value.int .i64 B0), (Value.slice B1.a B1.len B1.cap), (Value.slice B2.a B2.len B2.cap), (Value.int .i64 B3), (Value.int .i64 B4), (Value.int .i64 B5), (Value.slice B6.a B6.len B6.cap)]⟩ 32) fun a6 w5 => Ld (.int .i64) w5 (a4.add 0) fun x7 => Ld .slice w5 (a4.add 1) fun x8 => Ld .slice w5 (a4.add 2) fun x9 => Ld (.int .i64) w5 (a4.add 3) fun x10 => Ld (.int .i64) w5 (a4.add 4) fun x11 => Ld (.int .i64) w5 (a4.add 5) fun x12 => Ld .slice w5 (a4.add 6) fun x13 => Ld (.int .i64) w5 (a6.add 0) fun x14 => Ld .slice w5 (a6.add 1) fun x15 => Ld .slice w5 (a6.add 2) fun x16 => Ld (.int .i64) w5 (a6.add 3) fun x17 => Ld (.int .i64) w5 (a6.add 4) fun x18 => Ld (.int .i64) w5 (a6.add 5) fun x19 => Ld .slice w5 (a6.add 6) fun x20 => dL x7 x8 x9 x10 x11 x12 x13 x14 x15 x16 x17 x18 x19 x20 w5 fun r21 w22 => iW r21 w22 fun r23 w24 => K r23 w24) := okF dW Tryz.func9 .leaf (by kernel_rfl)
theorem DW {A0 A1 A2 A3 A4 A5 A6 B0 B1 B2 B3 B4 B5 B6 w K} : aY (kC A0 A1 A2 A3 A4 A5 A6 B0 B1 B2 B3 B4 B5 B6 w K)
 (Al w (.cells ⟨[(Value.int .i64 A0), (Value.slice A1.a A1.len A1.cap), (Value.slice A2.a A2.len A2.cap), (Value.int .i64 A3), (Value.int .i64 A4), (Value.int .i64 A5), (Value.slice A6.a A6.len A6.cap)]⟩ 32) fun a4 w3 => Al w3 (.cells ⟨[(Value.int .i64 B0), (Value.slice B1.a B1.len B1.cap), (Value.slice B2.a B2.len B2.cap), (Value.int .i64 B3), (Value.int .i64 B4), (Value.int .i64 B5), (Value.slice B6.a B6.len B6.cap)]⟩ 32) fun a6 w5 => Ld (.int .i64) w5 (a6.add 0) fun x7 => Ld .slice w5 (a6.add 1) fun x8 => Ld .slice w5 (a6.add 2) fun x9 => Ld (.int .i64) w5 (a6.add 3) fun x10 => Ld (.int .i64) w5 (a6.add 4) fun x11 => Ld (.int .i64) w5 (a6.add 5) fun x12 => Ld .slice w5 (a6.add 6) fun x13 => Ld (.int .i64) w5 (a4.add 0) fun x14 => Ld .slice w5 (a4.add 1) fun x15 => Ld .slice w5 (a4.add 2) fun x16 => Ld (.int .i64) w5 (a4.add 3) fun x17 => Ld (.int .i64) w5 (a4.add 4) fun x18 => Ld (.int .i64) w5 (a4.add 5) fun x19 => Ld .slice w5 (a4.add 6) fun x20 => dL x7 x8 x9 x10 x11 x12 x13 x14 x15 x16 x17 x18 x19 x20 w5 fun r21 w22 => iW r21 w22 fun r23 w24 => K r23 w24) := okF dW Tryz.func11 .leaf (by kernel_rfl)
theorem Ce {A0 A1 A2 A3 A4 A5 A6 B0 B1 B2 B3 B4 B5 B6 C0 C1 C2 C3 w K} : aY (jI A0 A1 A2 A3 A4 A5 A6 B0 B1 B2 B3 B4 B5 B6 C0 C1 C2 C3 w K)
 (Al w (.cells ⟨[(Value.int .i64 A0), (Value.slice A1.a A1.len A1.cap), (Value.slice A2.a A2.len A2.cap), (Value.int .i64 A3), (Value.int .i64 A4), (Value.int .i64 A5), (Value.slice A6.a A6.len A6.cap)]⟩ 32) fun a5 w4 => Al w4 (.cells ⟨[(Value.int .i64 B0), (Value.slice B1.a B1.len B1.cap), (Value.slice B2.a B2.len B2.cap), (Value.int .i64 B3), (Value.int .i64 B4), (Value.int .i64 B5), (Value.slice B6.a B6.len B6.cap)]⟩ 32) fun a7 w6 => Al w6 (.cells ⟨[(Value.int .i64 C0), (Value.int .i64 C1), (Value.int .i64 C2), (Value.slice C3.a C3.len C3.cap)]⟩ 35) fun a9 w8 => Al w8 (.cells ⟨[(Value.bool false)]⟩ 4) fun a11 w10 => Ld (.int .i64) w10 (a9.add 0) fun x12 => Ld (.int .i64) w10 (a9.add 1) fun x13 => Ld (.int .i64) w10 (a9.add 2) fun x14 => Ld .slice w10 (a9.add 3) fun x15 => gK x12 x13 x14 x15 w10 fun r16 r17 w18 => Al w18 (.cells ⟨[(Value.int .i64 0)]⟩ 3) fun a20 w19 => Al w19 (.cells ⟨[(Value.bool false)]⟩ 4) fun a22 w21 => St w21 a20 (Value.int .i64 r16) fun w23 => St w23 a22 (Value.bool r17) fun w24 => Ld (.int .i64) w24 (a5.add 0) fun x25 => Ld .slice w24 (a5.add 1) fun x26 => Ld .slice w24 (a5.add 2) fun x27 => Ld (.int .i64) w24 (a5.add 3) fun x28 => Ld (.int .i64) w24 (a5.add 4) fun x29 => Ld (.int .i64) w24 (a5.add 5) fun x30 => Ld .slice w24 (a5.add 6) fun x31 => Ld (.int .i64) w24 (a7.add 0) fun x32 => Ld .slice w24 (a7.add 1) fun x33 => Ld .slice w24 (a7.add 2) fun x34 => Ld (.int .i64) w24 (a7.add 3) fun x35 => Ld (.int .i64) w24 (a7.add 4) fun x36 => Ld (.int .i64) w24 (a7.add 5) fun x37 => Ld .slice w24 (a7.add 6) fun x38 => dL x25 x26 x27 x28 x29 x30 x31 x32 x33 x34 x35 x36 x37 x38 w24 fun r39 w40 => Ag Tryz.prog none [.one (.int .i64), .agg [(.int .i64), (.int .i64), (.int .i64), (.int .i64), (.int .i64), (.int .i64), (.int .i64), .bool]] r39 w40 (fun l41 x42 W43 Kb44 => Al W43 (.cells ⟨[(Value.int .i64 0), (Value.int .i64 0), (Value.int .i64 0), (Value.int .i64 0), (Value.int .i64 0), (Value.int .i64 0), (Value.int .i64 0), (Value.bool false)]⟩ 49) fun a46 w45 => mg [(Value.int .i64 x42.2.1.1), (Value.int .i64 x42.2.1.2.1), (Value.int .i64 x42.2.1.2.2.1), (Value.int .i64 x42.2.1.2.2.2.1), (Value.int .i64 x42.2.1.2.2.2.2.1), (Value.int .i64 x42.2.1.2.2.2.2.2.1), (Value.int .i64 x42.2.1.2.2.2.2.2.2.1), (Value.bool x42.2.1.2.2.2.2.2.2.2.1)] w45 a46 0 fun w47 => w47.heap[l41]? = W43.heap[l41]? ∧
 let J48 : Bool -> Prop := fun j49 => ((bif j49 then
 Kb44 .normal (ak w47 l41)
 else
 let J50 : Bool -> World -> Prop := fun j51 w52 => ((bif j51 then
 St w52 a11 (Value.bool true) fun w53 => Kb44 .ret w53
 else
 Kb44 .normal w52))
 Ld .bool (ak w47 l41).drew (a46.add 7) fun x54 => (bif x54 then
 J50 true (ak w47 l41).drew
 else
 Ld (.int .i64) (ak w47 l41).drew (a5.add 0) fun x55 => Ld .slice (ak w47 l41).drew (a5.add 1) fun x56 => Ld .slice (ak w47 l41).drew (a5.add 2) fun x57 => Ld (.int .i64) (ak w47 l41).drew (a5.add 3) fun x58 => Ld (.int .i64) (ak w47 l41).drew (a5.add 4) fun x59 => Ld (.int .i64) (ak w47 l41).drew (a5.add 5) fun x60 => Ld .slice (ak w47 l41).drew (a5.add 6) fun x61 => Ld (.int .i64) (ak w47 l41).drew a7 fun x62 => Gv x55 x56 x57 x58 x59 x60 x61 x42.1 (ak w47 l41).drew fun r63 w64 => w64.cell? a7 = some (Value.int .i64 x62) ∧
 J50 (decide (r63 > x62)) w64)))
 Ld .bool (ak w47 l41) a22 fun x65 => (bif x65 then
 Ld (.int .i64) (ak w47 l41) a46 fun x66 => Ld (.int .i64) (ak w47 l41) a20 fun x67 => J48 (x66 == x67)
 else
 J48 false))
 (fun w69 => St w69 a11 (Value.bool false) fun w70 => w70.heap[w40.heap.size]? = some (.deferred (some [])) ∧
 Ld .bool (w70.putObj w40.heap.size (.deferred none)) a11 fun y71 => K y71 (w70.putObj w40.heap.size (.deferred none)))
 (fun w72 => w72.heap[w40.heap.size]? = some (.deferred (some [])) ∧
 Ld .bool (w72.putObj w40.heap.size (.deferred none)) a11 fun y73 => K y73 (w72.putObj w40.heap.size (.deferred none)))
 [(1, (fun w68 => False))]) := okF dW Tryz.func12 (.seq .leaf (.seq .leaf (.seq .leaf (.seq (.seq .leaf (.blk (.rng [.one (.int .i64), .agg [(.int .i64), (.int .i64), (.int .i64), (.int .i64), (.int .i64), (.int .i64), (.int .i64), .bool]] .leaf .leaf))) .leaf)))) (by kernel_rfl)
theorem zV {A0 A1 A2 A3 A4 A5 A6 A7 A8 A9 A10 A11 A12 A13 A14 A15 A16 A17 A18 A19 A20 A21 A22 A23 A24 A25 A26 A27 A28 A29 A30 A31 A32 A33 A34 A35 w K} : aY (iJ A0 A1 A2 A3 A4 A5 A6 A7 A8 A9 A10 A11 A12 A13 A14 A15 A16 A17 A18 A19 A20 A21 A22 A23 A24 A25 A26 A27 A28 A29 A30 A31 A32 A33 A34 A35 w K)
 (Al w (.cells ⟨(gU A0 A1 A2 A3 A4 A5 A6 A7 A8 A9 A10 A11 A12 A13 A14 A15 A16 A17 A18 A19 A20 A21 A22 A23 A24 A25 A26 A27 A28 A29 A30 A31 A32 A33 A34 A35)⟩ 28) fun a3 w2 => rW w2 a3 fun x4 x5 x6 x7 x8 x9 x10 x11 x12 x13 x14 x15 x16 x17 x18 x19 x20 x21 x22 x23 x24 x25 x26 x27 x28 x29 x30 x31 x32 x33 x34 x35 x36 x37 x38 x39 => gQ x4 x5 x6 x7 x8 x9 x10 x11 x12 x13 x14 x15 x16 x17 x18 x19 x20 x21 x22 x23 x24 x25 x26 x27 x28 x29 x30 x31 x32 x33 x34 x35 x36 x37 x38 x39 w2 fun r40 w41 => eU (S := Int × Unit) (fun s42 w43 next44 => (bif (decide (s42.1 < (r40.len : Int))) then
 iD r40 3 s42.1 fun a45 => Ld (.int .i64) w43 (a45.add 0) fun x46 => Ld (.int .i64) w43 (a45.add 1) fun x47 => Ld (.int .i64) w43 (a45.add 2) fun x48 => Al w43 (.cells ⟨[(Value.int .i64 0), (Value.int .i64 0), (Value.int .i64 0)]⟩ 75) fun a50 w49 => mg [(Value.int .i64 x46), (Value.int .i64 x47), (Value.int .i64 x48)] w49 a50 0 fun w51 => Ld (.int .i64) w51 (a50.add 0) fun x52 => Ld (.int .i64) w51 (a50.add 1) fun x53 => Ld (.int .i64) w51 (a50.add 2) fun x54 => bU x52 x53 x54 w51 fun r55 w56 => (bif (!r55) then
 K 1 w56
 else
 next44 ((IntKind.i64.wrap (s42.1 + 1)), ()) w56)
 else
 let J57 : Bool -> World -> Prop := fun j58 w59 => ((bif j58 then
 K 1 w59
 else
 rW w59 a3 fun x60 x61 x62 x63 x64 x65 x66 x67 x68 x69 x70 x71 x72 x73 x74 x75 x76 x77 x78 x79 x80 x81 x82 x83 x84 x85 x86 x87 x88 x89 x90 x91 x92 x93 x94 x95 => fP x60 x61 x62 x63 x64 x65 x66 x67 x68 x69 x70 x71 x72 x73 x74 x75 x76 x77 x78 x79 x80 x81 x82 x83 x84 x85 x86 x87 x88 x89 x90 x91 x92 x93 x94 x95 w59 fun r96 w97 => (bif r96 then
 K 9 w97
 else
 K 0 w97)))
 Ld (.int .i64) w43 (a3.add 28) fun x98 => iF x98 w43 fun r99 w100 => (bif (!r99) then
 J57 true w100
 else
 rW w100 a3 fun x101 x102 x103 x104 x105 x106 x107 x108 x109 x110 x111 x112 x113 x114 x115 x116 x117 x118 x119 x120 x121 x122 x123 x124 x125 x126 x127 x128 x129 x130 x131 x132 x133 x134 x135 x136 => iO x101 x102 x103 x104 x105 x106 x107 x108 x109 x110 x111 x112 x113 x114 x115 x116 x117 x118 x119 x120 x121 x122 x123 x124 x125 x126 x127 x128 x129 x130 x131 x132 x133 x134 x135 x136 w100 fun r137 w138 => J57 (!r137) w138))) (0, ()) w41) := okF dW Tryz.func14 (.seq .leaf (.seq (.seq .leaf (.blk (.loop [(8, (.int .i64))] .leaf))) .leaf)) (by kernel_rfl)
theorem yC {A0 A1 A2 A3 A4 f0 w K} : aY (z_ A0 A1 A2 A3 A4 f0 w K)
 (Al w (.cells ⟨[(Value.int .i64 A0), (Value.int .i64 A1), (Value.int .i64 A2), (Value.int .i64 A3), (Value.int .i64 A4)]⟩ 53) fun a3 w2 => let J4 : Bool -> Prop := fun j5 => (K j5 w2)
 Ld (.int .i64) w2 a3 fun x6 => (bif (decide (x6 < 0)) then
 J4 true
 else
 Ld (.int .i64) w2 a3 fun x7 => Ld .slice w2 (f0.add 1) fun x8 => J4 (decide (x7 >= (x8.len : Int))))) := okF dW Tryz.func15 .leaf (by kernel_rfl)
theorem wZ {A0 A1 A2 A3 A4 A5 A6 w K} : aY (fG A0 A1 A2 A3 A4 A5 A6 w K)
 (Al w (.cells ⟨[(Value.int .i64 A0), (Value.slice A1.a A1.len A1.cap), (Value.slice A2.a A2.len A2.cap), (Value.int .i64 A3), (Value.int .i64 A4), (Value.int .i64 A5), (Value.slice A6.a A6.len A6.cap)]⟩ 32) fun a3 w2 => let J4 : Bool -> World -> Prop := fun j5 w6 => (K j5 w6)
 Ld .slice w2 (a3.add 1) fun x7 => bf x7 (Value.func (.func 34) #[] #[]) w2 fun r8 w9 => dH r8 w9 fun r10 w11 => (bif r10 then
 Ld .slice w11 (a3.add 1) fun x12 => bg x12 (Value.func (.func 37) #[] #[]) w11 fun r13 w14 => dG r13 w14 fun r15 w16 => J4 r15 w16
 else
 J4 false w11)) := okF dW Tryz.func16 .leaf (by kernel_rfl)
theorem Cj {A0 A1 A2 A3 A4 A5 A6 A7 A8 A9 A10 A11 A12 A13 A14 A15 A16 A17 A18 A19 A20 A21 A22 A23 A24 A25 A26 A27 A28 A29 A30 A31 A32 A33 A34 A35 B0 B1 B2 B3 B4 B5 B6 w K} : aY (jr A0 A1 A2 A3 A4 A5 A6 A7 A8 A9 A10 A11 A12 A13 A14 A15 A16 A17 A18 A19 A20 A21 A22 A23 A24 A25 A26 A27 A28 A29 A30 A31 A32 A33 A34 A35 B0 B1 B2 B3 B4 B5 B6 w K)
 (Al w (.cells ⟨(gU A0 A1 A2 A3 A4 A5 A6 A7 A8 A9 A10 A11 A12 A13 A14 A15 A16 A17 A18 A19 A20 A21 A22 A23 A24 A25 A26 A27 A28 A29 A30 A31 A32 A33 A34 A35)⟩ 28) fun a4 w3 => Al w3 (.cells ⟨[(Value.int .i64 B0), (Value.slice B1.a B1.len B1.cap), (Value.slice B2.a B2.len B2.cap), (Value.int .i64 B3), (Value.int .i64 B4), (Value.int .i64 B5), (Value.slice B6.a B6.len B6.cap)]⟩ 32) fun a6 w5 => Al w5 (.map #[] 0) fun a8 w7 => Ld .slice w7 (a6.add 1) fun x9 => eU (S := Int × Unit) (fun s10 w11 next12 => (bif (decide (s10.1 < (x9.len : Int))) then
 iD x9 8 s10.1 fun a13 => Ld (.int .i64) w11 (a13.add 0) fun x14 => Ld (.int .i64) w11 (a13.add 1) fun x15 => Ld (.int .i64) w11 (a13.add 2) fun x16 => Ld (.int .i64) w11 (a13.add 3) fun x17 => Ld (.int .i64) w11 (a13.add 4) fun x18 => Ld (.int .i64) w11 (a13.add 5) fun x19 => Ld (.int .i64) w11 (a13.add 6) fun x20 => Ld .bool w11 (a13.add 7) fun x21 => Al w11 (.cells ⟨[(Value.int .i64 0), (Value.int .i64 0), (Value.int .i64 0), (Value.int .i64 0), (Value.int .i64 0), (Value.int .i64 0), (Value.int .i64 0), (Value.bool false)]⟩ 49) fun a23 w22 => mg [(Value.int .i64 x14), (Value.int .i64 x15), (Value.int .i64 x16), (Value.int .i64 x17), (Value.int .i64 x18), (Value.int .i64 x19), (Value.int .i64 x20), (Value.bool x21)] w22 a23 0 fun w24 => Ld (.int .i64) w24 a23 fun x25 => kL Tryz.prog 3 (.int .i64) (some w5.heap.size) (Value.int .i64 x25) (Value.int .i64 0) w24 fun x26 => ng Tryz.prog 3 (some w5.heap.size) (Value.int .i64 x25) (Value.int .i64 (IntKind.i64.wrap (x26 + 1))) w24 fun w27 => Ld (.int .i64) w27 a23 fun x28 => kL Tryz.prog 3 (.int .i64) (some w5.heap.size) (Value.int .i64 x28) (Value.int .i64 0) w27 fun x29 => Ld (.int .i64) w27 (a4.add 20) fun x30 => (bif (decide (x29 > x30)) then
 K true w27
 else
 next12 ((IntKind.i64.wrap (s10.1 + 1)), ()) w27)
 else
 K false w11)) (0, ()) w7) := okF dW Tryz.func17 (.seq .leaf (.seq .leaf (.seq (.seq .leaf (.blk (.loop [(12, (.int .i64))] .leaf))) .leaf))) (by kernel_rfl)
theorem zY {A0 A1 A2 A3 A4 A5 A6 A7 A8 A9 A10 A11 A12 A13 A14 A15 A16 A17 A18 A19 A20 A21 A22 A23 A24 A25 A26 A27 A28 A29 A30 A31 A32 A33 A34 A35 B0 B1 B2 B3 B4 B5 B6 w K} : aY (iI A0 A1 A2 A3 A4 A5 A6 A7 A8 A9 A10 A11 A12 A13 A14 A15 A16 A17 A18 A19 A20 A21 A22 A23 A24 A25 A26 A27 A28 A29 A30 A31 A32 A33 A34 A35 B0 B1 B2 B3 B4 B5 B6 w K)
 (Al w (.cells ⟨(gU A0 A1 A2 A3 A4 A5 A6 A7 A8 A9 A10 A11 A12 A13 A14 A15 A16 A17 A18 A19 A20 A21 A22 A23 A24 A25 A26 A27 A28 A29 A30 A31 A32 A33 A34 A35)⟩ 28) fun a4 w3 => Al w3 (.cells ⟨[(Value.int .i64 B0), (Value.slice B1.a B1.len B1.cap), (Value.slice B2.a B2.len B2.cap), (Value.int .i64 B3), (Value.int .i64 B4), (Value.int .i64 B5), (Value.slice B6.a B6.len B6.cap)]⟩ 32) fun a6 w5 => Ld .slice w5 (a6.add 2) fun x7 => let J8 : Bool -> Prop := fun j9 => (let J10 : Bool -> Prop := fun j11 => (let J12 : Bool -> Prop := fun j13 => (K j13 w5)
 (bif j11 then
 J12 true
 else
 Ld (.int .i64) w5 (a6.add 4) fun x14 => Ld (.int .i64) w5 (a4.add 23) fun x15 => (bif (decide (x14 > (IntKind.i64.wrap (2 * x15)))) then
 J12 true
 else
 Ld (.int .i64) w5 (a6.add 3) fun x16 => Ld (.int .i64) w5 (a4.add 24) fun x17 => (bif (decide (x16 > (IntKind.i64.wrap (2 * x17)))) then
 J12 true
 else
 J12 (!j9)))))
 Ld .slice w5 (a6.add 1) fun x18 => Ld (.int .i64) w5 (a4.add 21) fun x19 => (bif (decide ((x18.len : Int) > x19)) then
 J10 true
 else
 Ld (.int .i64) w5 (a4.add 22) fun x20 => J10 (decide ((x7.len : Int) > x20))))
 Ld (.int .i64) w5 (a6.add 5) fun x21 => (bif (decide (x21 >= (x7.len : Int))) then
 Ld (.int .i64) w5 (a6.add 5) fun x22 => Ld (.int .i64) w5 (a6.add 4) fun x23 => J8 ((IntKind.i64.wrap (x22 - (x7.len : Int))) == x23)
 else
 J8 false)) := okF dW Tryz.func18 .leaf (by kernel_rfl)
theorem fC {a0 a1 w K} : aY (aG a0 a1 w K)
 (aK a0 a1 w fun r3 w4 => K (decide (r3 >= 0)) w4) := okF dW Tryz.func19 .leaf (by kernel_rfl)
theorem zS {A0 A1 A2 A3 A4 A5 A6 A7 A8 A9 A10 A11 A12 A13 A14 A15 A16 A17 A18 A19 A20 A21 A22 A23 A24 A25 A26 A27 A28 A29 A30 A31 A32 A33 A34 A35 w K} : aY (kE A0 A1 A2 A3 A4 A5 A6 A7 A8 A9 A10 A11 A12 A13 A14 A15 A16 A17 A18 A19 A20 A21 A22 A23 A24 A25 A26 A27 A28 A29 A30 A31 A32 A33 A34 A35 w K)
 (Al w (.cells ⟨(gU A0 A1 A2 A3 A4 A5 A6 A7 A8 A9 A10 A11 A12 A13 A14 A15 A16 A17 A18 A19 A20 A21 A22 A23 A24 A25 A26 A27 A28 A29 A30 A31 A32 A33 A34 A35)⟩ 28) fun a3 w2 => K (Value.func (.func 39) #[] #[(Value.pointer (some a3))]) w2) := okF dW Tryz.func20 .leaf (by kernel_rfl)
theorem fA {a0 a1 w K} : aY (aH a0 a1 w K)
 (aJ a0 a1 w fun r3 w4 => K (decide (r3 >= 0)) w4) := okF dW Tryz.func21 .leaf (by kernel_rfl)
theorem D5 {a0 w K} : aY (iW a0 w K)
 (Al w (.cells ⟨[(Value.slice none 0 0)]⟩ 29) fun a3 w2 => Ag Tryz.prog none [.one (.int .i64), .agg [(.int .i64), (.int .i64), (.int .i64), (.int .i64), (.int .i64), (.int .i64), (.int .i64), .bool]] a0 w2 (fun l4 x5 W6 Kb7 => Al W6 (.cells ⟨[(Value.int .i64 0), (Value.int .i64 0), (Value.int .i64 0), (Value.int .i64 0), (Value.int .i64 0), (Value.int .i64 0), (Value.int .i64 0), (Value.bool false)]⟩ 49) fun a9 w8 => mg [(Value.int .i64 x5.2.1.1), (Value.int .i64 x5.2.1.2.1), (Value.int .i64 x5.2.1.2.2.1), (Value.int .i64 x5.2.1.2.2.2.1), (Value.int .i64 x5.2.1.2.2.2.2.1), (Value.int .i64 x5.2.1.2.2.2.2.2.1), (Value.int .i64 x5.2.1.2.2.2.2.2.2.1), (Value.bool x5.2.1.2.2.2.2.2.2.2.1)] w8 a9 0 fun w10 => w10.heap[l4]? = W6.heap[l4]? ∧
 Ld .slice (ak w10 l4) a3 fun x11 => Ld (.int .i64) (ak w10 l4) (a9.add 0) fun x12 => Ld (.int .i64) (ak w10 l4) (a9.add 1) fun x13 => Ld (.int .i64) (ak w10 l4) (a9.add 2) fun x14 => Ld (.int .i64) (ak w10 l4) (a9.add 3) fun x15 => Ld (.int .i64) (ak w10 l4) (a9.add 4) fun x16 => Ld (.int .i64) (ak w10 l4) (a9.add 5) fun x17 => Ld (.int .i64) (ak w10 l4) (a9.add 6) fun x18 => Ld .bool (ak w10 l4) (a9.add 7) fun x19 => Al (ak w10 l4) (.cells ⟨[(Value.int .i64 x12), (Value.int .i64 x13), (Value.int .i64 x14), (Value.int .i64 x15), (Value.int .i64 x16), (Value.int .i64 x17), (Value.int .i64 x18), (Value.bool x19)]⟩ 49) fun a21 w20 => Ea 49 8 64 [(Value.int .i64 0), (Value.int .i64 0), (Value.int .i64 0), (Value.int .i64 0), (Value.int .i64 0), (Value.int .i64 0), (Value.int .i64 0), (Value.bool false)] x11 ⟨(some a21), 1, 1⟩ w20 fun s22 w23 => St w23 a3 (Value.slice s22.a s22.len s22.cap) fun w24 => Kb7 .normal w24)
 (fun w25 => Ld .slice w25 a3 fun x26 => w25.heap[w2.heap.size]? = some (.deferred (some [])) ∧
 K x26 (w25.putObj w2.heap.size (.deferred none)))
 (fun w27 => w27.heap[w2.heap.size]? = some (.deferred (some [])) ∧
 K ⟨none, 0, 0⟩ (w27.putObj w2.heap.size (.deferred none)))
 []) := okF dW Tryz.func22 (.seq .leaf (.seq .leaf (.seq (.seq .leaf (.blk (.rng [.one (.int .i64), .agg [(.int .i64), (.int .i64), (.int .i64), (.int .i64), (.int .i64), (.int .i64), (.int .i64), .bool]] .leaf .leaf))) .leaf))) (by kernel_rfl)
theorem yA {A0 A1 A2 A3 A4 A5 A6 B0 B1 B2 B3 B4 B5 B6 w K} : aY (dL A0 A1 A2 A3 A4 A5 A6 B0 B1 B2 B3 B4 B5 B6 w K)
 (Al w (.cells ⟨[(Value.int .i64 A0), (Value.slice A1.a A1.len A1.cap), (Value.slice A2.a A2.len A2.cap), (Value.int .i64 A3), (Value.int .i64 A4), (Value.int .i64 A5), (Value.slice A6.a A6.len A6.cap)]⟩ 32) fun a4 w3 => Al w3 (.cells ⟨[(Value.int .i64 B0), (Value.slice B1.a B1.len B1.cap), (Value.slice B2.a B2.len B2.cap), (Value.int .i64 B3), (Value.int .i64 B4), (Value.int .i64 B5), (Value.slice B6.a B6.len B6.cap)]⟩ 32) fun a6 w5 => K (Value.func (.func 42) #[] #[(Value.pointer (some a4)), (Value.pointer (some a6))]) w5) := okF dW Tryz.func23 .leaf (by kernel_rfl)
theorem yD {A0 A1 A2 A3 w K} : aY (gK A0 A1 A2 A3 w K)
 (Al w (.cells ⟨[(Value.int .i64 A0), (Value.int .i64 A1), (Value.int .i64 A2), (Value.slice A3.a A3.len A3.cap)]⟩ 35) fun a3 w2 => Ld (.int .i64) w2 a3 fun x4 => (bif (x4 != 9) then
 K 0 false w2
 else
 Ld .slice w2 (a3.add 3) fun x5 => sO w2 x5 fun b6 => mQ b6 w2 fun r7 r8 r9 r10 r11 r12 r13 r14 r15 w16 => Al w16 (.cells ⟨[(Value.int .i64 0), (Value.int .i64 0), (Value.int .i64 0), (Value.int .i64 0), (Value.int .i64 0), (Value.int .i64 0), (Value.int .i64 0), (Value.int .i64 0)]⟩ 93) fun a18 w17 => mg [(Value.int .i64 r7), (Value.int .i64 r8), (Value.int .i64 r9), (Value.int .i64 r10), (Value.int .i64 r11), (Value.int .i64 r12), (Value.int .i64 r13), (Value.int .i64 r14)] w17 a18 0 fun w19 => (bif (r15 != 0) then
 K 0 false w19
 else
 Ld (.int .i64) w19 a18 fun x20 => let J21 : Bool -> Prop := fun j22 => ((bif j22 then
 Ld (.int .i64) w19 (a18.add 1) fun x23 => K x23 true w19
 else
 K 0 false w19))
 (bif (x20 == 1) then
 J21 (x20 == 1)
 else
 J21 (x20 == 3))))) := okF dW Tryz.func25 .leaf (by kernel_rfl)
theorem yj {A0 A1 A2 A3 A4 A5 A6 A7 A8 A9 A10 A11 A12 A13 A14 A15 A16 A17 A18 A19 A20 A21 A22 A23 A24 A25 A26 A27 A28 A29 A30 A31 A32 A33 A34 A35 w K} : aY (gQ A0 A1 A2 A3 A4 A5 A6 A7 A8 A9 A10 A11 A12 A13 A14 A15 A16 A17 A18 A19 A20 A21 A22 A23 A24 A25 A26 A27 A28 A29 A30 A31 A32 A33 A34 A35 w K)
 (Al w (.cells ⟨(gU A0 A1 A2 A3 A4 A5 A6 A7 A8 A9 A10 A11 A12 A13 A14 A15 A16 A17 A18 A19 A20 A21 A22 A23 A24 A25 A26 A27 A28 A29 A30 A31 A32 A33 A34 A35)⟩ 28) fun a3 w2 => Ld .slice w2 (a3.add 16) fun x4 => Ld .slice w2 (a3.add 17) fun x5 => Ld .slice w2 (a3.add 35) fun x6 => Ld (.int .i64) w2 (a3.add 21) fun x7 => Ld (.int .i64) w2 (a3.add 18) fun x8 => Ld (.int .i64) w2 (a3.add 19) fun x9 => Ld (.int .i64) w2 (a3.add 18) fun x10 => Ld (.int .i64) w2 (a3.add 20) fun x11 => Ld (.int .i64) w2 (a3.add 21) fun x12 => Ld (.int .i64) w2 (a3.add 22) fun x13 => Ld (.int .i64) w2 (a3.add 23) fun x14 => Ld (.int .i64) w2 (a3.add 24) fun x15 => Ld (.int .i64) w2 (a3.add 25) fun x16 => Ld (.int .i64) w2 (a3.add 26) fun x17 => Ld (.int .i64) w2 (a3.add 27) fun x18 => Ld (.int .i64) w2 (a3.add 29) fun x19 => Ld (.int .i64) w2 (a3.add 30) fun x20 => Ld (.int .i64) w2 (a3.add 31) fun x21 => Ld (.int .i64) w2 (a3.add 32) fun x22 => Ld (.int .i64) w2 (a3.add 33) fun x23 => Ld (.int .i64) w2 (a3.add 34) fun x24 => Al w2 (.cells ⟨(Uc (x4.len : Int) 1 64 (x5.len : Int) 1 16 (x6.len : Int) 0 (if x7 < 64 then x7 else 64) x8 1 65535 x9 x10 65535 x11 1 4096 x12 1 4096 x13 1 4096 x14 0 4096 x15 0 67108864 x16 1280 65535 x17 1280 65535 x18 1 255 x19 0 2 x20 120 1048576 x21 7440 1048576 x22 240 1048576 x23 60 1048576 x24 1 1048576)⟩ 75) fun a26 w25 => K ⟨(some a26), 19, 19⟩ w25) := okF dW Tryz.func27 .leaf (by kernel_rfl)
theorem vV {A0 A1 A2 w K} : aY (bU A0 A1 A2 w K)
 (Al w (.cells ⟨[(Value.int .i64 A0), (Value.int .i64 A1), (Value.int .i64 A2)]⟩ 75) fun a3 w2 => let J4 : Bool -> Prop := fun j5 => (K j5 w2)
 Ld (.int .i64) w2 (a3.add 1) fun x6 => Ld (.int .i64) w2 a3 fun x7 => (bif (decide (x6 <= x7)) then
 Ld (.int .i64) w2 a3 fun x8 => Ld (.int .i64) w2 (a3.add 2) fun x9 => J4 (decide (x8 <= x9))
 else
 J4 false)) := okF dW Tryz.func28 .leaf (by kernel_rfl)
theorem zT {a0 w K} : aY (iF a0 w K)
 (let J2 : Bool -> World -> Prop := fun j3 w4 => (K j3 w4)
 (bif (a0 == 0) then
 J2 true w
 else
 bU a0 536 65535 w fun r5 w6 => J2 r5 w6)) := okF dW Tryz.func29 .leaf (by kernel_rfl)
theorem zU {A0 A1 A2 A3 A4 A5 A6 A7 A8 A9 A10 A11 A12 A13 A14 A15 A16 A17 A18 A19 A20 A21 A22 A23 A24 A25 A26 A27 A28 A29 A30 A31 A32 A33 A34 A35 w K} : aY (iO A0 A1 A2 A3 A4 A5 A6 A7 A8 A9 A10 A11 A12 A13 A14 A15 A16 A17 A18 A19 A20 A21 A22 A23 A24 A25 A26 A27 A28 A29 A30 A31 A32 A33 A34 A35 w K)
 (Al w (.cells ⟨(gU A0 A1 A2 A3 A4 A5 A6 A7 A8 A9 A10 A11 A12 A13 A14 A15 A16 A17 A18 A19 A20 A21 A22 A23 A24 A25 A26 A27 A28 A29 A30 A31 A32 A33 A34 A35)⟩ 28) fun a3 w2 => let J4 : Bool -> World -> Prop := fun j5 w6 => ((bif j5 then
 K false w6
 else
 let J7 : Bool -> World -> Prop := fun j8 w9 => ((bif j8 then
 K false w9
 else
 K true w9))
 Ld .slice w6 (a3.add 17) fun x10 => aZ x10 (Value.func (.func 47) #[] #[]) w6 fun r11 w12 => (bif r11 then
 J7 r11 w12
 else
 Ld .slice w12 (a3.add 35) fun x13 => aI x13 (Value.func (.func 49) #[] #[(Value.pointer (some a3))]) w12 fun r14 w15 => J7 r14 w15)))
 rV w2 a3 fun x16 x17 x18 x19 x20 x21 x22 x23 x24 x25 x26 x27 x28 x29 x30 x31 => lT x16 x17 x18 x19 x20 x21 x22 x23 x24 x25 x26 x27 x28 x29 x30 x31 w2 fun r32 w33 => (bif (!r32) then
 J4 (!r32) w33
 else
 Ld .slice w33 (a3.add 16) fun x34 => aS x34 (Value.func (.func 45) #[] #[]) w33 fun r35 w36 => J4 r35 w36)) := okF dW Tryz.func30 .leaf (by kernel_rfl)
theorem xP {A0 A1 A2 A3 A4 A5 A6 A7 A8 A9 A10 A11 A12 A13 A14 A15 A16 A17 A18 A19 A20 A21 A22 A23 A24 A25 A26 A27 A28 A29 A30 A31 A32 A33 A34 A35 w K} : aY (fP A0 A1 A2 A3 A4 A5 A6 A7 A8 A9 A10 A11 A12 A13 A14 A15 A16 A17 A18 A19 A20 A21 A22 A23 A24 A25 A26 A27 A28 A29 A30 A31 A32 A33 A34 A35 w K)
 (Al w (.cells ⟨(gU A0 A1 A2 A3 A4 A5 A6 A7 A8 A9 A10 A11 A12 A13 A14 A15 A16 A17 A18 A19 A20 A21 A22 A23 A24 A25 A26 A27 A28 A29 A30 A31 A32 A33 A34 A35)⟩ 28) fun a3 w2 => let J4 : ah -> World -> Prop := fun j5 w6 => (let J7 : Bool -> World -> Prop := fun j8 w9 => ((bif j8 then
 K true w9
 else
 Ld .slice w9 (a3.add 16) fun x10 => Nj 3 1 8 [(Value.int .i64 0)] (x10.len : Int) (x10.len : Int) w9 fun s11 w12 => Ld .slice w12 (a3.add 35) fun x13 => eU (S := Int × Unit) (fun s14 w15 next16 => (bif (decide (s14.1 < (x13.len : Int))) then
 iD x13 7 s14.1 fun a17 => Ld (.int .i64) w15 (a17.add 0) fun x18 => Ld (.int .i64) w15 (a17.add 1) fun x19 => Ld (.int .i64) w15 (a17.add 2) fun x20 => Ld (.int .i64) w15 (a17.add 3) fun x21 => Ld (.int .i64) w15 (a17.add 4) fun x22 => Ld (.int .i64) w15 (a17.add 5) fun x23 => Ld (.int .i64) w15 (a17.add 6) fun x24 => Al w15 (.cells ⟨[(Value.int .i64 0), (Value.int .i64 0), (Value.int .i64 0), (Value.int .i64 0), (Value.int .i64 0), (Value.int .i64 0), (Value.int .i64 0)]⟩ 98) fun a26 w25 => mg [(Value.int .i64 x18), (Value.int .i64 x19), (Value.int .i64 x20), (Value.int .i64 x21), (Value.int .i64 x22), (Value.int .i64 x23), (Value.int .i64 x24)] w25 a26 0 fun w27 => Ld (.int .i64) w27 a26 fun x28 => iD s11 1 x28 fun a29 => Ld (.int .i64) w27 a29 fun x30 => iD s11 1 x28 fun a31 => St w27 a31 (Value.int .i64 (IntKind.i64.wrap (x30 + 1))) fun w32 => next16 ((IntKind.i64.wrap (s14.1 + 1)), ()) w32
 else
 aZ s11 (Value.func (.func 67) #[] #[(Value.pointer (some a3))]) w15 fun r33 w34 => K r33 w34)) (0, ()) w12))
 bJ j5 (Value.func (.func 59) #[] #[]) w6 fun r35 w36 => dA r35 w36 fun r37 w38 => (bif r37 then
 J7 true w38
 else
 Ld .slice w38 (a3.add 17) fun x39 => dI x39 (Value.func (.func 62) #[] #[]) w38 fun r40 w41 => dU r40 w41 fun r42 w43 => (bif r42 then
 J7 true w43
 else
 Ld .slice w43 (a3.add 35) fun x44 => aX x44 (Value.func (.func 55) #[] #[]) w43 fun r45 w46 => b_ r45 w46 fun r47 w48 => (bif r47 then
 J7 true w48
 else
 Ld .slice w48 (a3.add 35) fun x49 => aW x49 (Value.func (.func 56) #[] #[]) w48 fun r50 w51 => cO r50 w51 fun r52 w53 => J7 r52 w53))))
 Ld .slice w2.drew (a3.add 16) fun x54 => rV w2.drew a3 fun x55 x56 x57 x58 x59 x60 x61 x62 x63 x64 x65 x66 x67 x68 x69 x70 => (aT x54 w2.drew fun r71 w72 => Tc (gq x55 x56 x57 x58 x59 x60 x61 x62 x63 x64 x65 x66 x67 x68 x69 x70) w72 a3 0 (
 Al w72 (.cells ⟨(gq x55 x56 x57 x58 x59 x60 x61 x62 x63 x64 x65 x66 x67 x68 x69 x70)⟩ 23) fun a74 w73 => w73.cell? (a3.add 16) = some (Value.slice x54.a x54.len x54.cap) ∧
 Ea 23 16 16 (gq 0 0 0 0 0 0 0 0 0 0 0 0 0 0 0 0) r71 ⟨(some a74), 1, 1⟩ w73 fun s75 w76 => J4 s75 w76)) ∧
 (Al w2.drew (.cells ⟨(gq x55 x56 x57 x58 x59 x60 x61 x62 x63 x64 x65 x66 x67 x68 x69 x70)⟩ 23) fun a78 w77 => w77.cell? (a3.add 16) = some (Value.slice x54.a x54.len x54.cap) ∧
 aT x54 w77 fun r79 w80 => Tc (gq x55 x56 x57 x58 x59 x60 x61 x62 x63 x64 x65 x66 x67 x68 x69 x70) w80 a3 0 (
 Ea 23 16 16 (gq 0 0 0 0 0 0 0 0 0 0 0 0 0 0 0 0) r79 ⟨(some a78), 1, 1⟩ w80 fun s81 w82 => J4 s81 w82))) := okF dW Tryz.func31 (.seq .leaf (.seq .leaf (.seq .leaf (.seq .leaf (.seq .leaf (.seq .leaf (.seq (.seq .leaf (.blk (.loop [(46, (.int .i64))] .leaf))) .leaf))))))) (by kernel_rfl)
theorem rE {a0 w K} : aY (dH a0 w K)
 (Al w (.cells ⟨[(Value.bool false)]⟩ 4) fun a3 w2 => Al w2 (.map #[] 0) fun a5 w4 => Al w4 (.cells ⟨[(Value.map none)]⟩ 119) fun a7 w6 => St w6 a7 (Value.map (some w2.heap.size)) fun w8 => Ag Tryz.prog none [.agg [(.int .i64), (.int .i64), (.int .i64), (.int .i64)]] a0 w8 (fun l9 x10 W11 Kb12 => Al W11 (.cells ⟨[(Value.int .i64 0), (Value.int .i64 0), (Value.int .i64 0), (Value.int .i64 0)]⟩ 45) fun a14 w13 => mg [(Value.int .i64 x10.1.1), (Value.int .i64 x10.1.2.1), (Value.int .i64 x10.1.2.2.1), (Value.int .i64 x10.1.2.2.2.1)] w13 a14 0 fun w15 => w15.heap[l9]? = W11.heap[l9]? ∧
 Ld .map (ak w15 l9) a7 fun x16 => Ld (.int .i64) (ak w15 l9) (a14.add 0) fun x17 => Ld (.int .i64) (ak w15 l9) (a14.add 1) fun x18 => Ld (.int .i64) (ak w15 l9) (a14.add 2) fun x19 => Ld (.int .i64) (ak w15 l9) (a14.add 3) fun x20 => kL Tryz.prog 45 .bool x16 (Value.agg ⟨[(Value.int .i64 x17), (Value.int .i64 x18), (Value.int .i64 x19), (Value.int .i64 x20)]⟩) (Value.bool false) (ak w15 l9) fun x21 => (bif x21 then
 St (ak w15 l9) a3 (Value.bool false) fun w22 => Kb12 .ret w22
 else
 Ld .map (ak w15 l9) a7 fun x23 => Ld (.int .i64) (ak w15 l9) (a14.add 0) fun x24 => Ld (.int .i64) (ak w15 l9) (a14.add 1) fun x25 => Ld (.int .i64) (ak w15 l9) (a14.add 2) fun x26 => Ld (.int .i64) (ak w15 l9) (a14.add 3) fun x27 => ng Tryz.prog 45 x23 (Value.agg ⟨[(Value.int .i64 x24), (Value.int .i64 x25), (Value.int .i64 x26), (Value.int .i64 x27)]⟩) (Value.bool true) (ak w15 l9) fun w28 => Kb12 .normal w28))
 (fun w29 => St w29 a3 (Value.bool true) fun w30 => w30.heap[w8.heap.size]? = some (.deferred (some [])) ∧
 Ld .bool (w30.putObj w8.heap.size (.deferred none)) a3 fun y31 => K y31 (w30.putObj w8.heap.size (.deferred none)))
 (fun w32 => w32.heap[w8.heap.size]? = some (.deferred (some [])) ∧
 Ld .bool (w32.putObj w8.heap.size (.deferred none)) a3 fun y33 => K y33 (w32.putObj w8.heap.size (.deferred none)))
 []) := okF dW Tryz.func32 (.seq .leaf (.seq .leaf (.seq (.seq .leaf (.blk (.rng [.agg [(.int .i64), (.int .i64), (.int .i64), (.int .i64)]] .leaf .leaf))) .leaf))) (by kernel_rfl)
theorem jR {a0 a1 w K} : aY (bf a0 a1 w K)
 (bK (Value.slice a0.a a0.len a0.cap) = true ∧
 Al w (.cells ⟨[(Value.slice a0.a a0.len a0.cap)]⟩ 29) fun a4 w3 => bK a1 = true ∧
 Al w3 (.cells ⟨[a1]⟩ 80) fun a6 w5 => K (Value.func (.func 68) #[] #[(Value.pointer (some a4)), (Value.pointer (some a6))]) w5) := okF dW Tryz.func33 .leaf (by kernel_rfl)
theorem DF {A0 A1 A2 A3 A4 A5 A6 A7 w K} : aY (xH A0 A1 A2 A3 A4 A5 A6 A7 w K)
 (Al w (.cells ⟨[(Value.int .i64 A0), (Value.int .i64 A1), (Value.int .i64 A2), (Value.int .i64 A3), (Value.int .i64 A4), (Value.int .i64 A5), (Value.int .i64 A6), (Value.bool A7)]⟩ 49) fun a3 w2 => Al w2 (.cells ⟨[(Value.int .i64 0), (Value.int .i64 0), (Value.int .i64 0), (Value.int .i64 0)]⟩ 45) fun a5 w4 => Ld (.int .i64) w4 (a3.add 0) fun x6 => Ld (.int .i64) w4 (a3.add 1) fun x7 => Ld (.int .i64) w4 (a3.add 2) fun x8 => Ld (.int .i64) w4 (a3.add 3) fun x9 => mg [(Value.int .i64 x6), (Value.int .i64 x7), (Value.int .i64 x8), (Value.int .i64 x9)] w4 a5 0 fun w10 => Ld (.int .i64) w10 (a5.add 0) fun y11 => Ld (.int .i64) w10 (a5.add 1) fun y12 => Ld (.int .i64) w10 (a5.add 2) fun y13 => Ld (.int .i64) w10 (a5.add 3) fun y14 => K y11 y12 y13 y14 w10) := okF dW Tryz.func34 .leaf (by kernel_rfl)
theorem rQ {a0 w K} : aY (dG a0 w K)
 (Al w (.cells ⟨[(Value.bool false)]⟩ 4) fun a3 w2 => Al w2 (.map #[] 0) fun a5 w4 => Al w4 (.cells ⟨[(Value.map none)]⟩ 121) fun a7 w6 => St w6 a7 (Value.map (some w2.heap.size)) fun w8 => Ag Tryz.prog none [.agg [(.int .i64), (.int .i64), (.int .i64)]] a0 w8 (fun l9 x10 W11 Kb12 => Al W11 (.cells ⟨[(Value.int .i64 0), (Value.int .i64 0), (Value.int .i64 0)]⟩ 47) fun a14 w13 => mg [(Value.int .i64 x10.1.1), (Value.int .i64 x10.1.2.1), (Value.int .i64 x10.1.2.2.1)] w13 a14 0 fun w15 => w15.heap[l9]? = W11.heap[l9]? ∧
 Ld .map (ak w15 l9) a7 fun x16 => Ld (.int .i64) (ak w15 l9) (a14.add 0) fun x17 => Ld (.int .i64) (ak w15 l9) (a14.add 1) fun x18 => Ld (.int .i64) (ak w15 l9) (a14.add 2) fun x19 => kL Tryz.prog 47 .bool x16 (Value.agg ⟨[(Value.int .i64 x17), (Value.int .i64 x18), (Value.int .i64 x19)]⟩) (Value.bool false) (ak w15 l9) fun x20 => (bif x20 then
 St (ak w15 l9) a3 (Value.bool false) fun w21 => Kb12 .ret w21
 else
 Ld .map (ak w15 l9) a7 fun x22 => Ld (.int .i64) (ak w15 l9) (a14.add 0) fun x23 => Ld (.int .i64) (ak w15 l9) (a14.add 1) fun x24 => Ld (.int .i64) (ak w15 l9) (a14.add 2) fun x25 => ng Tryz.prog 47 x22 (Value.agg ⟨[(Value.int .i64 x23), (Value.int .i64 x24), (Value.int .i64 x25)]⟩) (Value.bool true) (ak w15 l9) fun w26 => Kb12 .normal w26))
 (fun w27 => St w27 a3 (Value.bool true) fun w28 => w28.heap[w8.heap.size]? = some (.deferred (some [])) ∧
 Ld .bool (w28.putObj w8.heap.size (.deferred none)) a3 fun y29 => K y29 (w28.putObj w8.heap.size (.deferred none)))
 (fun w30 => w30.heap[w8.heap.size]? = some (.deferred (some [])) ∧
 Ld .bool (w30.putObj w8.heap.size (.deferred none)) a3 fun y31 => K y31 (w30.putObj w8.heap.size (.deferred none)))
 []) := okF dW Tryz.func35 (.seq .leaf (.seq .leaf (.seq (.seq .leaf (.blk (.rng [.agg [(.int .i64), (.int .i64), (.int .i64)]] .leaf .leaf))) .leaf))) (by kernel_rfl)
theorem jQ {a0 a1 w K} : aY (bg a0 a1 w K)
 (bK (Value.slice a0.a a0.len a0.cap) = true ∧
 Al w (.cells ⟨[(Value.slice a0.a a0.len a0.cap)]⟩ 29) fun a4 w3 => bK a1 = true ∧
 Al w3 (.cells ⟨[a1]⟩ 85) fun a6 w5 => K (Value.func (.func 69) #[] #[(Value.pointer (some a4)), (Value.pointer (some a6))]) w5) := okF dW Tryz.func36 .leaf (by kernel_rfl)
theorem DJ {A0 A1 A2 A3 A4 A5 A6 A7 w K} : aY (wY A0 A1 A2 A3 A4 A5 A6 A7 w K)
 (Al w (.cells ⟨[(Value.int .i64 A0), (Value.int .i64 A1), (Value.int .i64 A2), (Value.int .i64 A3), (Value.int .i64 A4), (Value.int .i64 A5), (Value.int .i64 A6), (Value.bool A7)]⟩ 49) fun a3 w2 => Al w2 (.cells ⟨[(Value.int .i64 0), (Value.int .i64 0), (Value.int .i64 0)]⟩ 47) fun a5 w4 => Ld (.int .i64) w4 ((a3.add 4).add 0) fun x6 => Ld (.int .i64) w4 ((a3.add 4).add 1) fun x7 => Ld (.int .i64) w4 ((a3.add 4).add 2) fun x8 => mg [(Value.int .i64 x6), (Value.int .i64 x7), (Value.int .i64 x8)] w4 a5 0 fun w9 => Ld (.int .i64) w9 (a5.add 0) fun y10 => Ld (.int .i64) w9 (a5.add 1) fun y11 => Ld (.int .i64) w9 (a5.add 2) fun y12 => K y10 y11 y12 w9) := okF dW Tryz.func37 .leaf (by kernel_rfl)
theorem fV {a0 a1 w K} : aY (aK a0 a1 w K)
 (eU (S := Int × Unit) (fun s3 w4 next5 => (bif (decide (s3.1 < (a0.len : Int))) then
 iD a0 8 s3.1 fun a6 => Ld (.int .i64) w4 (a6.add 0) fun x7 => Ld (.int .i64) w4 (a6.add 1) fun x8 => Ld (.int .i64) w4 (a6.add 2) fun x9 => Ld (.int .i64) w4 (a6.add 3) fun x10 => Ld (.int .i64) w4 (a6.add 4) fun x11 => Ld (.int .i64) w4 (a6.add 5) fun x12 => Ld (.int .i64) w4 (a6.add 6) fun x13 => Ld .bool w4 (a6.add 7) fun x14 => gu Tryz.prog [.one .bool] a1 [(Value.agg ⟨[(Value.int .i64 x7), (Value.int .i64 x8), (Value.int .i64 x9), (Value.int .i64 x10), (Value.int .i64 x11), (Value.int .i64 x12), (Value.int .i64 x13), (Value.bool x14)]⟩)] w4 fun r15 w16 => ∃ r17 : Bool, r15 = (Value.bool r17) ∧
 (bif r17 then
 K s3.1 w16
 else
 next5 ((IntKind.i64.wrap (s3.1 + 1)), ()) w16)
 else
 K (-1) w4)) (0, ()) w) := okF dW Tryz.func38 (.seq .leaf (.seq (.seq .leaf (.blk (.loop [(8, (.int .i64))] .leaf))) .leaf)) (by kernel_rfl)
theorem wX {A0 A1 A2 A3 A4 A5 A6 A7 f0 w K} : aY (yh A0 A1 A2 A3 A4 A5 A6 A7 f0 w K)
 (Al w (.cells ⟨[(Value.int .i64 A0), (Value.int .i64 A1), (Value.int .i64 A2), (Value.int .i64 A3), (Value.int .i64 A4), (Value.int .i64 A5), (Value.int .i64 A6), (Value.bool A7)]⟩ 49) fun a3 w2 => Ld .slice w2 (f0.add 17) fun x4 => Ld (.int .i64) w2 ((a3.add 4).add 1) fun x5 => bC x4 x5 w2 fun r6 w7 => (bif (!r6) then
 K true w7
 else
 let J8 : Bool -> Prop := fun j9 => (K j9 w7)
 Ld .bool w7 (a3.add 7) fun x10 => (bif (!x10) then
 Ld (.int .i64) w7 ((a3.add 4).add 2) fun x11 => Ld (.int .i64) w7 (f0.add 18) fun x12 => (bif (decide (x11 < x12)) then
 J8 true
 else
 Ld (.int .i64) w7 ((a3.add 4).add 2) fun x13 => Ld (.int .i64) w7 (f0.add 19) fun x14 => J8 (decide (x13 > x14)))
 else
 J8 false))) := okF dW Tryz.func39 .leaf (by kernel_rfl)
theorem n_ {a0 a1 w K} : aY (bC a0 a1 w K)
 (dD a0 a1 w fun r3 w4 => K (decide (r3 >= 0)) w4) := okF dW Tryz.func40 .leaf (by kernel_rfl)
theorem fU {a0 a1 w K} : aY (aJ a0 a1 w K)
 (eU (S := Int × Unit) (fun s3 w4 next5 => (bif (decide (s3.1 < (a0.len : Int))) then
 iD a0 5 s3.1 fun a6 => Ld (.int .i64) w4 (a6.add 0) fun x7 => Ld (.int .i64) w4 (a6.add 1) fun x8 => Ld (.int .i64) w4 (a6.add 2) fun x9 => Ld (.int .i64) w4 (a6.add 3) fun x10 => Ld (.int .i64) w4 (a6.add 4) fun x11 => gu Tryz.prog [.one .bool] a1 [(Value.agg ⟨[(Value.int .i64 x7), (Value.int .i64 x8), (Value.int .i64 x9), (Value.int .i64 x10), (Value.int .i64 x11)]⟩)] w4 fun r12 w13 => ∃ r14 : Bool, r12 = (Value.bool r14) ∧
 (bif r14 then
 K s3.1 w13
 else
 next5 ((IntKind.i64.wrap (s3.1 + 1)), ()) w13)
 else
 K (-1) w4)) (0, ()) w) := okF dW Tryz.func41 (.seq .leaf (.seq (.seq .leaf (.blk (.loop [(8, (.int .i64))] .leaf))) .leaf)) (by kernel_rfl)
theorem vW {a0 f0 f1 w K} : aY (wQ a0 f0 f1 w K)
 (Ld .slice w (f0.add 1) fun x2 => eU (S := Int × Unit) (fun s3 w4 next5 => (bif (decide (s3.1 < (x2.len : Int))) then
 iD x2 8 s3.1 fun a6 => Ld (.int .i64) w4 (a6.add 0) fun x7 => Ld (.int .i64) w4 (a6.add 1) fun x8 => Ld (.int .i64) w4 (a6.add 2) fun x9 => Ld (.int .i64) w4 (a6.add 3) fun x10 => Ld (.int .i64) w4 (a6.add 4) fun x11 => Ld (.int .i64) w4 (a6.add 5) fun x12 => Ld (.int .i64) w4 (a6.add 6) fun x13 => Ld .bool w4 (a6.add 7) fun x14 => Al w4 (.cells ⟨[(Value.int .i64 0), (Value.int .i64 0), (Value.int .i64 0), (Value.int .i64 0), (Value.int .i64 0), (Value.int .i64 0), (Value.int .i64 0), (Value.bool false)]⟩ 49) fun a16 w15 => mg [(Value.int .i64 x7), (Value.int .i64 x8), (Value.int .i64 x9), (Value.int .i64 x10), (Value.int .i64 x11), (Value.int .i64 x12), (Value.int .i64 x13), (Value.bool x14)] w15 a16 0 fun w17 => let J18 : Bool -> World -> Prop := fun j19 w20 => ((bif j19 then
 K w20
 else
 next5 ((IntKind.i64.wrap (s3.1 + 1)), ()) w20))
 Ld .slice w17 (f1.add 1) fun x21 => Ld (.int .i64) w17 (a16.add 0) fun x22 => Ld (.int .i64) w17 (a16.add 1) fun x23 => Ld (.int .i64) w17 (a16.add 2) fun x24 => Ld (.int .i64) w17 (a16.add 3) fun x25 => Ld (.int .i64) w17 (a16.add 4) fun x26 => Ld (.int .i64) w17 (a16.add 5) fun x27 => Ld (.int .i64) w17 (a16.add 6) fun x28 => Ld .bool w17 (a16.add 7) fun x29 => aN x21 x22 x23 x24 x25 x26 x27 x28 x29 w17 fun r30 w31 => (bif (!r30) then
 Ld (.int .i64) w31 (a16.add 0) fun x32 => Ld (.int .i64) w31 (a16.add 1) fun x33 => Ld (.int .i64) w31 (a16.add 2) fun x34 => Ld (.int .i64) w31 (a16.add 3) fun x35 => Ld (.int .i64) w31 (a16.add 4) fun x36 => Ld (.int .i64) w31 (a16.add 5) fun x37 => Ld (.int .i64) w31 (a16.add 6) fun x38 => Ld .bool w31 (a16.add 7) fun x39 => gu Tryz.prog [.one .bool] a0 [(Value.int .i64 s3.1), (Value.agg ⟨[(Value.int .i64 x32), (Value.int .i64 x33), (Value.int .i64 x34), (Value.int .i64 x35), (Value.int .i64 x36), (Value.int .i64 x37), (Value.int .i64 x38), (Value.bool x39)]⟩)] w31 fun r40 w41 => ∃ r42 : Bool, r40 = (Value.bool r42) ∧
 J18 (!r42) w41
 else
 J18 false w31)
 else
 K w4)) (0, ()) w) := okF dW Tryz.func42 (.seq .leaf (.blk (.loop [(9, (.int .i64))] .leaf))) (by kernel_rfl)
theorem gy {a0 B0 B1 B2 B3 B4 B5 B6 B7 w K} : aY (aN a0 B0 B1 B2 B3 B4 B5 B6 B7 w K)
 (Al w (.cells ⟨[(Value.int .i64 B0), (Value.int .i64 B1), (Value.int .i64 B2), (Value.int .i64 B3), (Value.int .i64 B4), (Value.int .i64 B5), (Value.int .i64 B6), (Value.bool B7)]⟩ 49) fun a4 w3 => Ld (.int .i64) w3 (a4.add 0) fun x5 => Ld (.int .i64) w3 (a4.add 1) fun x6 => Ld (.int .i64) w3 (a4.add 2) fun x7 => Ld (.int .i64) w3 (a4.add 3) fun x8 => Ld (.int .i64) w3 (a4.add 4) fun x9 => Ld (.int .i64) w3 (a4.add 5) fun x10 => Ld (.int .i64) w3 (a4.add 6) fun x11 => Ld .bool w3 (a4.add 7) fun x12 => aQ a0 x5 x6 x7 x8 x9 x10 x11 x12 w3 fun r13 w14 => K (decide (r13 >= 0)) w14) := okF dW Tryz.func43 .leaf (by kernel_rfl)
theorem Gl {a0 w K} : aY (mQ a0 w K)
 (Al w (.cells ⟨[(Value.int .i64 0), (Value.int .i64 0), (Value.int .i64 0), (Value.int .i64 0), (Value.int .i64 0), (Value.int .i64 0), (Value.int .i64 0), (Value.int .i64 0)]⟩ 93) fun a3 w2 => (bif (decide ((a0.size : Int) > 200)) then
 mg [(Value.int .i64 0), (Value.int .i64 0), (Value.int .i64 0), (Value.int .i64 0), (Value.int .i64 0), (Value.int .i64 0), (Value.int .i64 0), (Value.int .i64 0)] w2 a3 0 fun w4 => Ld (.int .i64) w4 (a3.add 0) fun y5 => Ld (.int .i64) w4 (a3.add 1) fun y6 => Ld (.int .i64) w4 (a3.add 2) fun y7 => Ld (.int .i64) w4 (a3.add 3) fun y8 => Ld (.int .i64) w4 (a3.add 4) fun y9 => Ld (.int .i64) w4 (a3.add 5) fun y10 => Ld (.int .i64) w4 (a3.add 6) fun y11 => Ld (.int .i64) w4 (a3.add 7) fun y12 => K y5 y6 y7 y8 y9 y10 y11 y12 6 w4
 else
 dX a0 (bs [32]) w2 fun r13 w14 => let J15 : World -> Prop := fun w16 => (mg [(Value.int .i64 0), (Value.int .i64 0), (Value.int .i64 0), (Value.int .i64 0), (Value.int .i64 0), (Value.int .i64 0), (Value.int .i64 0), (Value.int .i64 0)] w16 a3 0 fun w17 => Ld (.int .i64) w17 (a3.add 0) fun y18 => Ld (.int .i64) w17 (a3.add 1) fun y19 => Ld (.int .i64) w17 (a3.add 2) fun y20 => Ld (.int .i64) w17 (a3.add 3) fun y21 => Ld (.int .i64) w17 (a3.add 4) fun y22 => Ld (.int .i64) w17 (a3.add 5) fun y23 => Ld (.int .i64) w17 (a3.add 6) fun y24 => Ld (.int .i64) w17 (a3.add 7) fun y25 => K y18 y19 y20 y21 y22 y23 y24 y25 13 w17)
 eU (S := Int × Unit) (fun s26 w27 next28 => (bif (decide (s26.1 <= 4)) then
 kV s26.1 w27 fun r29 r30 r31 w32 => Al w32 (.cells ⟨[(Value.string (bs [])), (Value.int .i64 0)]⟩ 128) fun a34 w33 => mg [(Value.string r29), (Value.int .i64 r30)] w33 a34 0 fun w35 => let J36 : Bool -> World -> Prop := fun j37 w38 => ((bif j37 then
 next28 ((IntKind.i64.wrap (s26.1 + 1)), ()) w38
 else
 zK r13 1 1 (r13.len : Int) fun s39 => nX s26.1 s39 w38 fun r40 r41 r42 r43 r44 r45 r46 r47 r48 w49 => Al w49 (.cells ⟨[(Value.int .i64 0), (Value.int .i64 0), (Value.int .i64 0), (Value.int .i64 0), (Value.int .i64 0), (Value.int .i64 0), (Value.int .i64 0), (Value.int .i64 0)]⟩ 93) fun a51 w50 => mg [(Value.int .i64 r40), (Value.int .i64 r41), (Value.int .i64 r42), (Value.int .i64 r43), (Value.int .i64 r44), (Value.int .i64 r45), (Value.int .i64 r46), (Value.int .i64 r47)] w50 a51 0 fun w52 => (bif (!r48) then
 J15 w52
 else
 Ld (.int .i64) w52 (a51.add 0) fun x53 => Ld (.int .i64) w52 (a51.add 1) fun x54 => Ld (.int .i64) w52 (a51.add 2) fun x55 => Ld (.int .i64) w52 (a51.add 3) fun x56 => Ld (.int .i64) w52 (a51.add 4) fun x57 => Ld (.int .i64) w52 (a51.add 5) fun x58 => Ld (.int .i64) w52 (a51.add 6) fun x59 => Ld (.int .i64) w52 (a51.add 7) fun x60 => mg [(Value.int .i64 x53), (Value.int .i64 x54), (Value.int .i64 x55), (Value.int .i64 x56), (Value.int .i64 x57), (Value.int .i64 x58), (Value.int .i64 x59), (Value.int .i64 x60)] w52 a3 0 fun w61 => Ld (.int .i64) w61 (a3.add 0) fun y62 => Ld (.int .i64) w61 (a3.add 1) fun y63 => Ld (.int .i64) w61 (a3.add 2) fun y64 => Ld (.int .i64) w61 (a3.add 3) fun y65 => Ld (.int .i64) w61 (a3.add 4) fun y66 => Ld (.int .i64) w61 (a3.add 5) fun y67 => Ld (.int .i64) w61 (a3.add 6) fun y68 => Ld (.int .i64) w61 (a3.add 7) fun y69 => K y62 y63 y64 y65 y66 y67 y68 y69 0 w61)))
 Ld .str w35.drew a34 fun x70 => iD r13 1 0 fun a71 => Ld .str w35.drew a71 fun x72 => (bif (!strEq x70 x72) then
 J36 true w35.drew
 else
 Ld (.int .i64) w35.drew (a34.add 1) fun x73 => J36 (x73 != (r13.len : Int)) w35.drew)
 else
 J15 w27)) (1, ()) w14)) := okF dW Tryz.func44 (.seq .leaf (.seq .leaf (.seq .leaf (.seq .leaf (.seq (.seq .leaf (.blk (.loop [(5, (.int .i64))] .leaf))) .leaf))))) (by kernel_rfl)
theorem w_ {A0 A1 A2 A3 A4 A5 A6 A7 A8 A9 A10 A11 A12 A13 A14 A15 w K} : aY (yV A0 A1 A2 A3 A4 A5 A6 A7 A8 A9 A10 A11 A12 A13 A14 A15 w K)
 (Al w (.cells ⟨(gq A0 A1 A2 A3 A4 A5 A6 A7 A8 A9 A10 A11 A12 A13 A14 A15)⟩ 23) fun a3 w2 => rV w2 a3 fun x4 x5 x6 x7 x8 x9 x10 x11 x12 x13 x14 x15 x16 x17 x18 x19 => lT x4 x5 x6 x7 x8 x9 x10 x11 x12 x13 x14 x15 x16 x17 x18 x19 w2 fun r20 w21 => K (!r20) w21) := okF dW Tryz.func45 .leaf (by kernel_rfl)
theorem H8 {A0 A1 A2 A3 A4 A5 A6 A7 A8 A9 A10 A11 A12 A13 A14 A15 w K} : aY (lT A0 A1 A2 A3 A4 A5 A6 A7 A8 A9 A10 A11 A12 A13 A14 A15 w K)
 (Al w (.cells ⟨(gq A0 A1 A2 A3 A4 A5 A6 A7 A8 A9 A10 A11 A12 A13 A14 A15)⟩ 23) fun a3 w2 => Al w2 (.cells ⟨(gq 0 0 0 0 0 0 0 0 0 0 0 0 0 0 0 0)⟩ 23) fun a5 w4 => let J6 : Bool -> Prop := fun j7 => (K j7 w4)
 rV w4 a3 fun x8 x9 x10 x11 x12 x13 x14 x15 x16 x17 x18 x19 x20 x21 x22 x23 => rV w4 a5 fun x24 x25 x26 x27 x28 x29 x30 x31 x32 x33 x34 x35 x36 x37 x38 x39 => (bif (!((x8 == x24) && ((x9 == x25) && ((x10 == x26) && ((x11 == x27) && ((x12 == x28) && ((x13 == x29) && ((x14 == x30) && ((x15 == x31) && ((x16 == x32) && ((x17 == x33) && ((x18 == x34) && ((x19 == x35) && ((x20 == x36) && ((x21 == x37) && ((x22 == x38) && ((x23 == x39) && true))))))))))))))))) then
 (0 : Int) <= 0 ∧ 0 < (16 : Int) ∧
 Ld (.int .u8) w4 (a3.add (Int.toNat 0 * 1)) fun x40 => J6 (x40 != 255)
 else
 J6 false)) := okF dW Tryz.func46 .leaf (by kernel_rfl)
theorem wU {a0 w K} : aY (yY a0 w K)
 (iT a0 w fun r2 w3 => K (!r2) w3) := okF dW Tryz.func47 .leaf (by kernel_rfl)
theorem wV {a0 w K} : aY (iT a0 w K)
 (jd a0 w fun r2 w3 => (bif (!r2) then
 K false w3
 else
 Al w3 (.cells ⟨[(Value.int .i64 0), (Value.int .i64 8), (Value.int .i64 2130706432), (Value.int .i64 8), (Value.int .i64 3758096384), (Value.int .i64 3)]⟩ 135) fun a5 w4 => qV a0 ⟨(some a5), 3, 3⟩ w4 fun r6 w7 => K (!r6) w7)) := okF dW Tryz.func48 .leaf (by kernel_rfl)
theorem xJ {A0 A1 A2 A3 A4 A5 A6 f0 w K} : aY (yS A0 A1 A2 A3 A4 A5 A6 f0 w K)
 (Al w (.cells ⟨[(Value.int .i64 A0), (Value.int .i64 A1), (Value.int .i64 A2), (Value.int .i64 A3), (Value.int .i64 A4), (Value.int .i64 A5), (Value.int .i64 A6)]⟩ 98) fun a3 w2 => rW w2 f0 fun x4 x5 x6 x7 x8 x9 x10 x11 x12 x13 x14 x15 x16 x17 x18 x19 x20 x21 x22 x23 x24 x25 x26 x27 x28 x29 x30 x31 x32 x33 x34 x35 x36 x37 x38 x39 => Ld (.int .i64) w2 (a3.add 0) fun x40 => Ld (.int .i64) w2 (a3.add 1) fun x41 => Ld (.int .i64) w2 (a3.add 2) fun x42 => Ld (.int .i64) w2 (a3.add 3) fun x43 => Ld (.int .i64) w2 (a3.add 4) fun x44 => Ld (.int .i64) w2 (a3.add 5) fun x45 => Ld (.int .i64) w2 (a3.add 6) fun x46 => jJ x4 x5 x6 x7 x8 x9 x10 x11 x12 x13 x14 x15 x16 x17 x18 x19 x20 x21 x22 x23 x24 x25 x26 x27 x28 x29 x30 x31 x32 x33 x34 x35 x36 x37 x38 x39 x40 x41 x42 x43 x44 x45 x46 w2 fun r47 w48 => K (!r47) w48) := okF dW Tryz.func49 .leaf (by kernel_rfl)
theorem Bz {A0 A1 A2 A3 A4 A5 A6 A7 A8 A9 A10 A11 A12 A13 A14 A15 A16 A17 A18 A19 A20 A21 A22 A23 A24 A25 A26 A27 A28 A29 A30 A31 A32 A33 A34 A35 B0 B1 B2 B3 B4 B5 B6 w K} : aY (jJ A0 A1 A2 A3 A4 A5 A6 A7 A8 A9 A10 A11 A12 A13 A14 A15 A16 A17 A18 A19 A20 A21 A22 A23 A24 A25 A26 A27 A28 A29 A30 A31 A32 A33 A34 A35 B0 B1 B2 B3 B4 B5 B6 w K)
 (Al w (.cells ⟨(gU A0 A1 A2 A3 A4 A5 A6 A7 A8 A9 A10 A11 A12 A13 A14 A15 A16 A17 A18 A19 A20 A21 A22 A23 A24 A25 A26 A27 A28 A29 A30 A31 A32 A33 A34 A35)⟩ 28) fun a4 w3 => Al w3 (.cells ⟨[(Value.int .i64 B0), (Value.int .i64 B1), (Value.int .i64 B2), (Value.int .i64 B3), (Value.int .i64 B4), (Value.int .i64 B5), (Value.int .i64 B6)]⟩ 98) fun a6 w5 => let J7 : Bool -> World -> Prop := fun j8 w9 => (let J10 : Bool -> World -> Prop := fun j11 w12 => (let J13 : Bool -> World -> Prop := fun j14 w15 => (let J16 : Bool -> World -> Prop := fun j17 w18 => (K j17 w18)
 (bif j8 then
 (bif j11 then
 (bif j14 then
 Ld (.int .i64) w15 a6 fun x19 => Ld .slice w15 (a4.add 16) fun x20 => bU x19 0 (IntKind.i64.wrap ((x20.len : Int) - 1)) w15 fun r21 w22 => J16 r21 w22
 else
 J16 false w15)
 else
 J16 false w15)
 else
 J16 false w15))
 Ld (.int .i64) w12 (a6.add 1) fun x23 => iL x23 w12 fun r24 w25 => (bif r24 then
 Ld (.int .i64) w25 (a6.add 1) fun x26 => Ld (.int .i64) w25 (a6.add 4) fun x27 => J13 (x26 == x27) w25
 else
 J13 false w25))
 Ld (.int .i64) w9 (a6.add 2) fun x28 => iT x28 w9 fun r29 w30 => (bif r29 then
 Ld .slice w30 (a4.add 17) fun x31 => Ld (.int .i64) w30 ((a6.add 4).add 1) fun x32 => bC x31 x32 w30 fun r33 w34 => J10 r33 w34
 else
 J10 false w30))
 Ld (.int .i64) w5 (a6.add 3) fun x35 => bU x35 0 65535 w5 fun r36 w37 => (bif r36 then
 Ld (.int .i64) w37 ((a6.add 4).add 2) fun x38 => bU x38 0 65535 w37 fun r39 w40 => J7 r39 w40
 else
 J7 false w37)) := okF dW Tryz.func50 .leaf (by kernel_rfl)
theorem iH {a0 a1 w K} : aY (aS a0 a1 w K)
 (aV a0 a1 w fun r3 w4 => K (decide (r3 >= 0)) w4) := okF dW Tryz.func51 .leaf (by kernel_rfl)
theorem lU {a0 a1 w K} : aY (aZ a0 a1 w K)
 (bW a0 a1 w fun r3 w4 => K (decide (r3 >= 0)) w4) := okF dW Tryz.func52 .leaf (by kernel_rfl)
theorem fM {a0 a1 w K} : aY (aI a0 a1 w K)
 (aO a0 a1 w fun r3 w4 => K (decide (r3 >= 0)) w4) := okF dW Tryz.func53 .leaf (by kernel_rfl)
theorem kX {a0 w K} : aY (aT a0 w K)
 ((bif (Option.isNone a0.a) then
 K ⟨none, 0, 0⟩ w
 else
 Al w (.cells ⟨[]⟩ 23) fun a3 w2 => Ea 23 16 16 (gq 0 0 0 0 0 0 0 0 0 0 0 0 0 0 0 0) ⟨(some a3), 0, 0⟩ a0 w2 fun s4 w5 => K s4 w5)) := okF dW Tryz.func54 .leaf (by kernel_rfl)
theorem uH {A0 A1 A2 A3 A4 A5 A6 w K} : aY (oz A0 A1 A2 A3 A4 A5 A6 w K)
 (Al w (.cells ⟨[(Value.int .i64 A0), (Value.int .i64 A1), (Value.int .i64 A2), (Value.int .i64 A3), (Value.int .i64 A4), (Value.int .i64 A5), (Value.int .i64 A6)]⟩ 98) fun a3 w2 => Al w2 (.cells ⟨[(Value.int .i64 0), (Value.int .i64 0), (Value.int .i64 0), (Value.int .i64 0)]⟩ 45) fun a5 w4 => Ld (.int .i64) w4 (a3.add 0) fun x6 => Ld (.int .i64) w4 (a3.add 1) fun x7 => Ld (.int .i64) w4 (a3.add 2) fun x8 => Ld (.int .i64) w4 (a3.add 3) fun x9 => mg [(Value.int .i64 x6), (Value.int .i64 x7), (Value.int .i64 x8), (Value.int .i64 x9)] w4 a5 0 fun w10 => Ld (.int .i64) w10 (a5.add 0) fun y11 => Ld (.int .i64) w10 (a5.add 1) fun y12 => Ld (.int .i64) w10 (a5.add 2) fun y13 => Ld (.int .i64) w10 (a5.add 3) fun y14 => K y11 y12 y13 y14 w10) := okF dW Tryz.func55 .leaf (by kernel_rfl)
theorem um {A0 A1 A2 A3 A4 A5 A6 w K} : aY (og A0 A1 A2 A3 A4 A5 A6 w K)
 (Al w (.cells ⟨[(Value.int .i64 A0), (Value.int .i64 A1), (Value.int .i64 A2), (Value.int .i64 A3), (Value.int .i64 A4), (Value.int .i64 A5), (Value.int .i64 A6)]⟩ 98) fun a3 w2 => Al w2 (.cells ⟨[(Value.int .i64 0), (Value.int .i64 0), (Value.int .i64 0)]⟩ 47) fun a5 w4 => Ld (.int .i64) w4 ((a3.add 4).add 0) fun x6 => Ld (.int .i64) w4 ((a3.add 4).add 1) fun x7 => Ld (.int .i64) w4 ((a3.add 4).add 2) fun x8 => mg [(Value.int .i64 x6), (Value.int .i64 x7), (Value.int .i64 x8)] w4 a5 0 fun w9 => Ld (.int .i64) w9 (a5.add 0) fun y10 => Ld (.int .i64) w9 (a5.add 1) fun y11 => Ld (.int .i64) w9 (a5.add 2) fun y12 => K y10 y11 y12 w9) := okF dW Tryz.func56 .leaf (by kernel_rfl)
theorem qL {a0 w K} : aY (dA a0 w K)
 (Al w (.cells ⟨[(Value.bool false)]⟩ 4) fun a3 w2 => Al w2 (.map #[] 0) fun a5 w4 => Al w4 (.cells ⟨[(Value.map none)]⟩ 139) fun a7 w6 => St w6 a7 (Value.map (some w2.heap.size)) fun w8 => Ag Tryz.prog none [.agg JY] a0 w8 (fun l9 x10 W11 Kb12 => Al W11 (.cells ⟨(gq 0 0 0 0 0 0 0 0 0 0 0 0 0 0 0 0)⟩ 23) fun a14 w13 => mg (gq x10.1.1 x10.1.2.1 x10.1.2.2.1 x10.1.2.2.2.1 x10.1.2.2.2.2.1 x10.1.2.2.2.2.2.1 x10.1.2.2.2.2.2.2.1 x10.1.2.2.2.2.2.2.2.1 x10.1.2.2.2.2.2.2.2.2.1 x10.1.2.2.2.2.2.2.2.2.2.1 x10.1.2.2.2.2.2.2.2.2.2.2.1 x10.1.2.2.2.2.2.2.2.2.2.2.2.1 x10.1.2.2.2.2.2.2.2.2.2.2.2.2.1 x10.1.2.2.2.2.2.2.2.2.2.2.2.2.2.1 x10.1.2.2.2.2.2.2.2.2.2.2.2.2.2.2.1 x10.1.2.2.2.2.2.2.2.2.2.2.2.2.2.2.2.1) w13 a14 0 fun w15 => w15.heap[l9]? = W11.heap[l9]? ∧
 Ld .map (ak w15 l9) a7 fun x16 => rV (ak w15 l9) a14 fun x17 x18 x19 x20 x21 x22 x23 x24 x25 x26 x27 x28 x29 x30 x31 x32 => kL Tryz.prog 23 .bool x16 (Value.agg ⟨gq x17 x18 x19 x20 x21 x22 x23 x24 x25 x26 x27 x28 x29 x30 x31 x32⟩) (Value.bool false) (ak w15 l9) fun x33 => (bif x33 then
 St (ak w15 l9) a3 (Value.bool true) fun w34 => Kb12 .ret w34
 else
 Ld .map (ak w15 l9) a7 fun x35 => rV (ak w15 l9) a14 fun x36 x37 x38 x39 x40 x41 x42 x43 x44 x45 x46 x47 x48 x49 x50 x51 => ng Tryz.prog 23 x35 (Value.agg ⟨gq x36 x37 x38 x39 x40 x41 x42 x43 x44 x45 x46 x47 x48 x49 x50 x51⟩) (Value.bool true) (ak w15 l9) fun w52 => Kb12 .normal w52))
 (fun w53 => St w53 a3 (Value.bool false) fun w54 => w54.heap[w8.heap.size]? = some (.deferred (some [])) ∧
 Ld .bool (w54.putObj w8.heap.size (.deferred none)) a3 fun y55 => K y55 (w54.putObj w8.heap.size (.deferred none)))
 (fun w56 => w56.heap[w8.heap.size]? = some (.deferred (some [])) ∧
 Ld .bool (w56.putObj w8.heap.size (.deferred none)) a3 fun y57 => K y57 (w56.putObj w8.heap.size (.deferred none)))
 []) := okF dW Tryz.func57 (.seq .leaf (.seq .leaf (.seq (.seq .leaf (.blk (.rng [.agg JY] .leaf .leaf))) .leaf))) (by kernel_rfl)
theorem lW {a0 a1 w K} : aY (bJ a0 a1 w K)
 (bK (Value.slice a0.a a0.len a0.cap) = true ∧
 Al w (.cells ⟨[(Value.slice a0.a a0.len a0.cap)]⟩ 24) fun a4 w3 => bK a1 = true ∧
 Al w3 (.cells ⟨[a1]⟩ 111) fun a6 w5 => K (Value.func (.func 81) #[] #[(Value.pointer (some a4)), (Value.pointer (some a6))]) w5) := okF dW Tryz.func58 .leaf (by kernel_rfl)
theorem pK {A0 A1 A2 A3 A4 A5 A6 A7 A8 A9 A10 A11 A12 A13 A14 A15 w K} : aY (jU A0 A1 A2 A3 A4 A5 A6 A7 A8 A9 A10 A11 A12 A13 A14 A15 w K)
 (Al w (.cells ⟨(gq A0 A1 A2 A3 A4 A5 A6 A7 A8 A9 A10 A11 A12 A13 A14 A15)⟩ 23) fun a3 w2 => Al w2 (.cells ⟨(gq 0 0 0 0 0 0 0 0 0 0 0 0 0 0 0 0)⟩ 23) fun a5 w4 => rV w4 a3 fun x6 x7 x8 x9 x10 x11 x12 x13 x14 x15 x16 x17 x18 x19 x20 x21 => mg (gq x6 x7 x8 x9 x10 x11 x12 x13 x14 x15 x16 x17 x18 x19 x20 x21) w4 a5 0 fun w22 => rV w22 a5 fun y23 y24 y25 y26 y27 y28 y29 y30 y31 y32 y33 y34 y35 y36 y37 y38 => K y23 y24 y25 y26 y27 y28 y29 y30 y31 y32 y33 y34 y35 y36 y37 y38 w22) := okF dW Tryz.func59 .leaf (by kernel_rfl)
theorem uq {a0 w K} : aY (dU a0 w K)
 (Al w (.cells ⟨[(Value.bool false)]⟩ 4) fun a3 w2 => Al w2 (.map #[] 0) fun a5 w4 => Al w4 (.cells ⟨[(Value.map none)]⟩ 140) fun a7 w6 => St w6 a7 (Value.map (some w2.heap.size)) fun w8 => Ag Tryz.prog none [.one (.int .i64)] a0 w8 (fun l9 x10 W11 Kb12 => W11.heap[l9]? = W11.heap[l9]? ∧
 Ld .map (ak W11 l9) a7 fun x13 => kL Tryz.prog 3 .bool x13 (Value.int .i64 x10.1) (Value.bool false) (ak W11 l9) fun x14 => (bif x14 then
 St (ak W11 l9) a3 (Value.bool true) fun w15 => Kb12 .ret w15
 else
 Ld .map (ak W11 l9) a7 fun x16 => ng Tryz.prog 3 x16 (Value.int .i64 x10.1) (Value.bool true) (ak W11 l9) fun w17 => Kb12 .normal w17))
 (fun w18 => St w18 a3 (Value.bool false) fun w19 => w19.heap[w8.heap.size]? = some (.deferred (some [])) ∧
 Ld .bool (w19.putObj w8.heap.size (.deferred none)) a3 fun y20 => K y20 (w19.putObj w8.heap.size (.deferred none)))
 (fun w21 => w21.heap[w8.heap.size]? = some (.deferred (some [])) ∧
 Ld .bool (w21.putObj w8.heap.size (.deferred none)) a3 fun y22 => K y22 (w21.putObj w8.heap.size (.deferred none)))
 []) := okF dW Tryz.func60 (.seq .leaf (.seq .leaf (.seq (.seq .leaf (.blk (.rng [.one (.int .i64)] .leaf .leaf))) .leaf))) (by kernel_rfl)
theorem qP {a0 a1 w K} : aY (dI a0 a1 w K)
 (bK (Value.slice a0.a a0.len a0.cap) = true ∧
 Al w (.cells ⟨[(Value.slice a0.a a0.len a0.cap)]⟩ 25) fun a4 w3 => bK a1 = true ∧
 Al w3 (.cells ⟨[a1]⟩ 116) fun a6 w5 => K (Value.func (.func 82) #[] #[(Value.pointer (some a4)), (Value.pointer (some a6))]) w5) := okF dW Tryz.func61 .leaf (by kernel_rfl)
theorem sZ {a0 w K} : aY (uy a0 w K)
 (K a0 w) := okF dW Tryz.func62 .leaf (by kernel_rfl)
theorem oJ {a0 w K} : aY (b_ a0 w K)
 (Al w (.cells ⟨[(Value.bool false)]⟩ 4) fun a3 w2 => Al w2 (.map #[] 0) fun a5 w4 => Al w4 (.cells ⟨[(Value.map none)]⟩ 119) fun a7 w6 => St w6 a7 (Value.map (some w2.heap.size)) fun w8 => Ag Tryz.prog none [.agg [(.int .i64), (.int .i64), (.int .i64), (.int .i64)]] a0 w8 (fun l9 x10 W11 Kb12 => Al W11 (.cells ⟨[(Value.int .i64 0), (Value.int .i64 0), (Value.int .i64 0), (Value.int .i64 0)]⟩ 45) fun a14 w13 => mg [(Value.int .i64 x10.1.1), (Value.int .i64 x10.1.2.1), (Value.int .i64 x10.1.2.2.1), (Value.int .i64 x10.1.2.2.2.1)] w13 a14 0 fun w15 => w15.heap[l9]? = W11.heap[l9]? ∧
 Ld .map (ak w15 l9) a7 fun x16 => Ld (.int .i64) (ak w15 l9) (a14.add 0) fun x17 => Ld (.int .i64) (ak w15 l9) (a14.add 1) fun x18 => Ld (.int .i64) (ak w15 l9) (a14.add 2) fun x19 => Ld (.int .i64) (ak w15 l9) (a14.add 3) fun x20 => kL Tryz.prog 45 .bool x16 (Value.agg ⟨[(Value.int .i64 x17), (Value.int .i64 x18), (Value.int .i64 x19), (Value.int .i64 x20)]⟩) (Value.bool false) (ak w15 l9) fun x21 => (bif x21 then
 St (ak w15 l9) a3 (Value.bool true) fun w22 => Kb12 .ret w22
 else
 Ld .map (ak w15 l9) a7 fun x23 => Ld (.int .i64) (ak w15 l9) (a14.add 0) fun x24 => Ld (.int .i64) (ak w15 l9) (a14.add 1) fun x25 => Ld (.int .i64) (ak w15 l9) (a14.add 2) fun x26 => Ld (.int .i64) (ak w15 l9) (a14.add 3) fun x27 => ng Tryz.prog 45 x23 (Value.agg ⟨[(Value.int .i64 x24), (Value.int .i64 x25), (Value.int .i64 x26), (Value.int .i64 x27)]⟩) (Value.bool true) (ak w15 l9) fun w28 => Kb12 .normal w28))
 (fun w29 => St w29 a3 (Value.bool false) fun w30 => w30.heap[w8.heap.size]? = some (.deferred (some [])) ∧
 Ld .bool (w30.putObj w8.heap.size (.deferred none)) a3 fun y31 => K y31 (w30.putObj w8.heap.size (.deferred none)))
 (fun w32 => w32.heap[w8.heap.size]? = some (.deferred (some [])) ∧
 Ld .bool (w32.putObj w8.heap.size (.deferred none)) a3 fun y33 => K y33 (w32.putObj w8.heap.size (.deferred none)))
 []) := okF dW Tryz.func63 (.seq .leaf (.seq .leaf (.seq (.seq .leaf (.blk (.rng [.agg [(.int .i64), (.int .i64), (.int .i64), (.int .i64)]] .leaf .leaf))) .leaf))) (by kernel_rfl)
theorem jK {a0 a1 w K} : aY (aX a0 a1 w K)
 (bK (Value.slice a0.a a0.len a0.cap) = true ∧
 Al w (.cells ⟨[(Value.slice a0.a a0.len a0.cap)]⟩ 26) fun a4 w3 => bK a1 = true ∧
 Al w3 (.cells ⟨[a1]⟩ 105) fun a6 w5 => K (Value.func (.func 83) #[] #[(Value.pointer (some a4)), (Value.pointer (some a6))]) w5) := okF dW Tryz.func64 .leaf (by kernel_rfl)
theorem oO {a0 w K} : aY (cO a0 w K)
 (Al w (.cells ⟨[(Value.bool false)]⟩ 4) fun a3 w2 => Al w2 (.map #[] 0) fun a5 w4 => Al w4 (.cells ⟨[(Value.map none)]⟩ 121) fun a7 w6 => St w6 a7 (Value.map (some w2.heap.size)) fun w8 => Ag Tryz.prog none [.agg [(.int .i64), (.int .i64), (.int .i64)]] a0 w8 (fun l9 x10 W11 Kb12 => Al W11 (.cells ⟨[(Value.int .i64 0), (Value.int .i64 0), (Value.int .i64 0)]⟩ 47) fun a14 w13 => mg [(Value.int .i64 x10.1.1), (Value.int .i64 x10.1.2.1), (Value.int .i64 x10.1.2.2.1)] w13 a14 0 fun w15 => w15.heap[l9]? = W11.heap[l9]? ∧
 Ld .map (ak w15 l9) a7 fun x16 => Ld (.int .i64) (ak w15 l9) (a14.add 0) fun x17 => Ld (.int .i64) (ak w15 l9) (a14.add 1) fun x18 => Ld (.int .i64) (ak w15 l9) (a14.add 2) fun x19 => kL Tryz.prog 47 .bool x16 (Value.agg ⟨[(Value.int .i64 x17), (Value.int .i64 x18), (Value.int .i64 x19)]⟩) (Value.bool false) (ak w15 l9) fun x20 => (bif x20 then
 St (ak w15 l9) a3 (Value.bool true) fun w21 => Kb12 .ret w21
 else
 Ld .map (ak w15 l9) a7 fun x22 => Ld (.int .i64) (ak w15 l9) (a14.add 0) fun x23 => Ld (.int .i64) (ak w15 l9) (a14.add 1) fun x24 => Ld (.int .i64) (ak w15 l9) (a14.add 2) fun x25 => ng Tryz.prog 47 x22 (Value.agg ⟨[(Value.int .i64 x23), (Value.int .i64 x24), (Value.int .i64 x25)]⟩) (Value.bool true) (ak w15 l9) fun w26 => Kb12 .normal w26))
 (fun w27 => St w27 a3 (Value.bool false) fun w28 => w28.heap[w8.heap.size]? = some (.deferred (some [])) ∧
 Ld .bool (w28.putObj w8.heap.size (.deferred none)) a3 fun y29 => K y29 (w28.putObj w8.heap.size (.deferred none)))
 (fun w30 => w30.heap[w8.heap.size]? = some (.deferred (some [])) ∧
 Ld .bool (w30.putObj w8.heap.size (.deferred none)) a3 fun y31 => K y31 (w30.putObj w8.heap.size (.deferred none)))
 []) := okF dW Tryz.func65 (.seq .leaf (.seq .leaf (.seq (.seq .leaf (.blk (.rng [.agg [(.int .i64), (.int .i64), (.int .i64)]] .leaf .leaf))) .leaf))) (by kernel_rfl)
theorem jF {a0 a1 w K} : aY (aW a0 a1 w K)
 (bK (Value.slice a0.a a0.len a0.cap) = true ∧
 Al w (.cells ⟨[(Value.slice a0.a a0.len a0.cap)]⟩ 26) fun a4 w3 => bK a1 = true ∧
 Al w3 (.cells ⟨[a1]⟩ 106) fun a6 w5 => K (Value.func (.func 84) #[] #[(Value.pointer (some a4)), (Value.pointer (some a6))]) w5) := okF dW Tryz.func66 .leaf (by kernel_rfl)
theorem uM {a0 f0 w K} : aY (vP a0 f0 w K)
 (Ld (.int .i64) w (f0.add 20) fun x2 => K (decide (a0 > x2)) w) := okF dW Tryz.func67 .leaf (by kernel_rfl)
theorem je {a0 f0 f1 w K} : aY (jm a0 f0 f1 w K)
 (Ld .slice w f0 fun x2 => eU (S := Int × Unit) (fun s3 w4 next5 => (bif (decide (s3.1 < (x2.len : Int))) then
 iD x2 8 s3.1 fun a6 => Ld (.int .i64) w4 (a6.add 0) fun x7 => Ld (.int .i64) w4 (a6.add 1) fun x8 => Ld (.int .i64) w4 (a6.add 2) fun x9 => Ld (.int .i64) w4 (a6.add 3) fun x10 => Ld (.int .i64) w4 (a6.add 4) fun x11 => Ld (.int .i64) w4 (a6.add 5) fun x12 => Ld (.int .i64) w4 (a6.add 6) fun x13 => Ld .bool w4 (a6.add 7) fun x14 => Al w4 (.cells ⟨[(Value.int .i64 0), (Value.int .i64 0), (Value.int .i64 0), (Value.int .i64 0), (Value.int .i64 0), (Value.int .i64 0), (Value.int .i64 0), (Value.bool false)]⟩ 49) fun a16 w15 => mg [(Value.int .i64 x7), (Value.int .i64 x8), (Value.int .i64 x9), (Value.int .i64 x10), (Value.int .i64 x11), (Value.int .i64 x12), (Value.int .i64 x13), (Value.bool x14)] w15 a16 0 fun w17 => Ld .any w17 f1 fun x18 => Ld (.int .i64) w17 (a16.add 0) fun x19 => Ld (.int .i64) w17 (a16.add 1) fun x20 => Ld (.int .i64) w17 (a16.add 2) fun x21 => Ld (.int .i64) w17 (a16.add 3) fun x22 => Ld (.int .i64) w17 (a16.add 4) fun x23 => Ld (.int .i64) w17 (a16.add 5) fun x24 => Ld (.int .i64) w17 (a16.add 6) fun x25 => Ld .bool w17 (a16.add 7) fun x26 => gu Tryz.prog [.agg [(.int .i64), (.int .i64), (.int .i64), (.int .i64)]] x18 [(Value.agg ⟨[(Value.int .i64 x19), (Value.int .i64 x20), (Value.int .i64 x21), (Value.int .i64 x22), (Value.int .i64 x23), (Value.int .i64 x24), (Value.int .i64 x25), (Value.bool x26)]⟩)] w17 fun r27 w28 => ∃ r29 : Int, ∃ r30 : Int, ∃ r31 : Int, ∃ r32 : Int, r27 = (Value.agg ⟨[(Value.int .i64 r29), (Value.int .i64 r30), (Value.int .i64 r31), (Value.int .i64 r32)]⟩) ∧
 gu Tryz.prog [.one .bool] a0 [(Value.agg ⟨[(Value.int .i64 r29), (Value.int .i64 r30), (Value.int .i64 r31), (Value.int .i64 r32)]⟩)] w28 fun r33 w34 => ∃ r35 : Bool, r33 = (Value.bool r35) ∧
 (bif (!r35) then
 K w34
 else
 next5 ((IntKind.i64.wrap (s3.1 + 1)), ()) w34)
 else
 K w4)) (0, ()) w) := okF dW Tryz.func68 (.seq .leaf (.blk (.loop [(8, (.int .i64))] .leaf))) (by kernel_rfl)
theorem jh {a0 f0 f1 w K} : aY (jD a0 f0 f1 w K)
 (Ld .slice w f0 fun x2 => eU (S := Int × Unit) (fun s3 w4 next5 => (bif (decide (s3.1 < (x2.len : Int))) then
 iD x2 8 s3.1 fun a6 => Ld (.int .i64) w4 (a6.add 0) fun x7 => Ld (.int .i64) w4 (a6.add 1) fun x8 => Ld (.int .i64) w4 (a6.add 2) fun x9 => Ld (.int .i64) w4 (a6.add 3) fun x10 => Ld (.int .i64) w4 (a6.add 4) fun x11 => Ld (.int .i64) w4 (a6.add 5) fun x12 => Ld (.int .i64) w4 (a6.add 6) fun x13 => Ld .bool w4 (a6.add 7) fun x14 => Al w4 (.cells ⟨[(Value.int .i64 0), (Value.int .i64 0), (Value.int .i64 0), (Value.int .i64 0), (Value.int .i64 0), (Value.int .i64 0), (Value.int .i64 0), (Value.bool false)]⟩ 49) fun a16 w15 => mg [(Value.int .i64 x7), (Value.int .i64 x8), (Value.int .i64 x9), (Value.int .i64 x10), (Value.int .i64 x11), (Value.int .i64 x12), (Value.int .i64 x13), (Value.bool x14)] w15 a16 0 fun w17 => Ld .any w17 f1 fun x18 => Ld (.int .i64) w17 (a16.add 0) fun x19 => Ld (.int .i64) w17 (a16.add 1) fun x20 => Ld (.int .i64) w17 (a16.add 2) fun x21 => Ld (.int .i64) w17 (a16.add 3) fun x22 => Ld (.int .i64) w17 (a16.add 4) fun x23 => Ld (.int .i64) w17 (a16.add 5) fun x24 => Ld (.int .i64) w17 (a16.add 6) fun x25 => Ld .bool w17 (a16.add 7) fun x26 => gu Tryz.prog [.agg [(.int .i64), (.int .i64), (.int .i64)]] x18 [(Value.agg ⟨[(Value.int .i64 x19), (Value.int .i64 x20), (Value.int .i64 x21), (Value.int .i64 x22), (Value.int .i64 x23), (Value.int .i64 x24), (Value.int .i64 x25), (Value.bool x26)]⟩)] w17 fun r27 w28 => ∃ r29 : Int, ∃ r30 : Int, ∃ r31 : Int, r27 = (Value.agg ⟨[(Value.int .i64 r29), (Value.int .i64 r30), (Value.int .i64 r31)]⟩) ∧
 gu Tryz.prog [.one .bool] a0 [(Value.agg ⟨[(Value.int .i64 r29), (Value.int .i64 r30), (Value.int .i64 r31)]⟩)] w28 fun r32 w33 => ∃ r34 : Bool, r32 = (Value.bool r34) ∧
 (bif (!r34) then
 K w33
 else
 next5 ((IntKind.i64.wrap (s3.1 + 1)), ()) w33)
 else
 K w4)) (0, ()) w) := okF dW Tryz.func69 (.seq .leaf (.blk (.loop [(8, (.int .i64))] .leaf))) (by kernel_rfl)
theorem qH {a0 a1 w K} : aY (dD a0 a1 w K)
 (eU (S := Int × Unit) (fun s3 w4 next5 => (bif (decide (s3.1 < (a0.len : Int))) then
 iD a0 1 s3.1 fun a6 => Ld (.int .i64) w4 a6 fun x7 => (bif (a1 == x7) then
 K s3.1 w4
 else
 next5 ((IntKind.i64.wrap (s3.1 + 1)), ()) w4)
 else
 K (-1) w4)) (0, ()) w) := okF dW Tryz.func70 (.seq .leaf (.seq (.seq .leaf (.blk (.loop [(8, (.int .i64))] .leaf))) .leaf)) (by kernel_rfl)
theorem iw {a0 B0 B1 B2 B3 B4 B5 B6 B7 w K} : aY (aQ a0 B0 B1 B2 B3 B4 B5 B6 B7 w K)
 (Al w (.cells ⟨[(Value.int .i64 B0), (Value.int .i64 B1), (Value.int .i64 B2), (Value.int .i64 B3), (Value.int .i64 B4), (Value.int .i64 B5), (Value.int .i64 B6), (Value.bool B7)]⟩ 49) fun a4 w3 => eU (S := Int × Unit) (fun s5 w6 next7 => (bif (decide (s5.1 < (a0.len : Int))) then
 Ld (.int .i64) w6.drew (a4.add 0) fun x8 => Ld (.int .i64) w6.drew (a4.add 1) fun x9 => Ld (.int .i64) w6.drew (a4.add 2) fun x10 => Ld (.int .i64) w6.drew (a4.add 3) fun x11 => Ld (.int .i64) w6.drew (a4.add 4) fun x12 => Ld (.int .i64) w6.drew (a4.add 5) fun x13 => Ld (.int .i64) w6.drew (a4.add 6) fun x14 => Ld .bool w6.drew (a4.add 7) fun x15 => iD a0 8 s5.1 fun a16 => Ld (.int .i64) w6.drew (a16.add 0) fun x17 => Ld (.int .i64) w6.drew (a16.add 1) fun x18 => Ld (.int .i64) w6.drew (a16.add 2) fun x19 => Ld (.int .i64) w6.drew (a16.add 3) fun x20 => Ld (.int .i64) w6.drew (a16.add 4) fun x21 => Ld (.int .i64) w6.drew (a16.add 5) fun x22 => Ld (.int .i64) w6.drew (a16.add 6) fun x23 => Ld .bool w6.drew (a16.add 7) fun x24 => (bif (((x8 == x17) && ((x9 == x18) && ((x10 == x19) && ((x11 == x20) && true)))) && (((x12 == x21) && ((x13 == x22) && ((x14 == x23) && true))) && (((x15 : Bool) == x24) && true))) then
 K s5.1 w6.drew
 else
 next7 ((IntKind.i64.wrap (s5.1 + 1)), ()) w6.drew)
 else
 K (-1) w6)) (0, ()) w3) := okF dW Tryz.func71 (.seq .leaf (.seq (.seq .leaf (.blk (.loop [(8, (.int .i64))] .leaf))) .leaf)) (by kernel_rfl)
theorem yQ {a0 a1 w K} : aY (dX a0 a1 w K)
 (gB a0 a1 0 (-1) w fun r3 w4 => K r3 w4) := okF dW Tryz.func72 .leaf (by kernel_rfl)
theorem Dv {a0 w K} : aY (kV a0 w K)
 (Al w (.cells ⟨[(Value.string (bs [])), (Value.int .i64 0)]⟩ 128) fun a3 w2 => (bif (a0 == 1) then
 mg [(Value.string (bs [102, 108, 117, 115, 104])), (Value.int .i64 2)] w2 a3 0 fun w4 => Ld .str w4 (a3.add 0) fun y5 => Ld (.int .i64) w4 (a3.add 1) fun y6 => K y5 y6 true w4
 else
 (bif (a0 == 2) then
 mg [(Value.string (bs [109, 97, 112])), (Value.int .i64 7)] w2 a3 0 fun w7 => Ld .str w7 (a3.add 0) fun y8 => Ld (.int .i64) w7 (a3.add 1) fun y9 => K y8 y9 true w7
 else
 (bif (a0 == 3) then
 mg [(Value.string (bs [117, 110, 109, 97, 112])), (Value.int .i64 5)] w2 a3 0 fun w10 => Ld .str w10 (a3.add 0) fun y11 => Ld (.int .i64) w10 (a3.add 1) fun y12 => K y11 y12 true w10
 else
 (bif (a0 == 4) then
 mg [(Value.string (bs [115, 104, 111, 119])), (Value.int .i64 1)] w2 a3 0 fun w13 => Ld .str w13 (a3.add 0) fun y14 => Ld (.int .i64) w13 (a3.add 1) fun y15 => K y14 y15 true w13
 else
 mg [(Value.string (bs [])), (Value.int .i64 0)] w2 a3 0 fun w16 => Ld .str w16 (a3.add 0) fun y17 => Ld (.int .i64) w16 (a3.add 1) fun y18 => K y17 y18 false w16))))) := okF dW Tryz.func73 .leaf (by kernel_rfl)
theorem Ii {a0 a1 w K} : aY (nX a0 a1 w K)
 (Al w (.cells ⟨[(Value.int .i64 0), (Value.int .i64 0), (Value.int .i64 0), (Value.int .i64 0), (Value.int .i64 0), (Value.int .i64 0), (Value.int .i64 0), (Value.int .i64 0)]⟩ 93) fun a4 w3 => Al w3 (.cells ⟨[(Value.slice a1.a a1.len a1.cap), (Value.bool false)]⟩ 144) fun a6 w5 => Al w5 (.cells ⟨[(Value.int .i64 0), (Value.int .i64 0), (Value.int .i64 0), (Value.int .i64 0), (Value.int .i64 0), (Value.int .i64 0), (Value.int .i64 0), (Value.int .i64 0)]⟩ 93) fun a8 w7 => mg [(Value.int .i64 a0), (Value.int .i64 0), (Value.int .i64 0), (Value.int .i64 0), (Value.int .i64 0), (Value.int .i64 0), (Value.int .i64 0), (Value.int .i64 0)] w7 a8 0 fun w9 => let J10 : World -> Prop := fun w11 => (Ld (.int .i64) w11.drew (a8.add 0) fun x12 => Ld (.int .i64) w11.drew (a8.add 1) fun x13 => Ld (.int .i64) w11.drew (a8.add 2) fun x14 => Ld (.int .i64) w11.drew (a8.add 3) fun x15 => Ld (.int .i64) w11.drew (a8.add 4) fun x16 => Ld (.int .i64) w11.drew (a8.add 5) fun x17 => Ld (.int .i64) w11.drew (a8.add 6) fun x18 => Ld (.int .i64) w11.drew (a8.add 7) fun x19 => Pt (some a6) fun a20 => Ld .bool w11.drew (a20.add 1) fun x21 => mg [(Value.int .i64 x12), (Value.int .i64 x13), (Value.int .i64 x14), (Value.int .i64 x15), (Value.int .i64 x16), (Value.int .i64 x17), (Value.int .i64 x18), (Value.int .i64 x19)] w11.drew a4 0 fun w22 => w22.cell? (a20.add 1) = some (Value.bool x21) ∧
 Ld (.int .i64) w22 (a4.add 0) fun y23 => Ld (.int .i64) w22 (a4.add 1) fun y24 => Ld (.int .i64) w22 (a4.add 2) fun y25 => Ld (.int .i64) w22 (a4.add 3) fun y26 => Ld (.int .i64) w22 (a4.add 4) fun y27 => Ld (.int .i64) w22 (a4.add 5) fun y28 => Ld (.int .i64) w22 (a4.add 6) fun y29 => Ld (.int .i64) w22 (a4.add 7) fun y30 => K y23 y24 y25 y26 y27 y28 y29 y30 (!x21) w22)
 (bif (a0 == 1) then
 bP (some a6) 63 w9 fun r31 w32 => St w32 (a8.add 1) (Value.int .i64 r31) fun w33 => J10 w33
 else
 (bif (a0 == 3) then
 dJ (some a6) w9 fun r34 r35 r36 r37 w38 => mg [(Value.int .i64 r34), (Value.int .i64 r35), (Value.int .i64 r36), (Value.int .i64 r37)] w38 (a8.add 1) 0 fun w39 => J10 w39
 else
 (bif (a0 == 2) then
 dJ (some a6) w9 fun r40 r41 r42 r43 w44 => mg [(Value.int .i64 r40), (Value.int .i64 r41), (Value.int .i64 r42), (Value.int .i64 r43)] w44 (a8.add 1) 0 fun w45 => Ld (.int .i64) w45.drew ((a8.add 1).add 1) fun x46 => dK (some a6) w45.drew fun r47 w48 => w48.cell? ((a8.add 1).add 1) = some (Value.int .i64 x46) ∧
 bP (some a6) 65535 w48 fun r49 w50 => w50.cell? ((a8.add 1).add 1) = some (Value.int .i64 x46) ∧
 mg [(Value.int .i64 x46), (Value.int .i64 r47), (Value.int .i64 r49)] w50 (a8.add 5) 0 fun w51 => J10 w51
 else
 J10 w9)))) := okF dW Tryz.func74 .leaf (by kernel_rfl)
theorem DU {a0 w K} : aY (jd a0 w K)
 (let J2 : Bool -> Prop := fun j3 => (K j3 w)
 (bif (decide (a0 >= 0)) then
 J2 (decide (a0 < 4294967296))
 else
 J2 false)) := okF dW Tryz.func75 .leaf (by kernel_rfl)
theorem zD {a0 a1 w K} : aY (qV a0 a1 w K)
 (eU (S := Int × Unit) (fun s3 w4 next5 => (bif (decide (s3.1 < (a1.len : Int))) then
 iD a1 2 s3.1 fun a6 => Ld (.int .i64) w4 (a6.add 0) fun x7 => Ld (.int .i64) w4 (a6.add 1) fun x8 => Al w4 (.cells ⟨[(Value.int .i64 0), (Value.int .i64 0)]⟩ 135) fun a10 w9 => mg [(Value.int .i64 x7), (Value.int .i64 x8)] w9 a10 0 fun w11 => Ld (.int .i64) w11 (a10.add 0) fun x12 => Ld (.int .i64) w11 (a10.add 1) fun x13 => fK x12 x13 a0 w11 fun r14 w15 => (bif r14 then
 K true w15
 else
 next5 ((IntKind.i64.wrap (s3.1 + 1)), ()) w15)
 else
 K false w4)) (0, ()) w) := okF dW Tryz.func76 (.seq .leaf (.seq (.seq .leaf (.blk (.loop [(9, (.int .i64))] .leaf))) .leaf)) (by kernel_rfl)
theorem Ah {a0 w K} : aY (iL a0 w K)
 (Al w (.cells ⟨[(Value.int .i64 1), (Value.int .i64 6), (Value.int .i64 17)]⟩ 3) fun a3 w2 => bC ⟨(some a3), 3, 3⟩ a0 w2 fun r4 w5 => K r4 w5) := okF dW Tryz.func77 .leaf (by kernel_rfl)
theorem jE {a0 a1 w K} : aY (aV a0 a1 w K)
 (eU (S := Int × Unit) (fun s3 w4 next5 => (bif (decide (s3.1 < (a0.len : Int))) then
 iD a0 16 s3.1 fun a6 => rV w4 a6 fun x7 x8 x9 x10 x11 x12 x13 x14 x15 x16 x17 x18 x19 x20 x21 x22 => gu Tryz.prog [.one .bool] a1 [(Value.agg ⟨gq x7 x8 x9 x10 x11 x12 x13 x14 x15 x16 x17 x18 x19 x20 x21 x22⟩)] w4 fun r23 w24 => ∃ r25 : Bool, r23 = (Value.bool r25) ∧
 (bif r25 then
 K s3.1 w24
 else
 next5 ((IntKind.i64.wrap (s3.1 + 1)), ()) w24)
 else
 K (-1) w4)) (0, ()) w) := okF dW Tryz.func78 (.seq .leaf (.seq (.seq .leaf (.blk (.loop [(8, (.int .i64))] .leaf))) .leaf)) (by kernel_rfl)
theorem nI {a0 a1 w K} : aY (bW a0 a1 w K)
 (eU (S := Int × Unit) (fun s3 w4 next5 => (bif (decide (s3.1 < (a0.len : Int))) then
 iD a0 1 s3.1 fun a6 => Ld (.int .i64) w4 a6 fun x7 => gu Tryz.prog [.one .bool] a1 [(Value.int .i64 x7)] w4 fun r8 w9 => ∃ r10 : Bool, r8 = (Value.bool r10) ∧
 (bif r10 then
 K s3.1 w9
 else
 next5 ((IntKind.i64.wrap (s3.1 + 1)), ()) w9)
 else
 K (-1) w4)) (0, ()) w) := okF dW Tryz.func79 (.seq .leaf (.seq (.seq .leaf (.blk (.loop [(8, (.int .i64))] .leaf))) .leaf)) (by kernel_rfl)
theorem gI {a0 a1 w K} : aY (aO a0 a1 w K)
 (eU (S := Int × Unit) (fun s3 w4 next5 => (bif (decide (s3.1 < (a0.len : Int))) then
 iD a0 7 s3.1 fun a6 => Ld (.int .i64) w4 (a6.add 0) fun x7 => Ld (.int .i64) w4 (a6.add 1) fun x8 => Ld (.int .i64) w4 (a6.add 2) fun x9 => Ld (.int .i64) w4 (a6.add 3) fun x10 => Ld (.int .i64) w4 (a6.add 4) fun x11 => Ld (.int .i64) w4 (a6.add 5) fun x12 => Ld (.int .i64) w4 (a6.add 6) fun x13 => gu Tryz.prog [.one .bool] a1 [(Value.agg ⟨[(Value.int .i64 x7), (Value.int .i64 x8), (Value.int .i64 x9), (Value.int .i64 x10), (Value.int .i64 x11), (Value.int .i64 x12), (Value.int .i64 x13)]⟩)] w4 fun r14 w15 => ∃ r16 : Bool, r14 = (Value.bool r16) ∧
 (bif r16 then
 K s3.1 w15
 else
 next5 ((IntKind.i64.wrap (s3.1 + 1)), ()) w15)
 else
 K (-1) w4)) (0, ()) w) := okF dW Tryz.func80 (.seq .leaf (.seq (.seq .leaf (.blk (.loop [(8, (.int .i64))] .leaf))) .leaf)) (by kernel_rfl)
theorem kS {a0 f0 f1 w K} : aY (lC a0 f0 f1 w K)
 (Ld .slice w f0 fun x2 => eU (S := Int × Unit) (fun s3 w4 next5 => (bif (decide (s3.1 < (x2.len : Int))) then
 iD x2 16 s3.1 fun a6 => rV w4 a6 fun x7 x8 x9 x10 x11 x12 x13 x14 x15 x16 x17 x18 x19 x20 x21 x22 => Al w4 (.cells ⟨(gq 0 0 0 0 0 0 0 0 0 0 0 0 0 0 0 0)⟩ 23) fun a24 w23 => mg (gq x7 x8 x9 x10 x11 x12 x13 x14 x15 x16 x17 x18 x19 x20 x21 x22) w23 a24 0 fun w25 => Ld .any w25 f1 fun x26 => rV w25 a24 fun x27 x28 x29 x30 x31 x32 x33 x34 x35 x36 x37 x38 x39 x40 x41 x42 => gu Tryz.prog [.agg JY] x26 [(Value.agg ⟨gq x27 x28 x29 x30 x31 x32 x33 x34 x35 x36 x37 x38 x39 x40 x41 x42⟩)] w25 fun r43 w44 => ∃ r45 : Int, ∃ r46 : Int, ∃ r47 : Int, ∃ r48 : Int, ∃ r49 : Int, ∃ r50 : Int, ∃ r51 : Int, ∃ r52 : Int, ∃ r53 : Int, ∃ r54 : Int, ∃ r55 : Int, ∃ r56 : Int, ∃ r57 : Int, ∃ r58 : Int, ∃ r59 : Int, ∃ r60 : Int, r43 = (Value.agg ⟨gq r45 r46 r47 r48 r49 r50 r51 r52 r53 r54 r55 r56 r57 r58 r59 r60⟩) ∧
 gu Tryz.prog [.one .bool] a0 [(Value.agg ⟨gq r45 r46 r47 r48 r49 r50 r51 r52 r53 r54 r55 r56 r57 r58 r59 r60⟩)] w44 fun r61 w62 => ∃ r63 : Bool, r61 = (Value.bool r63) ∧
 (bif (!r63) then
 K w62
 else
 next5 ((IntKind.i64.wrap (s3.1 + 1)), ()) w62)
 else
 K w4)) (0, ()) w) := okF dW Tryz.func81 (.seq .leaf (.blk (.loop [(8, (.int .i64))] .leaf))) (by kernel_rfl)
theorem pY {a0 f0 f1 w K} : aY (qB a0 f0 f1 w K)
 (Ld .slice w f0 fun x2 => eU (S := Int × Unit) (fun s3 w4 next5 => (bif (decide (s3.1 < (x2.len : Int))) then
 iD x2 1 s3.1 fun a6 => Ld (.int .i64) w4 a6 fun x7 => Ld .any w4 f1 fun x8 => gu Tryz.prog [.one (.int .i64)] x8 [(Value.int .i64 x7)] w4 fun r9 w10 => ∃ r11 : Int, r9 = (Value.int .i64 r11) ∧
 gu Tryz.prog [.one .bool] a0 [(Value.int .i64 r11)] w10 fun r12 w13 => ∃ r14 : Bool, r12 = (Value.bool r14) ∧
 (bif (!r14) then
 K w13
 else
 next5 ((IntKind.i64.wrap (s3.1 + 1)), ()) w13)
 else
 K w4)) (0, ()) w) := okF dW Tryz.func82 (.seq .leaf (.blk (.loop [(8, (.int .i64))] .leaf))) (by kernel_rfl)
theorem iY {a0 f0 f1 w K} : aY (jg a0 f0 f1 w K)
 (Ld .slice w f0 fun x2 => eU (S := Int × Unit) (fun s3 w4 next5 => (bif (decide (s3.1 < (x2.len : Int))) then
 iD x2 7 s3.1 fun a6 => Ld (.int .i64) w4 (a6.add 0) fun x7 => Ld (.int .i64) w4 (a6.add 1) fun x8 => Ld (.int .i64) w4 (a6.add 2) fun x9 => Ld (.int .i64) w4 (a6.add 3) fun x10 => Ld (.int .i64) w4 (a6.add 4) fun x11 => Ld (.int .i64) w4 (a6.add 5) fun x12 => Ld (.int .i64) w4 (a6.add 6) fun x13 => Al w4 (.cells ⟨[(Value.int .i64 0), (Value.int .i64 0), (Value.int .i64 0), (Value.int .i64 0), (Value.int .i64 0), (Value.int .i64 0), (Value.int .i64 0)]⟩ 98) fun a15 w14 => mg [(Value.int .i64 x7), (Value.int .i64 x8), (Value.int .i64 x9), (Value.int .i64 x10), (Value.int .i64 x11), (Value.int .i64 x12), (Value.int .i64 x13)] w14 a15 0 fun w16 => Ld .any w16 f1 fun x17 => Ld (.int .i64) w16 (a15.add 0) fun x18 => Ld (.int .i64) w16 (a15.add 1) fun x19 => Ld (.int .i64) w16 (a15.add 2) fun x20 => Ld (.int .i64) w16 (a15.add 3) fun x21 => Ld (.int .i64) w16 (a15.add 4) fun x22 => Ld (.int .i64) w16 (a15.add 5) fun x23 => Ld (.int .i64) w16 (a15.add 6) fun x24 => gu Tryz.prog [.agg [(.int .i64), (.int .i64), (.int .i64), (.int .i64)]] x17 [(Value.agg ⟨[(Value.int .i64 x18), (Value.int .i64 x19), (Value.int .i64 x20), (Value.int .i64 x21), (Value.int .i64 x22), (Value.int .i64 x23), (Value.int .i64 x24)]⟩)] w16 fun r25 w26 => ∃ r27 : Int, ∃ r28 : Int, ∃ r29 : Int, ∃ r30 : Int, r25 = (Value.agg ⟨[(Value.int .i64 r27), (Value.int .i64 r28), (Value.int .i64 r29), (Value.int .i64 r30)]⟩) ∧
 gu Tryz.prog [.one .bool] a0 [(Value.agg ⟨[(Value.int .i64 r27), (Value.int .i64 r28), (Value.int .i64 r29), (Value.int .i64 r30)]⟩)] w26 fun r31 w32 => ∃ r33 : Bool, r31 = (Value.bool r33) ∧
 (bif (!r33) then
 K w32
 else
 next5 ((IntKind.i64.wrap (s3.1 + 1)), ()) w32)
 else
 K w4)) (0, ()) w) := okF dW Tryz.func83 (.seq .leaf (.blk (.loop [(8, (.int .i64))] .leaf))) (by kernel_rfl)
theorem iZ {a0 f0 f1 w K} : aY (jf a0 f0 f1 w K)
 (Ld .slice w f0 fun x2 => eU (S := Int × Unit) (fun s3 w4 next5 => (bif (decide (s3.1 < (x2.len : Int))) then
 iD x2 7 s3.1 fun a6 => Ld (.int .i64) w4 (a6.add 0) fun x7 => Ld (.int .i64) w4 (a6.add 1) fun x8 => Ld (.int .i64) w4 (a6.add 2) fun x9 => Ld (.int .i64) w4 (a6.add 3) fun x10 => Ld (.int .i64) w4 (a6.add 4) fun x11 => Ld (.int .i64) w4 (a6.add 5) fun x12 => Ld (.int .i64) w4 (a6.add 6) fun x13 => Al w4 (.cells ⟨[(Value.int .i64 0), (Value.int .i64 0), (Value.int .i64 0), (Value.int .i64 0), (Value.int .i64 0), (Value.int .i64 0), (Value.int .i64 0)]⟩ 98) fun a15 w14 => mg [(Value.int .i64 x7), (Value.int .i64 x8), (Value.int .i64 x9), (Value.int .i64 x10), (Value.int .i64 x11), (Value.int .i64 x12), (Value.int .i64 x13)] w14 a15 0 fun w16 => Ld .any w16 f1 fun x17 => Ld (.int .i64) w16 (a15.add 0) fun x18 => Ld (.int .i64) w16 (a15.add 1) fun x19 => Ld (.int .i64) w16 (a15.add 2) fun x20 => Ld (.int .i64) w16 (a15.add 3) fun x21 => Ld (.int .i64) w16 (a15.add 4) fun x22 => Ld (.int .i64) w16 (a15.add 5) fun x23 => Ld (.int .i64) w16 (a15.add 6) fun x24 => gu Tryz.prog [.agg [(.int .i64), (.int .i64), (.int .i64)]] x17 [(Value.agg ⟨[(Value.int .i64 x18), (Value.int .i64 x19), (Value.int .i64 x20), (Value.int .i64 x21), (Value.int .i64 x22), (Value.int .i64 x23), (Value.int .i64 x24)]⟩)] w16 fun r25 w26 => ∃ r27 : Int, ∃ r28 : Int, ∃ r29 : Int, r25 = (Value.agg ⟨[(Value.int .i64 r27), (Value.int .i64 r28), (Value.int .i64 r29)]⟩) ∧
 gu Tryz.prog [.one .bool] a0 [(Value.agg ⟨[(Value.int .i64 r27), (Value.int .i64 r28), (Value.int .i64 r29)]⟩)] w26 fun r30 w31 => ∃ r32 : Bool, r30 = (Value.bool r32) ∧
 (bif (!r32) then
 K w31
 else
 next5 ((IntKind.i64.wrap (s3.1 + 1)), ()) w31)
 else
 K w4)) (0, ()) w) := okF dW Tryz.func84 (.seq .leaf (.blk (.loop [(8, (.int .i64))] .leaf))) (by kernel_rfl)
theorem uN {a0 a1 a2 a3 w K} : aY (gB a0 a1 a2 a3 w K)
 ((bif (a3 == 0) then
 K ⟨none, 0, 0⟩ w
 else
 (bif (strEq a1 (bs [])) then
 xM a0 a3 w fun r5 w6 => K r5 w6
 else
 let J7 : Int -> World -> Prop := fun j8 w9 => (Nj 9 1 16 [(Value.string (bs []))] (if (IntKind.i64.wrap ((a0.size : Int) + 1)) < j8 then (IntKind.i64.wrap ((a0.size : Int) + 1)) else j8) (if (IntKind.i64.wrap ((a0.size : Int) + 1)) < j8 then (IntKind.i64.wrap ((a0.size : Int) + 1)) else j8) w9 fun s10 w11 => let J12 : ByteArray -> Int -> World -> Prop := fun j13 j14 w15 => (iD s10 1 j14 fun a16 => St w15 a16 (Value.string j13) fun w17 => zK s10 1 0 (IntKind.i64.wrap (j14 + 1)) fun s18 => K s18 w17)
 eU (S := ByteArray × Int × Unit) (fun s19 w20 next21 => (bif (decide (s19.2.1 < (IntKind.i64.wrap ((if (IntKind.i64.wrap ((a0.size : Int) + 1)) < j8 then (IntKind.i64.wrap ((a0.size : Int) + 1)) else j8) - 1)))) then
 dZ s19.1 a1 w20 fun r22 w23 => (bif (decide (r22 < 0)) then
 J12 s19.1 s19.2.1 w23
 else
 pU s19.1 0 (IntKind.i64.wrap (r22 + a2)) fun s24 => iD s10 1 s19.2.1 fun a25 => St w23 a25 (Value.string s24) fun w26 => pU s19.1 (IntKind.i64.wrap (r22 + (a1.size : Int))) (s19.1.size : Int) fun s27 => next21 (s27, (IntKind.i64.wrap (s19.2.1 + 1)), ()) w26)
 else
 J12 s19.1 s19.2.1 w20)) (a0, 0, ()) w11)
 (bif (decide (a3 < 0)) then
 gW a0 a1 w fun r28 w29 => J7 (IntKind.i64.wrap (r28 + 1)) w29
 else
 J7 a3 w)))) := okF dW Tryz.func85 (.seq .leaf (.seq .leaf (.seq .leaf (.seq .leaf (.seq .leaf (.seq .leaf (.seq .leaf (.seq .leaf (.seq (.blk (.loop [(0, .str), (10, (.int .i64))] .leaf)) .leaf))))))))) (by kernel_rfl)
theorem sK {a0 a1 w K} : aY (bP a0 a1 w K)
 (dB a0 w fun r3 w4 => kP r3 a1 w4 fun r5 r6 w7 => let J8 : World -> Prop := fun w9 => (K r5 w9)
 Pt a0 fun a10 => Ld .bool w7 (a10.add 1) fun x11 => (bif x11 then
 Pt a0 fun a12 => St w7 (a12.add 1) (Value.bool true) fun w13 => J8 w13
 else
 Pt a0 fun a14 => St w7 (a14.add 1) (Value.bool (!r6)) fun w15 => J8 w15)) := okF dW Tryz.func86 .leaf (by kernel_rfl)
theorem uo {a0 w K} : aY (dJ a0 w K)
 (Al w (.cells ⟨[(Value.int .i64 0), (Value.int .i64 0), (Value.int .i64 0), (Value.int .i64 0)]⟩ 45) fun a3 w2 => bP a0 63 w2 fun r4 w5 => dR a0 w5 fun r6 w7 => dK a0 w7 fun r8 w9 => bP a0 65535 w9 fun r10 w11 => mg [(Value.int .i64 r4), (Value.int .i64 r6), (Value.int .i64 r8), (Value.int .i64 r10)] w11 a3 0 fun w12 => Ld (.int .i64) w12 (a3.add 0) fun y13 => Ld (.int .i64) w12 (a3.add 1) fun y14 => Ld (.int .i64) w12 (a3.add 2) fun y15 => Ld (.int .i64) w12 (a3.add 3) fun y16 => K y13 y14 y15 y16 w12) := okF dW Tryz.func87 .leaf (by kernel_rfl)
theorem vK {a0 w K} : aY (dK a0 w K)
 (dB a0 w fun r2 w3 => ku r2 w3 fun r4 r5 w6 => let J7 : World -> Prop := fun w8 => (K r4 w8)
 Pt a0 fun a9 => Ld .bool w6 (a9.add 1) fun x10 => (bif x10 then
 Pt a0 fun a11 => St w6 (a11.add 1) (Value.bool true) fun w12 => J7 w12
 else
 Pt a0 fun a13 => St w6 (a13.add 1) (Value.bool (r5 != 0)) fun w14 => J7 w14)) := okF dW Tryz.func88 .leaf (by kernel_rfl)
theorem wO {A0 A1 a1 w K} : aY (fK A0 A1 a1 w K)
 (Al w (.cells ⟨[(Value.int .i64 A0), (Value.int .i64 A1)]⟩ 135) fun a4 w3 => Ld (.int .i64) w3 (a4.add 1) fun x5 => let J6 : Bool -> World -> Prop := fun j7 w8 => (K j7 w8)
 jd a1 w3.drew fun r9 w10 => (bif r9 then
 0 <= (IntKind.i64.wrap (32 - x5)) ∧
 Ld (.int .i64) w10 a4 fun x11 => 0 <= (IntKind.i64.wrap (32 - x5)) ∧
 J6 ((iC .i64 a1 (IntKind.i64.wrap (32 - x5))) == (iC .i64 x11 (IntKind.i64.wrap (32 - x5)))) w10
 else
 J6 false w10)) := okF dW Tryz.func89 .leaf (by kernel_rfl)
theorem yN {a0 a1 w K} : aY (gW a0 a1 w K)
 ((bif ((a1.size : Int) == 0) then
 kJ a0 w fun r3 w4 => K (IntKind.i64.wrap (r3 + 1)) w4
 else
 (bif ((a1.size : Int) == 1) then
 uS a1 0 fun x5 => KT Tryz.prog 99 [(Value.string a0), (Value.int .u8 x5)] w fun r6 w7 => ∃ r8 : Int, r6 = (Value.int .i64 r8) ∧
 K r8 w7
 else
 eU (S := ByteArray × Int × Unit) (fun s9 w10 next11 => dZ s9.1 a1 w10 fun r12 w13 => (bif (r12 == (-1)) then
 K s9.2.1 w13
 else
 pU s9.1 (IntKind.i64.wrap (r12 + (a1.size : Int))) (s9.1.size : Int) fun s14 => next11 (s14, (IntKind.i64.wrap (s9.2.1 + 1)), ()) w13)) (a0, 0, ()) w))) := okF dW Tryz.func91 (.seq .leaf (.seq .leaf (.seq .leaf (.seq .leaf (.blk (.loop [(0, .str), (5, (.int .i64))] .leaf)))))) (by kernel_rfl)
theorem yK {a0 a1 w K} : aY (dZ a0 a1 w K)
 (dh a0 a1 w fun r3 w4 => K r3 w4) := okF dW Tryz.func92 .leaf (by kernel_rfl)
theorem DC {a0 a1 w K} : aY (kP a0 a1 w K)
 (let J3 : Bool -> Prop := fun j4 => ((bif j4 then
 K 0 false w
 else
 rX 5 a0 w fun s5 w6 => eU (S := Int × Int × Unit) (fun s7 w8 next9 => (bif (decide (s7.2.1 < (s5.len : Int))) then
 iD s5 1 s7.2.1 fun a10 => Ld (.int .u8) w8 a10 fun x11 => let J12 : Bool -> Prop := fun j13 => ((bif j13 then
 K 0 false w8
 else
 next9 ((IntKind.i64.wrap ((IntKind.i64.wrap (10 * s7.1)) + (IntKind.i64.wrap (IntKind.u8.wrap (x11 - 48))))), (IntKind.i64.wrap (s7.2.1 + 1)), ()) w8))
 (bif (decide (x11 < 48)) then
 J12 true
 else
 J12 (decide (x11 > 57)))
 else
 (bif (decide (s7.1 > a1)) then
 K 0 false w8
 else
 K s7.1 true w8))) (0, 0, ()) w6))
 (bif (decide ((a0.size : Int) < 1)) then
 J3 true
 else
 (bif (decide ((a0.size : Int) > 10)) then
 J3 true
 else
 (bif (decide ((a0.size : Int) > 1)) then
 uS a0 0 fun x14 => J3 (x14 == 48)
 else
 J3 false)))) := okF dW Tryz.func93 (.seq .leaf (.seq .leaf (.seq .leaf (.seq (.seq .leaf (.blk (.loop [(6, (.int .i64)), (30, (.int .i64))] .leaf))) .leaf)))) (by kernel_rfl)
theorem vk {a0 w K} : aY (dB a0 w K)
 (Pt a0 fun a2 => Ld .slice w a2 fun x3 => (bif ((x3.len : Int) == 0) then
 Pt a0 fun a4 => St w (a4.add 1) (Value.bool true) fun w5 => K (bs []) w5
 else
 Pt a0 fun a6 => Ld .slice w a6 fun x7 => iD x7 1 0 fun a8 => Ld .str w a8 fun x9 => Pt a0 fun a10 => Ld .slice w a10 fun x11 => zK x11 1 1 (x11.len : Int) fun s12 => Pt a0 fun a13 => St w a13 (Value.slice s12.a s12.len s12.cap) fun w14 => K x9 w14)) := okF dW Tryz.func94 .leaf (by kernel_rfl)
theorem uI {a0 w K} : aY (dR a0 w K)
 (dB a0 w fun r2 w3 => mO r2 w3 fun r4 r5 w6 => let J7 : World -> Prop := fun w8 => (K r4 w8)
 Pt a0 fun a9 => Ld .bool w6 (a9.add 1) fun x10 => (bif x10 then
 Pt a0 fun a11 => St w6 (a11.add 1) (Value.bool true) fun w12 => J7 w12
 else
 Pt a0 fun a13 => St w6 (a13.add 1) (Value.bool (!r5)) fun w14 => J7 w14)) := okF dW Tryz.func95 .leaf (by kernel_rfl)
theorem Dx {a0 w K} : aY (ku a0 w K)
 (dX a0 (bs [46]) w fun r2 w3 => (bif ((r2.len : Int) != 4) then
 K 0 4 w3
 else
 eU (S := Int × Int × Unit) (fun s4 w5 next6 => (bif (decide (s4.2.1 < (r2.len : Int))) then
 iD r2 1 s4.2.1 fun a7 => Ld .str w5 a7 fun x8 => mD x8 w5 fun r9 r10 w11 => (bif (!r10) then
 K 0 4 w11
 else
 0 <= (8 : Int) ∧
 next6 ((U9 .i64 (Qk .i64 s4.1 8) r9), (IntKind.i64.wrap (s4.2.1 + 1)), ()) w11)
 else
 K s4.1 0 w5)) (0, 0, ()) w3)) := okF dW Tryz.func96 (.seq .leaf (.seq .leaf (.seq .leaf (.seq .leaf (.seq (.seq .leaf (.blk (.loop [(5, (.int .i64)), (17, (.int .i64))] .leaf))) .leaf))))) (by kernel_rfl)
theorem mG {a0 a1 w K} : aY (dh a0 a1 w K)
 (let J3 : Bool -> Prop := fun j4 => ((bif j4 then
 K 0 w
 else
 (bif ((a1.size : Int) == 1) then
 uS a1 0 fun x5 => bF a0 x5 w fun r6 w7 => K r6 w7
 else
 (bif (decide ((a1.size : Int) >= (a0.size : Int))) then
 K (-1) w
 else
 let J8 : Bool -> Prop := fun j9 => ((bif j9 then
 KT Tryz.prog 105 [(Value.string a0), (Value.string a1)] w fun r10 w11 => ∃ r12 : Int, r10 = (Value.int .i64 r12) ∧
 K r12 w11
 else
 uS a1 0 fun x13 => uS a1 1 fun x14 => eU (S := Int × Int × Unit) (fun s15 w16 next17 => (bif (decide (s15.1 < (IntKind.i64.wrap ((IntKind.i64.wrap ((a0.size : Int) - (a1.size : Int))) + 1)))) then
 let J18 : Int -> World -> Prop := fun j19 w20 => (let J21 : Bool -> Prop := fun j22 => ((bif j22 then
 K j19 w20
 else
 let J23 : Bool -> World -> Prop := fun j24 w25 => ((bif j24 then
 pU a0 (IntKind.i64.wrap (j19 + 1)) (a0.size : Int) fun s26 => KT Tryz.prog 105 [(Value.string s26), (Value.string a1)] w25 fun r27 w28 => ∃ r29 : Int, r27 = (Value.int .i64 r29) ∧
 (bif (decide (r29 >= 0)) then
 K (IntKind.i64.wrap (r29 + (IntKind.i64.wrap (j19 + 1)))) w28
 else
 K (-1) w28)
 else
 let J30 : Bool -> Prop := fun j31 => ((bif j31 then
 pU a0 (IntKind.i64.wrap (j19 + 1)) (a0.size : Int) fun s32 => g_ s32 a1 w25 fun r33 w34 => (bif (decide (r33 < 0)) then
 K (-1) w34
 else
 K (IntKind.i64.wrap ((IntKind.i64.wrap (j19 + 1)) + r33)) w34)
 else
 next17 ((IntKind.i64.wrap (j19 + 1)), (IntKind.i64.wrap (s15.2.1 + 1)), ()) w25))
 Ld (.int .i64) w25 (⟨0, 0, none⟩ : Addr) fun x35 => (bif (decide ((a1.size : Int) > x35)) then
 0 <= (4 : Int) ∧
 (bif (decide ((IntKind.i64.wrap (s15.2.1 + 1)) >= (IntKind.i64.wrap (4 + (iC .i64 (IntKind.i64.wrap (j19 + 1)) 4))))) then
 J30 (decide ((IntKind.i64.wrap (j19 + 1)) < (IntKind.i64.wrap ((IntKind.i64.wrap ((a0.size : Int) - (a1.size : Int))) + 1))))
 else
 J30 false)
 else
 J30 false)))
 Ld (.int .i64) w20 (⟨0, 0, none⟩ : Addr) fun x36 => (bif (decide ((a1.size : Int) <= x36)) then
 ou (IntKind.i64.wrap (j19 + 1)) w20 fun r37 w38 => J23 (decide ((IntKind.i64.wrap (s15.2.1 + 1)) > r37)) w38
 else
 J23 false w20)))
 uS a0 (IntKind.i64.wrap (j19 + 1)) fun x39 => (bif (x39 == x14) then
 pU a0 j19 (IntKind.i64.wrap (j19 + (a1.size : Int))) fun s40 => J21 (strEq s40 a1)
 else
 J21 false))
 uS a0 s15.1 fun x41 => (bif (x41 != x13) then
 pU a0 (IntKind.i64.wrap (s15.1 + 1)) (IntKind.i64.wrap ((IntKind.i64.wrap ((a0.size : Int) - (a1.size : Int))) + 1)) fun s42 => bF s42 x13 w16 fun r43 w44 => (bif (decide (r43 < 0)) then
 K (-1) w44
 else
 J18 (IntKind.i64.wrap (s15.1 + (IntKind.i64.wrap (r43 + 1)))) w44)
 else
 J18 s15.1 w16)
 else
 K (-1) w16)) (0, 0, ()) w))
 Ld (.int .i64) w (⟨0, 0, none⟩ : Addr) fun x45 => (bif (decide ((a1.size : Int) <= x45)) then
 J8 (decide ((a0.size : Int) <= 64))
 else
 J8 false)))))
 (bif ((a1.size : Int) == 0) then
 J3 true
 else
 J3 (strEq a1 a0))) := okF dW Tryz.func100 (.seq .leaf (.seq .leaf (.seq .leaf (.seq .leaf (.seq .leaf (.seq .leaf (.seq .leaf (.seq .leaf (.seq (.blk (.loop [(8, (.int .i64)), (10, (.int .i64))] .leaf)) .leaf))))))))) (by kernel_rfl)
theorem EO {a0 w K} : aY (mO a0 w K)
 (Al w (.cells ⟨[(Value.int .i64 1), (Value.int .i64 6), (Value.int .i64 17)]⟩ 3) fun a3 w2 => eU (S := Int × Unit) (fun s4 w5 next6 => (bif (decide (s4.1 < (3 : Int))) then
 iD ⟨(some a3), 3, 3⟩ 1 s4.1 fun a7 => Ld (.int .i64) w5 a7 fun x8 => nZ x8 w5 fun r9 w10 => (bif (strEq r9 a0) then
 K x8 true w10
 else
 next6 ((IntKind.i64.wrap (s4.1 + 1)), ()) w10)
 else
 K 0 false w5)) (0, ()) w2) := okF dW Tryz.func101 (.seq .leaf (.seq (.seq .leaf (.blk (.loop [(8, (.int .i64))] .leaf))) .leaf)) (by kernel_rfl)
theorem E_ {a0 w K} : aY (mD a0 w K)
 (let J2 : Bool -> Prop := fun j3 => ((bif j3 then
 K 0 false w
 else
 rX 5 a0 w fun s4 w5 => eU (S := Int × Int × Unit) (fun s6 w7 next8 => (bif (decide (s6.2.1 < (s4.len : Int))) then
 iD s4 1 s6.2.1 fun a9 => Ld (.int .u8) w7 a9 fun x10 => let J11 : Bool -> Prop := fun j12 => ((bif j12 then
 K 0 false w7
 else
 next8 ((IntKind.i64.wrap ((IntKind.i64.wrap (10 * s6.1)) + (IntKind.i64.wrap (IntKind.u8.wrap (x10 - 48))))), (IntKind.i64.wrap (s6.2.1 + 1)), ()) w7))
 (bif (decide (x10 < 48)) then
 J11 true
 else
 J11 (decide (x10 > 57)))
 else
 K s6.1 (decide (s6.1 <= 255)) w7)) (0, 0, ()) w5))
 (bif (decide ((a0.size : Int) < 1)) then
 J2 true
 else
 (bif (decide ((a0.size : Int) > 3)) then
 J2 true
 else
 uS a0 0 fun x13 => (bif (x13 == 48) then
 J2 (decide ((a0.size : Int) > 1))
 else
 J2 false)))) := okF dW Tryz.func102 (.seq .leaf (.seq .leaf (.seq .leaf (.seq (.seq .leaf (.blk (.loop [(4, (.int .i64)), (28, (.int .i64))] .leaf))) .leaf)))) (by kernel_rfl)
theorem jX {a0 a1 w K} : aY (bF a0 a1 w K)
 (KT Tryz.prog 109 [(Value.string a0), (Value.int .u8 a1)] w fun r3 w4 => ∃ r5 : Int, r3 = (Value.int .i64 r5) ∧
 K r5 w4) := okF dW Tryz.func104 .leaf (by kernel_rfl)
theorem GV {a0 w K} : aY (nZ a0 w K)
 ((bif (a0 == 1) then
 K (bs [105, 99, 109, 112]) w
 else
 (bif (a0 == 6) then
 K (bs [116, 99, 112]) w
 else
 (bif (a0 == 17) then
 K (bs [117, 100, 112]) w
 else
 K (bs [45]) w)))) := okF dW Tryz.func108 .leaf (by kernel_rfl)
end Go.Proofs
