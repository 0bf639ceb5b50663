import Derived.Test.YtidjebbkjljcjaaGreatG32a
import Derived.Test.YtidjebbkjljcjaaGreatG32b
namespace Go.Proofs
open Gp
set_option maxRecDepth 100000
set_option maxHeartbeats 4000000
/-- goosepond/goosepondlaw32.B4Sends -/
abbrev n_law32_B4Sends : FuncId := 3
def c_law32_B4Sends (a0 : SliceV) (a1 : Int) (a2 : Int) (w : World) (K : Bool → World → Prop) : Prop :=
  Calls Tryz.prog 3 ⟨[(Value.slice a0.a a0.len a0.cap), (Value.int .u8 a1), (Value.int .u8 a2)]⟩ w fun e w' => ∃ y327 : Bool, e = .returned (Value.bool y327) ∧ K y327 w'
theorem cm_law32_B4Sends {a0 a1 a2 w K K'} (h : c_law32_B4Sends a0 a1 a2 w K) (hk : ∀ x0 w', K x0 w' → K' x0 w') : c_law32_B4Sends a0 a1 a2 w K' :=
  Calls.mono h fun e w' hh => by obtain ⟨x0, he, hx⟩ := hh; exact ⟨x0, he, hk _ _ hx⟩

/-- goosepond/goosepondlaw32.awake -/
abbrev n_law32_awake : FuncId := 4
def c_law32_awake  (w : World) (K : Bool → World → Prop) : Prop :=
  Calls Tryz.prog 4 ⟨[]⟩ w fun e w' => ∃ y61 : Bool, e = .returned (Value.bool y61) ∧ K y61 w'
theorem cm_law32_awake { w K K'} (h : c_law32_awake  w K) (hk : ∀ x0 w', K x0 w' → K' x0 w') : c_law32_awake  w K' :=
  Calls.mono h fun e w' hh => by obtain ⟨x0, he, hx⟩ := hh; exact ⟨x0, he, hk _ _ hx⟩

/-- goosepond/goosepondlaw32.set -/
abbrev n_law32_set : FuncId := 5
def c_law32_set  (w : World) (K : Int → Int → Int → Int → Int → Int → Int → Int → Int → Int → Int → Int → Int → Int → Int → Int → Int → Int → Int → Int → Int → Int → Int → Int → Int → Int → Int → Int → Int → Int → Int → Int → Int → Int → Int → Int → Int → World → Prop) : Prop :=
  Calls Tryz.prog 5 ⟨[]⟩ w fun e w' => ∃ y41 : Int, ∃ y42 : Int, ∃ y43 : Int, ∃ y44 : Int, ∃ y45 : Int, ∃ y46 : Int, ∃ y47 : Int, ∃ y48 : Int, ∃ y49 : Int, ∃ y50 : Int, ∃ y51 : Int, ∃ y52 : Int, ∃ y53 : Int, ∃ y54 : Int, ∃ y55 : Int, ∃ y56 : Int, ∃ y57 : Int, ∃ y58 : Int, ∃ y59 : Int, ∃ y60 : Int, ∃ y61 : Int, ∃ y62 : Int, ∃ y63 : Int, ∃ y64 : Int, ∃ y65 : Int, ∃ y66 : Int, ∃ y67 : Int, ∃ y68 : Int, ∃ y69 : Int, ∃ y70 : Int, ∃ y71 : Int, ∃ y72 : Int, ∃ y73 : Int, ∃ y74 : Int, ∃ y75 : Int, ∃ y76 : Int, ∃ y77 : Int, e = .returned (Value.agg ⟨((Value.int .u8 y41) :: (Value.int .u8 y42) :: (Value.int .u8 y43) :: (Value.int .u8 y44) :: (Value.int .u8 y45) :: (Value.int .u8 y46) :: (Value.int .u8 y47) :: (Value.int .u8 y48) :: (Value.int .u8 y49) :: (Value.int .u8 y50) :: (Value.int .u8 y51) :: (Value.int .u8 y52) :: (Value.int .u8 y53) :: (Value.int .u8 y54) :: (Value.int .u8 y55) :: (Value.int .u8 y56) :: (Value.int .u8 y57) :: (Value.int .u8 y58) :: (Value.int .u8 y59) :: (Value.int .u8 y60) :: (Value.int .u8 y61) :: (Value.int .u8 y62) :: (Value.int .u8 y63) :: (Value.int .u8 y64) :: (Value.int .u8 y65) :: (Value.int .u8 y66) :: (Value.int .u8 y67) :: (Value.int .u8 y68) :: (Value.int .u8 y69) :: (Value.int .u8 y70) :: (Value.int .u8 y71) :: (Value.int .u8 y72) :: (Value.int .i64 y73) :: (Value.int .i64 y74) :: (Value.int .i64 y75) :: (Value.int .i64 y76) :: (Value.int .i64 y77) :: [])⟩) ∧ K y41 y42 y43 y44 y45 y46 y47 y48 y49 y50 y51 y52 y53 y54 y55 y56 y57 y58 y59 y60 y61 y62 y63 y64 y65 y66 y67 y68 y69 y70 y71 y72 y73 y74 y75 y76 y77 w'
theorem cm_law32_set { w K K'} (h : c_law32_set  w K) (hk : ∀ x0 x1 x2 x3 x4 x5 x6 x7 x8 x9 x10 x11 x12 x13 x14 x15 x16 x17 x18 x19 x20 x21 x22 x23 x24 x25 x26 x27 x28 x29 x30 x31 x32 x33 x34 x35 x36 w', K x0 x1 x2 x3 x4 x5 x6 x7 x8 x9 x10 x11 x12 x13 x14 x15 x16 x17 x18 x19 x20 x21 x22 x23 x24 x25 x26 x27 x28 x29 x30 x31 x32 x33 x34 x35 x36 w' → K' x0 x1 x2 x3 x4 x5 x6 x7 x8 x9 x10 x11 x12 x13 x14 x15 x16 x17 x18 x19 x20 x21 x22 x23 x24 x25 x26 x27 x28 x29 x30 x31 x32 x33 x34 x35 x36 w') : c_law32_set  w K' :=
  Calls.mono h fun e w' hh => by obtain ⟨x0, x1, x2, x3, x4, x5, x6, x7, x8, x9, x10, x11, x12, x13, x14, x15, x16, x17, x18, x19, x20, x21, x22, x23, x24, x25, x26, x27, x28, x29, x30, x31, x32, x33, x34, x35, x36, he, hx⟩ := hh; exact ⟨x0, x1, x2, x3, x4, x5, x6, x7, x8, x9, x10, x11, x12, x13, x14, x15, x16, x17, x18, x19, x20, x21, x22, x23, x24, x25, x26, x27, x28, x29, x30, x31, x32, x33, x34, x35, x36, he, hk _ _ _ _ _ _ _ _ _ _ _ _ _ _ _ _ _ _ _ _ _ _ _ _ _ _ _ _ _ _ _ _ _ _ _ _ _ _ hx⟩

/-- goosepond/b4.New -/
abbrev n_b4_New : FuncId := 6
def c_b4_New (a0_0 : Int) (a0_1 : Int) (a0_2 : Int) (a0_3 : Int) (a0_4 : Int) (a0_5 : Int) (a0_6 : Int) (a0_7 : Int) (a0_8 : Int) (a0_9 : Int) (a0_10 : Int) (a0_11 : Int) (a0_12 : Int) (a0_13 : Int) (a0_14 : Int) (a0_15 : Int) (a0_16 : Int) (a0_17 : Int) (a0_18 : Int) (a0_19 : Int) (a0_20 : Int) (a0_21 : Int) (a0_22 : Int) (a0_23 : Int) (a0_24 : Int) (a0_25 : Int) (a0_26 : Int) (a0_27 : Int) (a0_28 : Int) (a0_29 : Int) (a0_30 : Int) (a0_31 : Int) (a0_32 : Int) (a0_33 : Int) (a0_34 : Int) (a0_35 : Int) (a0_36 : Int) (w : World) (K : (Option Addr) → Int → World → Prop) : Prop :=
  Calls Tryz.prog 6 ⟨[(Value.agg ⟨((Value.int .u8 a0_0) :: (Value.int .u8 a0_1) :: (Value.int .u8 a0_2) :: (Value.int .u8 a0_3) :: (Value.int .u8 a0_4) :: (Value.int .u8 a0_5) :: (Value.int .u8 a0_6) :: (Value.int .u8 a0_7) :: (Value.int .u8 a0_8) :: (Value.int .u8 a0_9) :: (Value.int .u8 a0_10) :: (Value.int .u8 a0_11) :: (Value.int .u8 a0_12) :: (Value.int .u8 a0_13) :: (Value.int .u8 a0_14) :: (Value.int .u8 a0_15) :: (Value.int .u8 a0_16) :: (Value.int .u8 a0_17) :: (Value.int .u8 a0_18) :: (Value.int .u8 a0_19) :: (Value.int .u8 a0_20) :: (Value.int .u8 a0_21) :: (Value.int .u8 a0_22) :: (Value.int .u8 a0_23) :: (Value.int .u8 a0_24) :: (Value.int .u8 a0_25) :: (Value.int .u8 a0_26) :: (Value.int .u8 a0_27) :: (Value.int .u8 a0_28) :: (Value.int .u8 a0_29) :: (Value.int .u8 a0_30) :: (Value.int .u8 a0_31) :: (Value.int .i64 a0_32) :: (Value.int .i64 a0_33) :: (Value.int .i64 a0_34) :: (Value.int .i64 a0_35) :: (Value.int .i64 a0_36) :: [])⟩)]⟩ w fun e w' => ∃ y90 : Option Addr, ∃ y91 : Int, e = .returned (Value.tuple ⟨[(Value.pointer y90), (Value.int .i64 y91)]⟩) ∧ K y90 y91 w'
theorem cm_b4_New {a0_0 a0_1 a0_2 a0_3 a0_4 a0_5 a0_6 a0_7 a0_8 a0_9 a0_10 a0_11 a0_12 a0_13 a0_14 a0_15 a0_16 a0_17 a0_18 a0_19 a0_20 a0_21 a0_22 a0_23 a0_24 a0_25 a0_26 a0_27 a0_28 a0_29 a0_30 a0_31 a0_32 a0_33 a0_34 a0_35 a0_36 w K K'} (h : c_b4_New a0_0 a0_1 a0_2 a0_3 a0_4 a0_5 a0_6 a0_7 a0_8 a0_9 a0_10 a0_11 a0_12 a0_13 a0_14 a0_15 a0_16 a0_17 a0_18 a0_19 a0_20 a0_21 a0_22 a0_23 a0_24 a0_25 a0_26 a0_27 a0_28 a0_29 a0_30 a0_31 a0_32 a0_33 a0_34 a0_35 a0_36 w K) (hk : ∀ x0 x1 w', K x0 x1 w' → K' x0 x1 w') : c_b4_New a0_0 a0_1 a0_2 a0_3 a0_4 a0_5 a0_6 a0_7 a0_8 a0_9 a0_10 a0_11 a0_12 a0_13 a0_14 a0_15 a0_16 a0_17 a0_18 a0_19 a0_20 a0_21 a0_22 a0_23 a0_24 a0_25 a0_26 a0_27 a0_28 a0_29 a0_30 a0_31 a0_32 a0_33 a0_34 a0_35 a0_36 w K' :=
  Calls.mono h fun e w' hh => by obtain ⟨x0, x1, he, hx⟩ := hh; exact ⟨x0, x1, he, hk _ _ _ hx⟩

/-- (*goosepond/b4.B4).Host -/
abbrev n_b4_B4_Host : FuncId := 8
def c_b4_B4_Host (a0 : Option Addr) (a1 : SliceV) (w : World) (K : SliceV → SliceV → Int → World → Prop) : Prop :=
  Calls Tryz.prog 8 ⟨[(Value.pointer a0), (Value.slice a1.a a1.len a1.cap)]⟩ w fun e w' => ∃ y252 : SliceV, ∃ y253 : SliceV, ∃ y254 : Int, e = .returned (Value.tuple ⟨[(Value.slice y252.a y252.len y252.cap), (Value.slice y253.a y253.len y253.cap), (Value.int .i64 y254)]⟩) ∧ K y252 y253 y254 w'
theorem cm_b4_B4_Host {a0 a1 w K K'} (h : c_b4_B4_Host a0 a1 w K) (hk : ∀ x0 x1 x2 w', K x0 x1 x2 w' → K' x0 x1 x2 w') : c_b4_B4_Host a0 a1 w K' :=
  Calls.mono h fun e w' hh => by obtain ⟨x0, x1, x2, he, hx⟩ := hh; exact ⟨x0, x1, x2, he, hk _ _ _ _ hx⟩

/-- goosepond/b4.Addr -/
abbrev n_b4_Addr : FuncId := 13
def c_b4_Addr  (w : World) (K : Int → World → Prop) : Prop :=
  Calls Tryz.prog 13 ⟨[]⟩ w fun e w' => ∃ y1 : Int, e = .returned (Value.int .i64 y1) ∧ K y1 w'
theorem cm_b4_Addr { w K K'} (h : c_b4_Addr  w K) (hk : ∀ x0 w', K x0 w' → K' x0 w') : c_b4_Addr  w K' :=
  Calls.mono h fun e w' hh => by obtain ⟨x0, he, hx⟩ := hh; exact ⟨x0, he, hk _ _ hx⟩

/-- (goosepond/b4.Setup).may -/
abbrev n_b4_Setup_may : FuncId := 14
def c_b4_Setup_may (a0_0 : Int) (a0_1 : Int) (a0_2 : Int) (a0_3 : Int) (a0_4 : Int) (a0_5 : Int) (a0_6 : Int) (a0_7 : Int) (a0_8 : Int) (a0_9 : Int) (a0_10 : Int) (a0_11 : Int) (a0_12 : Int) (a0_13 : Int) (a0_14 : Int) (a0_15 : Int) (a0_16 : Int) (a0_17 : Int) (a0_18 : Int) (a0_19 : Int) (a0_20 : Int) (a0_21 : Int) (a0_22 : Int) (a0_23 : Int) (a0_24 : Int) (a0_25 : Int) (a0_26 : Int) (a0_27 : Int) (a0_28 : Int) (a0_29 : Int) (a0_30 : Int) (a0_31 : Int) (a0_32 : Int) (a0_33 : Int) (a0_34 : Int) (a0_35 : Int) (a0_36 : Int) (w : World) (K : Bool → World → Prop) : Prop :=
  Calls Tryz.prog 14 ⟨[(Value.agg ⟨((Value.int .u8 a0_0) :: (Value.int .u8 a0_1) :: (Value.int .u8 a0_2) :: (Value.int .u8 a0_3) :: (Value.int .u8 a0_4) :: (Value.int .u8 a0_5) :: (Value.int .u8 a0_6) :: (Value.int .u8 a0_7) :: (Value.int .u8 a0_8) :: (Value.int .u8 a0_9) :: (Value.int .u8 a0_10) :: (Value.int .u8 a0_11) :: (Value.int .u8 a0_12) :: (Value.int .u8 a0_13) :: (Value.int .u8 a0_14) :: (Value.int .u8 a0_15) :: (Value.int .u8 a0_16) :: (Value.int .u8 a0_17) :: (Value.int .u8 a0_18) :: (Value.int .u8 a0_19) :: (Value.int .u8 a0_20) :: (Value.int .u8 a0_21) :: (Value.int .u8 a0_22) :: (Value.int .u8 a0_23) :: (Value.int .u8 a0_24) :: (Value.int .u8 a0_25) :: (Value.int .u8 a0_26) :: (Value.int .u8 a0_27) :: (Value.int .u8 a0_28) :: (Value.int .u8 a0_29) :: (Value.int .u8 a0_30) :: (Value.int .u8 a0_31) :: (Value.int .i64 a0_32) :: (Value.int .i64 a0_33) :: (Value.int .i64 a0_34) :: (Value.int .i64 a0_35) :: (Value.int .i64 a0_36) :: [])⟩)]⟩ w fun e w' => ∃ y98 : Bool, e = .returned (Value.bool y98) ∧ K y98 w'
theorem cm_b4_Setup_may {a0_0 a0_1 a0_2 a0_3 a0_4 a0_5 a0_6 a0_7 a0_8 a0_9 a0_10 a0_11 a0_12 a0_13 a0_14 a0_15 a0_16 a0_17 a0_18 a0_19 a0_20 a0_21 a0_22 a0_23 a0_24 a0_25 a0_26 a0_27 a0_28 a0_29 a0_30 a0_31 a0_32 a0_33 a0_34 a0_35 a0_36 w K K'} (h : c_b4_Setup_may a0_0 a0_1 a0_2 a0_3 a0_4 a0_5 a0_6 a0_7 a0_8 a0_9 a0_10 a0_11 a0_12 a0_13 a0_14 a0_15 a0_16 a0_17 a0_18 a0_19 a0_20 a0_21 a0_22 a0_23 a0_24 a0_25 a0_26 a0_27 a0_28 a0_29 a0_30 a0_31 a0_32 a0_33 a0_34 a0_35 a0_36 w K) (hk : ∀ x0 w', K x0 w' → K' x0 w') : c_b4_Setup_may a0_0 a0_1 a0_2 a0_3 a0_4 a0_5 a0_6 a0_7 a0_8 a0_9 a0_10 a0_11 a0_12 a0_13 a0_14 a0_15 a0_16 a0_17 a0_18 a0_19 a0_20 a0_21 a0_22 a0_23 a0_24 a0_25 a0_26 a0_27 a0_28 a0_29 a0_30 a0_31 a0_32 a0_33 a0_34 a0_35 a0_36 w K' :=
  Calls.mono h fun e w' hh => by obtain ⟨x0, he, hx⟩ := hh; exact ⟨x0, he, hk _ _ hx⟩

/-- goosepond/join.New -/
abbrev n_join_New : FuncId := 15
def c_join_New (a0 : Int) (a1 : Int) (a2 : Int) (w : World) (K : (Option Addr) → Int → World → Prop) : Prop :=
  Calls Tryz.prog 15 ⟨[(Value.int .i64 a0), (Value.int .i64 a1), (Value.int .i64 a2)]⟩ w fun e w' => ∃ y20 : Option Addr, ∃ y21 : Int, e = .returned (Value.tuple ⟨[(Value.pointer y20), (Value.int .i64 y21)]⟩) ∧ K y20 y21 w'
theorem cm_join_New {a0 a1 a2 w K K'} (h : c_join_New a0 a1 a2 w K) (hk : ∀ x0 x1 w', K x0 x1 w' → K' x0 x1 w') : c_join_New a0 a1 a2 w K' :=
  Calls.mono h fun e w' hh => by obtain ⟨x0, x1, he, hx⟩ := hh; exact ⟨x0, x1, he, hk _ _ _ hx⟩

/-- goosepond/counts.New -/
abbrev n_counts_New : FuncId := 16
def c_counts_New  (w : World) (K : (Option Addr) → World → Prop) : Prop :=
  Calls Tryz.prog 16 ⟨[]⟩ w fun e w' => ∃ y5 : Option Addr, e = .returned (Value.pointer y5) ∧ K y5 w'
theorem cm_counts_New { w K K'} (h : c_counts_New  w K) (hk : ∀ x0 w', K x0 w' → K' x0 w') : c_counts_New  w K' :=
  Calls.mono h fun e w' hh => by obtain ⟨x0, he, hx⟩ := hh; exact ⟨x0, he, hk _ _ hx⟩

/-- (*goosepond/b4.B4).ready -/
abbrev n_b4_B4_ready : FuncId := 19
def c_b4_B4_ready (a0 : Option Addr) (w : World) (K : Bool → World → Prop) : Prop :=
  Calls Tryz.prog 19 ⟨[(Value.pointer a0)]⟩ w fun e w' => ∃ y6 : Bool, e = .returned (Value.bool y6) ∧ K y6 w'
theorem cm_b4_B4_ready {a0 w K K'} (h : c_b4_B4_ready a0 w K) (hk : ∀ x0 w', K x0 w' → K' x0 w') : c_b4_B4_ready a0 w K' :=
  Calls.mono h fun e w' hh => by obtain ⟨x0, he, hx⟩ := hh; exact ⟨x0, he, hk _ _ hx⟩

/-- (*goosepond/b4.B4).drop -/
abbrev n_b4_B4_drop : FuncId := 21
def c_b4_B4_drop (a0 : Option Addr) (a1 : Int) (w : World) (K : Int → World → Prop) : Prop :=
  Calls Tryz.prog 21 ⟨[(Value.pointer a0), (Value.int .i64 a1)]⟩ w fun e w' => ∃ y7 : Int, e = .returned (Value.int .i64 y7) ∧ K y7 w'
theorem cm_b4_B4_drop {a0 a1 w K K'} (h : c_b4_B4_drop a0 a1 w K) (hk : ∀ x0 w', K x0 w' → K' x0 w') : c_b4_B4_drop a0 a1 w K' :=
  Calls.mono h fun e w' hh => by obtain ⟨x0, he, hx⟩ := hh; exact ⟨x0, he, hk _ _ hx⟩

/-- goosepond/b4.over -/
abbrev n_b4_over : FuncId := 24
def c_b4_over (a0_0 : Int) (a0_1 : Int) (a0_2 : Int) (a0_3 : Int) (a0_4 : Int) (a0_5 : Int) (a0_6 : Int) (a0_7 : Bool) (a0_8 : Bool) (a0_9 : SliceV) (a0_10 : SliceV) (w : World) (K : SliceV → World → Prop) : Prop :=
  Calls Tryz.prog 24 ⟨[(Value.agg ⟨[(Value.int .i64 a0_0), (Value.int .i64 a0_1), (Value.int .i64 a0_2), (Value.int .i64 a0_3), (Value.int .i64 a0_4), (Value.int .i64 a0_5), (Value.int .i64 a0_6), (Value.bool a0_7), (Value.bool a0_8), (Value.slice a0_9.a a0_9.len a0_9.cap), (Value.slice a0_10.a a0_10.len a0_10.cap)]⟩)]⟩ w fun e w' => ∃ y35 : SliceV, e = .returned (Value.slice y35.a y35.len y35.cap) ∧ K y35 w'
theorem cm_b4_over {a0_0 a0_1 a0_2 a0_3 a0_4 a0_5 a0_6 a0_7 a0_8 a0_9 a0_10 w K K'} (h : c_b4_over a0_0 a0_1 a0_2 a0_3 a0_4 a0_5 a0_6 a0_7 a0_8 a0_9 a0_10 w K) (hk : ∀ x0 w', K x0 w' → K' x0 w') : c_b4_over a0_0 a0_1 a0_2 a0_3 a0_4 a0_5 a0_6 a0_7 a0_8 a0_9 a0_10 w K' :=
  Calls.mono h fun e w' hh => by obtain ⟨x0, he, hx⟩ := hh; exact ⟨x0, he, hk _ _ hx⟩

/-- (*goosepond/b4.B4).cut -/
abbrev n_b4_B4_cut : FuncId := 27
def c_b4_B4_cut (a0 : Option Addr) (a1_0 : Int) (a1_1 : Int) (a1_2 : Int) (a1_3 : Int) (a1_4 : Int) (a1_5 : Int) (a1_6 : Int) (a1_7 : Int) (a1_8 : Int) (a1_9 : Int) (a1_10 : Int) (a1_11 : Int) (a1_12 : Int) (a1_13 : Int) (a1_14 : Int) (a1_15 : Int) (a1_16 : Int) (a1_17 : Int) (a1_18 : Int) (a1_19 : Int) (a1_20 : Int) (a1_21 : Int) (a1_22 : Int) (a1_23 : Int) (a1_24 : Int) (a1_25 : Int) (a1_26 : Int) (a1_27 : Int) (a1_28 : Int) (a1_29 : Int) (a1_30 : Int) (a1_31 : Int) (a1_32 : Int) (a1_33 : Int) (a1_34 : Int) (a1_35 : Int) (a1_36 : SliceV) (w : World) (K : SliceV → Int → World → Prop) : Prop :=
  Calls Tryz.prog 27 ⟨[(Value.pointer a0), (Value.agg ⟨((Value.int .i64 a1_0) :: (Value.int .i64 a1_1) :: (Value.int .i64 a1_2) :: (Value.int .i64 a1_3) :: (Value.int .u8 a1_4) :: (Value.int .u8 a1_5) :: (Value.int .u8 a1_6) :: (Value.int .u8 a1_7) :: (Value.int .u8 a1_8) :: (Value.int .u8 a1_9) :: (Value.int .u8 a1_10) :: (Value.int .u8 a1_11) :: (Value.int .u8 a1_12) :: (Value.int .u8 a1_13) :: (Value.int .u8 a1_14) :: (Value.int .u8 a1_15) :: (Value.int .u8 a1_16) :: (Value.int .u8 a1_17) :: (Value.int .u8 a1_18) :: (Value.int .u8 a1_19) :: (Value.int .u8 a1_20) :: (Value.int .u8 a1_21) :: (Value.int .u8 a1_22) :: (Value.int .u8 a1_23) :: (Value.int .u8 a1_24) :: (Value.int .u8 a1_25) :: (Value.int .u8 a1_26) :: (Value.int .u8 a1_27) :: (Value.int .u8 a1_28) :: (Value.int .u8 a1_29) :: (Value.int .u8 a1_30) :: (Value.int .u8 a1_31) :: (Value.int .u8 a1_32) :: (Value.int .u8 a1_33) :: (Value.int .u8 a1_34) :: (Value.int .u8 a1_35) :: (Value.slice a1_36.a a1_36.len a1_36.cap) :: [])⟩)]⟩ w fun e w' => ∃ y143 : SliceV, ∃ y144 : Int, e = .returned (Value.tuple ⟨[(Value.slice y143.a y143.len y143.cap), (Value.int .i64 y144)]⟩) ∧ K y143 y144 w'
theorem cm_b4_B4_cut {a0 a1_0 a1_1 a1_2 a1_3 a1_4 a1_5 a1_6 a1_7 a1_8 a1_9 a1_10 a1_11 a1_12 a1_13 a1_14 a1_15 a1_16 a1_17 a1_18 a1_19 a1_20 a1_21 a1_22 a1_23 a1_24 a1_25 a1_26 a1_27 a1_28 a1_29 a1_30 a1_31 a1_32 a1_33 a1_34 a1_35 a1_36 w K K'} (h : c_b4_B4_cut a0 a1_0 a1_1 a1_2 a1_3 a1_4 a1_5 a1_6 a1_7 a1_8 a1_9 a1_10 a1_11 a1_12 a1_13 a1_14 a1_15 a1_16 a1_17 a1_18 a1_19 a1_20 a1_21 a1_22 a1_23 a1_24 a1_25 a1_26 a1_27 a1_28 a1_29 a1_30 a1_31 a1_32 a1_33 a1_34 a1_35 a1_36 w K) (hk : ∀ x0 x1 w', K x0 x1 w' → K' x0 x1 w') : c_b4_B4_cut a0 a1_0 a1_1 a1_2 a1_3 a1_4 a1_5 a1_6 a1_7 a1_8 a1_9 a1_10 a1_11 a1_12 a1_13 a1_14 a1_15 a1_16 a1_17 a1_18 a1_19 a1_20 a1_21 a1_22 a1_23 a1_24 a1_25 a1_26 a1_27 a1_28 a1_29 a1_30 a1_31 a1_32 a1_33 a1_34 a1_35 a1_36 w K' :=
  Calls.mono h fun e w' hh => by obtain ⟨x0, x1, he, hx⟩ := hh; exact ⟨x0, x1, he, hk _ _ _ hx⟩

/-- goosepond/six.Host -/
abbrev n_six_Host : FuncId := 31
def c_six_Host (a0_0 : Int) (a0_1 : Int) (a0_2 : Int) (a0_3 : Int) (a0_4 : Int) (a0_5 : Int) (a0_6 : Int) (a0_7 : Int) (a0_8 : Int) (a0_9 : Int) (a0_10 : Int) (a0_11 : Int) (a0_12 : Int) (a0_13 : Int) (a0_14 : Int) (a0_15 : Int) (w : World) (K : Bool → World → Prop) : Prop :=
  Calls Tryz.prog 31 ⟨[(Value.agg ⟨[(Value.int .u8 a0_0), (Value.int .u8 a0_1), (Value.int .u8 a0_2), (Value.int .u8 a0_3), (Value.int .u8 a0_4), (Value.int .u8 a0_5), (Value.int .u8 a0_6), (Value.int .u8 a0_7), (Value.int .u8 a0_8), (Value.int .u8 a0_9), (Value.int .u8 a0_10), (Value.int .u8 a0_11), (Value.int .u8 a0_12), (Value.int .u8 a0_13), (Value.int .u8 a0_14), (Value.int .u8 a0_15)]⟩)]⟩ w fun e w' => ∃ y41 : Bool, e = .returned (Value.bool y41) ∧ K y41 w'
theorem cm_six_Host {a0_0 a0_1 a0_2 a0_3 a0_4 a0_5 a0_6 a0_7 a0_8 a0_9 a0_10 a0_11 a0_12 a0_13 a0_14 a0_15 w K K'} (h : c_six_Host a0_0 a0_1 a0_2 a0_3 a0_4 a0_5 a0_6 a0_7 a0_8 a0_9 a0_10 a0_11 a0_12 a0_13 a0_14 a0_15 w K) (hk : ∀ x0 w', K x0 w' → K' x0 w') : c_six_Host a0_0 a0_1 a0_2 a0_3 a0_4 a0_5 a0_6 a0_7 a0_8 a0_9 a0_10 a0_11 a0_12 a0_13 a0_14 a0_15 w K' :=
  Calls.mono h fun e w' hh => by obtain ⟨x0, he, hx⟩ := hh; exact ⟨x0, he, hk _ _ hx⟩

/-- goosepond/b4.within -/
abbrev n_b4_within : FuncId := 32
def c_b4_within (a0 : Int) (a1 : Int) (a2 : Int) (w : World) (K : Bool → World → Prop) : Prop :=
  Calls Tryz.prog 32 ⟨[(Value.int .i64 a0), (Value.int .i64 a1), (Value.int .i64 a2)]⟩ w fun e w' => ∃ y6 : Bool, e = .returned (Value.bool y6) ∧ K y6 w'
theorem cm_b4_within {a0 a1 a2 w K K'} (h : c_b4_within a0 a1 a2 w K) (hk : ∀ x0 w', K x0 w' → K' x0 w') : c_b4_within a0 a1 a2 w K' :=
  Calls.mono h fun e w' hh => by obtain ⟨x0, he, hx⟩ := hh; exact ⟨x0, he, hk _ _ hx⟩

/-- goosepond/join.New$1 -/
abbrev n_join_New_1 : FuncId := 33
def c_join_New_1 (a0 : Int) (a1 : Int) (a2 : Int) (w : World) (K : Bool → World → Prop) : Prop :=
  Calls Tryz.prog 33 ⟨[(Value.int .i64 a0), (Value.int .i64 a1), (Value.int .i64 a2)]⟩ w fun e w' => ∃ y6 : Bool, e = .returned (Value.bool y6) ∧ K y6 w'
theorem cm_join_New_1 {a0 a1 a2 w K K'} (h : c_join_New_1 a0 a1 a2 w K) (hk : ∀ x0 w', K x0 w' → K' x0 w') : c_join_New_1 a0 a1 a2 w K' :=
  Calls.mono h fun e w' hh => by obtain ⟨x0, he, hx⟩ := hh; exact ⟨x0, he, hk _ _ hx⟩

/-- (*goosepond/counts.Counts).Add -/
abbrev n_counts_Counts_Add : FuncId := 45
def c_counts_Counts_Add (a0 : Option Addr) (a1 : Int) (w : World) (K : Bool → World → Prop) : Prop :=
  Calls Tryz.prog 45 ⟨[(Value.pointer a0), (Value.int .i64 a1)]⟩ w fun e w' => ∃ y14 : Bool, e = .returned (Value.bool y14) ∧ K y14 w'
theorem cm_counts_Counts_Add {a0 a1 w K K'} (h : c_counts_Counts_Add a0 a1 w K) (hk : ∀ x0 w', K x0 w' → K' x0 w') : c_counts_Counts_Add a0 a1 w K' :=
  Calls.mono h fun e w' hh => by obtain ⟨x0, he, hx⟩ := hh; exact ⟨x0, he, hk _ _ hx⟩

/-- goosepond/b4.built -/
abbrev n_b4_built : FuncId := 49
def c_b4_built (a0_0 : Int) (a0_1 : Int) (a0_2 : Int) (a0_3 : Int) (a0_4 : Int) (a0_5 : Int) (a0_6 : Int) (a0_7 : Bool) (a0_8 : Bool) (a0_9 : SliceV) (a0_10 : SliceV) (a1 : Int) (w : World) (K : SliceV → World → Prop) : Prop :=
  Calls Tryz.prog 49 ⟨[(Value.agg ⟨[(Value.int .i64 a0_0), (Value.int .i64 a0_1), (Value.int .i64 a0_2), (Value.int .i64 a0_3), (Value.int .i64 a0_4), (Value.int .i64 a0_5), (Value.int .i64 a0_6), (Value.bool a0_7), (Value.bool a0_8), (Value.slice a0_9.a a0_9.len a0_9.cap), (Value.slice a0_10.a a0_10.len a0_10.cap)]⟩), (Value.int .i64 a1)]⟩ w fun e w' => ∃ y21 : SliceV, e = .returned (Value.slice y21.a y21.len y21.cap) ∧ K y21 w'
theorem cm_b4_built {a0_0 a0_1 a0_2 a0_3 a0_4 a0_5 a0_6 a0_7 a0_8 a0_9 a0_10 a1 w K K'} (h : c_b4_built a0_0 a0_1 a0_2 a0_3 a0_4 a0_5 a0_6 a0_7 a0_8 a0_9 a0_10 a1 w K) (hk : ∀ x0 w', K x0 w' → K' x0 w') : c_b4_built a0_0 a0_1 a0_2 a0_3 a0_4 a0_5 a0_6 a0_7 a0_8 a0_9 a0_10 a1 w K' :=
  Calls.mono h fun e w' hh => by obtain ⟨x0, he, hx⟩ := hh; exact ⟨x0, he, hk _ _ hx⟩

/-- (*goosepond/counts.Counts).has -/
abbrev n_counts_Counts_has : FuncId := 73
def c_counts_Counts_has (a0 : Option Addr) (a1 : Int) (w : World) (K : Bool → World → Prop) : Prop :=
  Calls Tryz.prog 73 ⟨[(Value.pointer a0), (Value.int .i64 a1)]⟩ w fun e w' => ∃ y7 : Bool, e = .returned (Value.bool y7) ∧ K y7 w'
theorem cm_counts_Counts_has {a0 a1 w K K'} (h : c_counts_Counts_has a0 a1 w K) (hk : ∀ x0 w', K x0 w' → K' x0 w') : c_counts_Counts_has a0 a1 w K' :=
  Calls.mono h fun e w' hh => by obtain ⟨x0, he, hx⟩ := hh; exact ⟨x0, he, hk _ _ hx⟩

/-- goosepond/b4.list -/
abbrev n_b4_list : FuncId := 75
def c_b4_list (a0 : SliceV) (a1 : Int) (w : World) (K : SliceV → World → Prop) : Prop :=
  Calls Tryz.prog 75 ⟨[(Value.slice a0.a a0.len a0.cap), (Value.int .i64 a1)]⟩ w fun e w' => ∃ y5 : SliceV, e = .returned (Value.slice y5.a y5.len y5.cap) ∧ K y5 w'
theorem cm_b4_list {a0 a1 w K K'} (h : c_b4_list a0 a1 w K) (hk : ∀ x0 w', K x0 w' → K' x0 w') : c_b4_list a0 a1 w K' :=
  Calls.mono h fun e w' hh => by obtain ⟨x0, he, hx⟩ := hh; exact ⟨x0, he, hk _ _ hx⟩

/-- goosepond/goosepondlaw32.B4Sends -/
def s_law32_B4Sends (a0 : SliceV) (a1 : Int) (a2 : Int) (w : World) (K : Bool → World → Prop) : Prop :=
 ((bif (decide ((a0.len : Int) > 4000)) then
 c_law32_awake  w fun r4 w5 =>
 K r4 w5
 else
 c_law32_set  w fun r6 r7 r8 r9 r10 r11 r12 r13 r14 r15 r16 r17 r18 r19 r20 r21 r22 r23 r24 r25 r26 r27 r28 r29 r30 r31 r32 r33 r34 r35 r36 r37 r38 r39 r40 r41 r42 w43 =>
 Al w43 (.cells ⟨((Value.int .u8 0) :: (Value.int .u8 0) :: (Value.int .u8 0) :: (Value.int .u8 0) :: (Value.int .u8 0) :: (Value.int .u8 0) :: (Value.int .u8 0) :: (Value.int .u8 0) :: (Value.int .u8 0) :: (Value.int .u8 0) :: (Value.int .u8 0) :: (Value.int .u8 0) :: (Value.int .u8 0) :: (Value.int .u8 0) :: (Value.int .u8 0) :: (Value.int .u8 0) :: (Value.int .u8 0) :: (Value.int .u8 0) :: (Value.int .u8 0) :: (Value.int .u8 0) :: (Value.int .u8 0) :: (Value.int .u8 0) :: (Value.int .u8 0) :: (Value.int .u8 0) :: (Value.int .u8 0) :: (Value.int .u8 0) :: (Value.int .u8 0) :: (Value.int .u8 0) :: (Value.int .u8 0) :: (Value.int .u8 0) :: (Value.int .u8 0) :: (Value.int .u8 0) :: (Value.int .i64 0) :: (Value.int .i64 0) :: (Value.int .i64 0) :: (Value.int .i64 0) :: (Value.int .i64 0) :: [])⟩ 27) fun a45 w44 =>
 StN ((Value.int .u8 r6) :: (Value.int .u8 r7) :: (Value.int .u8 r8) :: (Value.int .u8 r9) :: (Value.int .u8 r10) :: (Value.int .u8 r11) :: (Value.int .u8 r12) :: (Value.int .u8 r13) :: (Value.int .u8 r14) :: (Value.int .u8 r15) :: (Value.int .u8 r16) :: (Value.int .u8 r17) :: (Value.int .u8 r18) :: (Value.int .u8 r19) :: (Value.int .u8 r20) :: (Value.int .u8 r21) :: (Value.int .u8 r22) :: (Value.int .u8 r23) :: (Value.int .u8 r24) :: (Value.int .u8 r25) :: (Value.int .u8 r26) :: (Value.int .u8 r27) :: (Value.int .u8 r28) :: (Value.int .u8 r29) :: (Value.int .u8 r30) :: (Value.int .u8 r31) :: (Value.int .u8 r32) :: (Value.int .u8 r33) :: (Value.int .u8 r34) :: (Value.int .u8 r35) :: (Value.int .u8 r36) :: (Value.int .u8 r37) :: (Value.int .i64 r38) :: (Value.int .i64 r39) :: (Value.int .i64 r40) :: (Value.int .i64 r41) :: (Value.int .i64 r42) :: []) w44 a45 0 fun w46 =>
 St w46 (a45.add 32) (Value.int .i64 (IntKind.i64.wrap (1280 + (IntKind.i64.wrap a2)))) fun w47 =>
 Ld (.int .u8) w47 (a45.add 0) fun x48 =>
 Ld (.int .u8) w47 (a45.add 1) fun x49 =>
 Ld (.int .u8) w47 (a45.add 2) fun x50 =>
 Ld (.int .u8) w47 (a45.add 3) fun x51 =>
 Ld (.int .u8) w47 (a45.add 4) fun x52 =>
 Ld (.int .u8) w47 (a45.add 5) fun x53 =>
 Ld (.int .u8) w47 (a45.add 6) fun x54 =>
 Ld (.int .u8) w47 (a45.add 7) fun x55 =>
 Ld (.int .u8) w47 (a45.add 8) fun x56 =>
 Ld (.int .u8) w47 (a45.add 9) fun x57 =>
 Ld (.int .u8) w47 (a45.add 10) fun x58 =>
 Ld (.int .u8) w47 (a45.add 11) fun x59 =>
 Ld (.int .u8) w47 (a45.add 12) fun x60 =>
 Ld (.int .u8) w47 (a45.add 13) fun x61 =>
 Ld (.int .u8) w47 (a45.add 14) fun x62 =>
 Ld (.int .u8) w47 (a45.add 15) fun x63 =>
 Ld (.int .u8) w47 (a45.add 16) fun x64 =>
 Ld (.int .u8) w47 (a45.add 17) fun x65 =>
 Ld (.int .u8) w47 (a45.add 18) fun x66 =>
 Ld (.int .u8) w47 (a45.add 19) fun x67 =>
 Ld (.int .u8) w47 (a45.add 20) fun x68 =>
 Ld (.int .u8) w47 (a45.add 21) fun x69 =>
 Ld (.int .u8) w47 (a45.add 22) fun x70 =>
 Ld (.int .u8) w47 (a45.add 23) fun x71 =>
 Ld (.int .u8) w47 (a45.add 24) fun x72 =>
 Ld (.int .u8) w47 (a45.add 25) fun x73 =>
 Ld (.int .u8) w47 (a45.add 26) fun x74 =>
 Ld (.int .u8) w47 (a45.add 27) fun x75 =>
 Ld (.int .u8) w47 (a45.add 28) fun x76 =>
 Ld (.int .u8) w47 (a45.add 29) fun x77 =>
 Ld (.int .u8) w47 (a45.add 30) fun x78 =>
 Ld (.int .u8) w47 (a45.add 31) fun x79 =>
 Ld (.int .i64) w47 (a45.add 32) fun x80 =>
 Ld (.int .i64) w47 (a45.add 33) fun x81 =>
 Ld (.int .i64) w47 (a45.add 34) fun x82 =>
 Ld (.int .i64) w47 (a45.add 35) fun x83 =>
 Ld (.int .i64) w47 (a45.add 36) fun x84 =>
 c_b4_New x48 x49 x50 x51 x52 x53 x54 x55 x56 x57 x58 x59 x60 x61 x62 x63 x64 x65 x66 x67 x68 x69 x70 x71 x72 x73 x74 x75 x76 x77 x78 x79 x80 x81 x82 x83 x84 w47 fun r85 r86 w87 =>
 let J88 : Bool → Prop := fun j89 =>
 ((bif j89 then
 K false w87
 else
 (200 : Int) ≠ 0 ∧
 c_plain_Datagram 167772161 3221225985 5 6 (IntKind.i64.wrap (2 + (IntKind.i64.wrap (Int.tmod a1 200)))) a0 w87 fun r90 w91 =>
 c_b4_B4_Host r85 r90 w91 fun r92 r93 r94 w95 =>
 (bif (r94 != 0) then
 K false w95
 else
 LoopP (S := SliceV × Int × Unit) (fun s96 w97 next98 =>
 (bif (decide (s96.2.1 < (r92.len : Int))) then
 AtIx r92 1 s96.2.1 fun a99 =>
 Ld .slice w97 a99 fun x100 =>
 c_v6_Parse x100 w97 fun r101 r102 r103 r104 r105 r106 r107 r108 r109 r110 r111 r112 r113 r114 r115 r116 r117 r118 r119 r120 r121 r122 r123 r124 r125 r126 r127 r128 r129 r130 r131 r132 r133 r134 r135 r136 r137 r138 w139 =>
 Al w139 (.cells ⟨((Value.int .i64 0) :: (Value.int .i64 0) :: (Value.int .i64 0) :: (Value.int .i64 0) :: (Value.int .u8 0) :: (Value.int .u8 0) :: (Value.int .u8 0) :: (Value.int .u8 0) :: (Value.int .u8 0) :: (Value.int .u8 0) :: (Value.int .u8 0) :: (Value.int .u8 0) :: (Value.int .u8 0) :: (Value.int .u8 0) :: (Value.int .u8 0) :: (Value.int .u8 0) :: (Value.int .u8 0) :: (Value.int .u8 0) :: (Value.int .u8 0) :: (Value.int .u8 0) :: (Value.int .u8 0) :: (Value.int .u8 0) :: (Value.int .u8 0) :: (Value.int .u8 0) :: (Value.int .u8 0) :: (Value.int .u8 0) :: (Value.int .u8 0) :: (Value.int .u8 0) :: (Value.int .u8 0) :: (Value.int .u8 0) :: (Value.int .u8 0) :: (Value.int .u8 0) :: (Value.int .u8 0) :: (Value.int .u8 0) :: (Value.int .u8 0) :: (Value.int .u8 0) :: (Value.slice none 0 0) :: [])⟩ 38) fun a141 w140 =>
 StN ((Value.int .i64 r101) :: (Value.int .i64 r102) :: (Value.int .i64 r103) :: (Value.int .i64 r104) :: (Value.int .u8 r105) :: (Value.int .u8 r106) :: (Value.int .u8 r107) :: (Value.int .u8 r108) :: (Value.int .u8 r109) :: (Value.int .u8 r110) :: (Value.int .u8 r111) :: (Value.int .u8 r112) :: (Value.int .u8 r113) :: (Value.int .u8 r114) :: (Value.int .u8 r115) :: (Value.int .u8 r116) :: (Value.int .u8 r117) :: (Value.int .u8 r118) :: (Value.int .u8 r119) :: (Value.int .u8 r120) :: (Value.int .u8 r121) :: (Value.int .u8 r122) :: (Value.int .u8 r123) :: (Value.int .u8 r124) :: (Value.int .u8 r125) :: (Value.int .u8 r126) :: (Value.int .u8 r127) :: (Value.int .u8 r128) :: (Value.int .u8 r129) :: (Value.int .u8 r130) :: (Value.int .u8 r131) :: (Value.int .u8 r132) :: (Value.int .u8 r133) :: (Value.int .u8 r134) :: (Value.int .u8 r135) :: (Value.int .u8 r136) :: (Value.slice r137.a r137.len r137.cap) :: []) w140 a141 0 fun w142 =>
 let J143 : Bool → Prop := fun j144 =>
 ((bif j144 then
 K false w142
 else
 Ld (.int .i64) w142 (a141.add 0) fun x145 =>
 Ld (.int .i64) w142 (a141.add 1) fun x146 =>
 Ld (.int .i64) w142 (a141.add 2) fun x147 =>
 Ld (.int .i64) w142 (a141.add 3) fun x148 =>
 Ld (.int .u8) w142 (a141.add 4) fun x149 =>
 Ld (.int .u8) w142 (a141.add 5) fun x150 =>
 Ld (.int .u8) w142 (a141.add 6) fun x151 =>
 Ld (.int .u8) w142 (a141.add 7) fun x152 =>
 Ld (.int .u8) w142 (a141.add 8) fun x153 =>
 Ld (.int .u8) w142 (a141.add 9) fun x154 =>
 Ld (.int .u8) w142 (a141.add 10) fun x155 =>
 Ld (.int .u8) w142 (a141.add 11) fun x156 =>
 Ld (.int .u8) w142 (a141.add 12) fun x157 =>
 Ld (.int .u8) w142 (a141.add 13) fun x158 =>
 Ld (.int .u8) w142 (a141.add 14) fun x159 =>
 Ld (.int .u8) w142 (a141.add 15) fun x160 =>
 Ld (.int .u8) w142 (a141.add 16) fun x161 =>
 Ld (.int .u8) w142 (a141.add 17) fun x162 =>
 Ld (.int .u8) w142 (a141.add 18) fun x163 =>
 Ld (.int .u8) w142 (a141.add 19) fun x164 =>
 Ld (.int .u8) w142 (a141.add 20) fun x165 =>
 Ld (.int .u8) w142 (a141.add 21) fun x166 =>
 Ld (.int .u8) w142 (a141.add 22) fun x167 =>
 Ld (.int .u8) w142 (a141.add 23) fun x168 =>
 Ld (.int .u8) w142 (a141.add 24) fun x169 =>
 Ld (.int .u8) w142 (a141.add 25) fun x170 =>
 Ld (.int .u8) w142 (a141.add 26) fun x171 =>
 Ld (.int .u8) w142 (a141.add 27) fun x172 =>
 Ld (.int .u8) w142 (a141.add 28) fun x173 =>
 Ld (.int .u8) w142 (a141.add 29) fun x174 =>
 Ld (.int .u8) w142 (a141.add 30) fun x175 =>
 Ld (.int .u8) w142 (a141.add 31) fun x176 =>
 Ld (.int .u8) w142 (a141.add 32) fun x177 =>
 Ld (.int .u8) w142 (a141.add 33) fun x178 =>
 Ld (.int .u8) w142 (a141.add 34) fun x179 =>
 Ld (.int .u8) w142 (a141.add 35) fun x180 =>
 Ld .slice w142 (a141.add 36) fun x181 =>
 c_cut6_Part x145 x146 x147 x148 x149 x150 x151 x152 x153 x154 x155 x156 x157 x158 x159 x160 x161 x162 x163 x164 x165 x166 x167 x168 x169 x170 x171 x172 x173 x174 x175 x176 x177 x178 x179 x180 x181 w142 fun r182 r183 r184 r185 r186 r187 w188 =>
 Al w188 (.cells ⟨[(Value.int .i64 0), (Value.int .i64 0), (Value.int .i64 0), (Value.bool false)]⟩ 42) fun a190 w189 =>
 StN [(Value.int .i64 r182), (Value.int .i64 r183), (Value.int .i64 r184), (Value.bool r185)] w189 a190 0 fun w191 =>
 let J192 : SliceV → Prop := fun j193 =>
 (AppSl 5 1 1 [(Value.int .u8 0)] s96.1 j193 w191 fun s194 w195 =>
 next98 (s194, (IntKind.i64.wrap (s96.2.1 + 1)), ()) w195)
 (bif (!r187) then
 Ld .slice w191 (a141.add 36) fun x196 =>
 J192 x196
 else
 J192 r186)))
 (bif (r138 != 0) then
 J143 true
 else
 Ld (.int .i64) w142 (a45.add 32) fun x197 =>
 (bif (decide ((x100.len : Int) > x197)) then
 J143 true
 else
 Ld (.int .u8) w142 ((a141.add 4).add 0) fun x198 =>
 Ld (.int .u8) w142 ((a141.add 4).add 1) fun x199 =>
 Ld (.int .u8) w142 ((a141.add 4).add 2) fun x200 =>
 Ld (.int .u8) w142 ((a141.add 4).add 3) fun x201 =>
 Ld (.int .u8) w142 ((a141.add 4).add 4) fun x202 =>
 Ld (.int .u8) w142 ((a141.add 4).add 5) fun x203 =>
 Ld (.int .u8) w142 ((a141.add 4).add 6) fun x204 =>
 Ld (.int .u8) w142 ((a141.add 4).add 7) fun x205 =>
 Ld (.int .u8) w142 ((a141.add 4).add 8) fun x206 =>
 Ld (.int .u8) w142 ((a141.add 4).add 9) fun x207 =>
 Ld (.int .u8) w142 ((a141.add 4).add 10) fun x208 =>
 Ld (.int .u8) w142 ((a141.add 4).add 11) fun x209 =>
 Ld (.int .u8) w142 ((a141.add 4).add 12) fun x210 =>
 Ld (.int .u8) w142 ((a141.add 4).add 13) fun x211 =>
 Ld (.int .u8) w142 ((a141.add 4).add 14) fun x212 =>
 Ld (.int .u8) w142 ((a141.add 4).add 15) fun x213 =>
 Ld (.int .u8) w142 (a45.add 0) fun x214 =>
 Ld (.int .u8) w142 (a45.add 1) fun x215 =>
 Ld (.int .u8) w142 (a45.add 2) fun x216 =>
 Ld (.int .u8) w142 (a45.add 3) fun x217 =>
 Ld (.int .u8) w142 (a45.add 4) fun x218 =>
 Ld (.int .u8) w142 (a45.add 5) fun x219 =>
 Ld (.int .u8) w142 (a45.add 6) fun x220 =>
 Ld (.int .u8) w142 (a45.add 7) fun x221 =>
 Ld (.int .u8) w142 (a45.add 8) fun x222 =>
 Ld (.int .u8) w142 (a45.add 9) fun x223 =>
 Ld (.int .u8) w142 (a45.add 10) fun x224 =>
 Ld (.int .u8) w142 (a45.add 11) fun x225 =>
 Ld (.int .u8) w142 (a45.add 12) fun x226 =>
 Ld (.int .u8) w142 (a45.add 13) fun x227 =>
 Ld (.int .u8) w142 (a45.add 14) fun x228 =>
 Ld (.int .u8) w142 (a45.add 15) fun x229 =>
 (bif (!((x198 == x214) && ((x199 == x215) && ((x200 == x216) && ((x201 == x217) && ((x202 == x218) && ((x203 == x219) && ((x204 == x220) && ((x205 == x221) && ((x206 == x222) && ((x207 == x223) && ((x208 == x224) && ((x209 == x225) && ((x210 == x226) && ((x211 == x227) && ((x212 == x228) && ((x213 == x229) && true))))))))))))))))) then
 J143 true
 else
 Ld (.int .u8) w142 ((a141.add 20).add 0) fun x230 =>
 Ld (.int .u8) w142 ((a141.add 20).add 1) fun x231 =>
 Ld (.int .u8) w142 ((a141.add 20).add 2) fun x232 =>
 Ld (.int .u8) w142 ((a141.add 20).add 3) fun x233 =>
 Ld (.int .u8) w142 ((a141.add 20).add 4) fun x234 =>
 Ld (.int .u8) w142 ((a141.add 20).add 5) fun x235 =>
 Ld (.int .u8) w142 ((a141.add 20).add 6) fun x236 =>
 Ld (.int .u8) w142 ((a141.add 20).add 7) fun x237 =>
 Ld (.int .u8) w142 ((a141.add 20).add 8) fun x238 =>
 Ld (.int .u8) w142 ((a141.add 20).add 9) fun x239 =>
 Ld (.int .u8) w142 ((a141.add 20).add 10) fun x240 =>
 Ld (.int .u8) w142 ((a141.add 20).add 11) fun x241 =>
 Ld (.int .u8) w142 ((a141.add 20).add 12) fun x242 =>
 Ld (.int .u8) w142 ((a141.add 20).add 13) fun x243 =>
 Ld (.int .u8) w142 ((a141.add 20).add 14) fun x244 =>
 Ld (.int .u8) w142 ((a141.add 20).add 15) fun x245 =>
 Ld (.int .u8) w142 ((a45.add 16).add 0) fun x246 =>
 Ld (.int .u8) w142 ((a45.add 16).add 1) fun x247 =>
 Ld (.int .u8) w142 ((a45.add 16).add 2) fun x248 =>
 Ld (.int .u8) w142 ((a45.add 16).add 3) fun x249 =>
 Ld (.int .u8) w142 ((a45.add 16).add 4) fun x250 =>
 Ld (.int .u8) w142 ((a45.add 16).add 5) fun x251 =>
 Ld (.int .u8) w142 ((a45.add 16).add 6) fun x252 =>
 Ld (.int .u8) w142 ((a45.add 16).add 7) fun x253 =>
 Ld (.int .u8) w142 ((a45.add 16).add 8) fun x254 =>
 Ld (.int .u8) w142 ((a45.add 16).add 9) fun x255 =>
 Ld (.int .u8) w142 ((a45.add 16).add 10) fun x256 =>
 Ld (.int .u8) w142 ((a45.add 16).add 11) fun x257 =>
 Ld (.int .u8) w142 ((a45.add 16).add 12) fun x258 =>
 Ld (.int .u8) w142 ((a45.add 16).add 13) fun x259 =>
 Ld (.int .u8) w142 ((a45.add 16).add 14) fun x260 =>
 Ld (.int .u8) w142 ((a45.add 16).add 15) fun x261 =>
 (bif (!((x230 == x246) && ((x231 == x247) && ((x232 == x248) && ((x233 == x249) && ((x234 == x250) && ((x235 == x251) && ((x236 == x252) && ((x237 == x253) && ((x238 == x254) && ((x239 == x255) && ((x240 == x256) && ((x241 == x257) && ((x242 == x258) && ((x243 == x259) && ((x244 == x260) && ((x245 == x261) && true))))))))))))))))) then
 J143 true
 else
 Ld (.int .i64) w142 (a141.add 3) fun x262 =>
 Ld (.int .i64) w142 (a45.add 33) fun x263 =>
 J143 (x262 != x263)))))
 else
 c_ref05_Parse r90 w97 fun r264 r265 r266 r267 r268 r269 r270 r271 r272 r273 r274 r275 w276 =>
 Al w276 (.cells ⟨[(Value.int .i64 0), (Value.int .i64 0), (Value.int .i64 0), (Value.int .i64 0), (Value.int .i64 0), (Value.int .i64 0), (Value.int .i64 0), (Value.bool false), (Value.bool false), (Value.slice none 0 0), (Value.slice none 0 0)]⟩ 46) fun a278 w277 =>
 StN [(Value.int .i64 r264), (Value.int .i64 r265), (Value.int .i64 r266), (Value.int .i64 r267), (Value.int .i64 r268), (Value.int .i64 r269), (Value.int .i64 r270), (Value.bool r271), (Value.bool r272), (Value.slice r273.a r273.len r273.cap), (Value.slice r274.a r274.len r274.cap)] w277 a278 0 fun w279 =>
 c_ref05_Parse s96.1 w279 fun r280 r281 r282 r283 r284 r285 r286 r287 r288 r289 r290 r291 w292 =>
 Al w292 (.cells ⟨[(Value.int .i64 0), (Value.int .i64 0), (Value.int .i64 0), (Value.int .i64 0), (Value.int .i64 0), (Value.int .i64 0), (Value.int .i64 0), (Value.bool false), (Value.bool false), (Value.slice none 0 0), (Value.slice none 0 0)]⟩ 46) fun a294 w293 =>
 StN [(Value.int .i64 r280), (Value.int .i64 r281), (Value.int .i64 r282), (Value.int .i64 r283), (Value.int .i64 r284), (Value.int .i64 r285), (Value.int .i64 r286), (Value.bool r287), (Value.bool r288), (Value.slice r289.a r289.len r289.cap), (Value.slice r290.a r290.len r290.cap)] w293 a294 0 fun w295 =>
 Ld (.int .i64) w295 (a278.add 3) fun x296 =>
 St w295 (a278.add 3) (Value.int .i64 (IntKind.i64.wrap (x296 - 1))) fun w297 =>
 let J298 : Bool → World → Prop := fun j299 w300 =>
 (K j299 w300)
 (bif (r275 == 0) then
 (bif (r291 == 0) then
 Ld (.int .i64) w297 (a278.add 0) fun x301 =>
 Ld (.int .i64) w297 (a278.add 1) fun x302 =>
 Ld (.int .i64) w297 (a278.add 2) fun x303 =>
 Ld (.int .i64) w297 (a278.add 3) fun x304 =>
 Ld (.int .i64) w297 (a278.add 4) fun x305 =>
 Ld (.int .i64) w297 (a278.add 5) fun x306 =>
 Ld (.int .i64) w297 (a278.add 6) fun x307 =>
 Ld .bool w297 (a278.add 7) fun x308 =>
 Ld .bool w297 (a278.add 8) fun x309 =>
 Ld .slice w297 (a278.add 9) fun x310 =>
 Ld .slice w297 (a278.add 10) fun x311 =>
 Ld (.int .i64) w297 (a294.add 0) fun x312 =>
 Ld (.int .i64) w297 (a294.add 1) fun x313 =>
 Ld (.int .i64) w297 (a294.add 2) fun x314 =>
 Ld (.int .i64) w297 (a294.add 3) fun x315 =>
 Ld (.int .i64) w297 (a294.add 4) fun x316 =>
 Ld (.int .i64) w297 (a294.add 5) fun x317 =>
 Ld (.int .i64) w297 (a294.add 6) fun x318 =>
 Ld .bool w297 (a294.add 7) fun x319 =>
 Ld .bool w297 (a294.add 8) fun x320 =>
 Ld .slice w297 (a294.add 9) fun x321 =>
 Ld .slice w297 (a294.add 10) fun x322 =>
 c_ref05_Same x301 x302 x303 x304 x305 x306 x307 x308 x309 x310 x311 x312 x313 x314 x315 x316 x317 x318 x319 x320 x321 x322 w297 fun r323 w324 =>
 (bif r323 then
 c_law32_awake  w324 fun r325 w326 =>
 J298 r325 w326
 else
 J298 false w324)
 else
 J298 false w297)
 else
 J298 false w297))) (⟨none, 0, 0⟩, 0, ()) w95)))
 (bif (Option.isNone r85) then
 J88 true
 else
 J88 (r86 != 0))))
theorem e_law32_B4Sends (a0 : SliceV) (a1 : Int) (a2 : Int) (w : World) (K : Bool → World → Prop) : den Tryz.prog 144 (bodyOf Tryz.f3) none (.seq .leaf (.seq (.seq .leaf (.cond (.seq .leaf .leaf) .leaf)) (.seq .leaf (.seq .leaf (.seq .leaf (.seq (.seq .leaf (.cond (.seq .leaf .leaf) .leaf)) (.seq .leaf (.seq .leaf (.seq (.seq .leaf (.cond (.seq .leaf .leaf) .leaf)) (.seq .leaf (.seq (.seq .leaf (.blk (.loop [(14, .slice), (63, (.int .i64))] (.seq .leaf (.seq (.cond .leaf .leaf) (.seq (.blk (.seq .leaf (.seq .leaf (.seq (.seq .leaf (.cond (.seq .leaf .leaf) .leaf)) (.seq .leaf (.seq (.seq .leaf (.cond .leaf .leaf)) .leaf)))))) .leaf)))))) (.seq .leaf (.seq .leaf (.seq .leaf (.seq .leaf .leaf))))))))))))))) (argEnv 0 [(Value.slice a0.a a0.len a0.cap), (Value.int .u8 a1), (Value.int .u8 a2)]) [] w (retK Tryz.prog [.tmp 6] [.one .bool] K) = s_law32_B4Sends a0 a1 a2 w K := by kernel_rfl
theorem ok_law32_B4Sends {a0 a1 a2 w K} (h : s_law32_B4Sends a0 a1 a2 w K) : c_law32_B4Sends a0 a1 a2 w K :=
  fn_sound pok Tryz.func3 (fn := Tryz.f3) (c := bodyOf Tryz.f3) (nt := 144) (by kernel_rfl) (by kernel_rfl) (rs := [.tmp 6]) (by kernel_rfl) [.one .bool] K (.seq .leaf (.seq (.seq .leaf (.cond (.seq .leaf .leaf) .leaf)) (.seq .leaf (.seq .leaf (.seq .leaf (.seq (.seq .leaf (.cond (.seq .leaf .leaf) .leaf)) (.seq .leaf (.seq .leaf (.seq (.seq .leaf (.cond (.seq .leaf .leaf) .leaf)) (.seq .leaf (.seq (.seq .leaf (.blk (.loop [(14, .slice), (63, (.int .i64))] (.seq .leaf (.seq (.cond .leaf .leaf) (.seq (.blk (.seq .leaf (.seq .leaf (.seq (.seq .leaf (.cond (.seq .leaf .leaf) .leaf)) (.seq .leaf (.seq (.seq .leaf (.cond .leaf .leaf)) .leaf)))))) .leaf)))))) (.seq .leaf (.seq .leaf (.seq .leaf (.seq .leaf .leaf))))))))))))))) [(Value.slice a0.a a0.len a0.cap), (Value.int .u8 a1), (Value.int .u8 a2)] (by kernel_rfl) w ((e_law32_B4Sends a0 a1 a2 w K).mpr h)

/-- goosepond/goosepondlaw32.awake -/
def s_law32_awake  (w : World) (K : Bool → World → Prop) : Prop :=
 (c_law32_set  w fun r1 r2 r3 r4 r5 r6 r7 r8 r9 r10 r11 r12 r13 r14 r15 r16 r17 r18 r19 r20 r21 r22 r23 r24 r25 r26 r27 r28 r29 r30 r31 r32 r33 r34 r35 r36 r37 w38 =>
 c_b4_New r1 r2 r3 r4 r5 r6 r7 r8 r9 r10 r11 r12 r13 r14 r15 r16 r17 r18 r19 r20 r21 r22 r23 r24 r25 r26 r27 r28 r29 r30 r31 r32 r33 r34 r35 r36 r37 w38 fun r39 r40 w41 =>
 let J42 : Bool → Prop := fun j43 =>
 ((bif j43 then
 K false w41
 else
 c_plain_Datagram 167772161 3221225985 5 6 9 ⟨none, 0, 0⟩ w41 fun r44 w45 =>
 c_b4_B4_Host r39 r44 w45 fun r46 r47 r48 w49 =>
 c_plain_Datagram 167772161 3221225985 5 6 1 ⟨none, 0, 0⟩ w49 fun r50 w51 =>
 c_b4_B4_Host r39 r50 w51 fun r52 r53 r54 w55 =>
 let J56 : Bool → World → Prop := fun j57 w58 =>
 (K j57 w58)
 (bif ((r46.len : Int) == 1) then
 (bif ((r47.len : Int) == 0) then
 (bif (r48 == 0) then
 (bif ((r53.len : Int) == 1) then
 (bif (r54 == 3) then
 c_b4_Addr  w55 fun r59 w60 =>
 J56 (r59 == 3221225474) w60
 else
 J56 false w55)
 else
 J56 false w55)
 else
 J56 false w55)
 else
 J56 false w55)
 else
 J56 false w55)))
 (bif (Option.isNone r39) then
 J42 true
 else
 J42 (r40 != 0)))
theorem e_law32_awake  (w : World) (K : Bool → World → Prop) : den Tryz.prog 59 (bodyOf Tryz.f4) none (.seq .leaf (.seq .leaf (.seq (.seq .leaf (.cond (.seq .leaf .leaf) .leaf)) (.seq .leaf (.seq .leaf (.seq .leaf .leaf)))))) (argEnv 0 []) [] w (retK Tryz.prog [.tmp 0] [.one .bool] K) = s_law32_awake  w K := by kernel_rfl
theorem ok_law32_awake { w K} (h : s_law32_awake  w K) : c_law32_awake  w K :=
  fn_sound pok Tryz.func4 (fn := Tryz.f4) (c := bodyOf Tryz.f4) (nt := 59) (by kernel_rfl) (by kernel_rfl) (rs := [.tmp 0]) (by kernel_rfl) [.one .bool] K (.seq .leaf (.seq .leaf (.seq (.seq .leaf (.cond (.seq .leaf .leaf) .leaf)) (.seq .leaf (.seq .leaf (.seq .leaf .leaf)))))) [] (by kernel_rfl) w ((e_law32_awake  w K).mpr h)

/-- goosepond/goosepondlaw32.set -/
def s_law32_set  (w : World) (K : Int → Int → Int → Int → Int → Int → Int → Int → Int → Int → Int → Int → Int → Int → Int → Int → Int → Int → Int → Int → Int → Int → Int → Int → Int → Int → Int → Int → Int → Int → Int → Int → Int → Int → Int → Int → Int → World → Prop) : Prop :=
 (Al w (.cells ⟨((Value.int .u8 0) :: (Value.int .u8 0) :: (Value.int .u8 0) :: (Value.int .u8 0) :: (Value.int .u8 0) :: (Value.int .u8 0) :: (Value.int .u8 0) :: (Value.int .u8 0) :: (Value.int .u8 0) :: (Value.int .u8 0) :: (Value.int .u8 0) :: (Value.int .u8 0) :: (Value.int .u8 0) :: (Value.int .u8 0) :: (Value.int .u8 0) :: (Value.int .u8 0) :: (Value.int .u8 0) :: (Value.int .u8 0) :: (Value.int .u8 0) :: (Value.int .u8 0) :: (Value.int .u8 0) :: (Value.int .u8 0) :: (Value.int .u8 0) :: (Value.int .u8 0) :: (Value.int .u8 0) :: (Value.int .u8 0) :: (Value.int .u8 0) :: (Value.int .u8 0) :: (Value.int .u8 0) :: (Value.int .u8 0) :: (Value.int .u8 0) :: (Value.int .u8 0) :: (Value.int .i64 0) :: (Value.int .i64 0) :: (Value.int .i64 0) :: (Value.int .i64 0) :: (Value.int .i64 0) :: [])⟩ 27) fun a2 w1 =>
 StN ((Value.int .u8 32) :: (Value.int .u8 2) :: (Value.int .u8 0) :: (Value.int .u8 0) :: (Value.int .u8 0) :: (Value.int .u8 0) :: (Value.int .u8 0) :: (Value.int .u8 0) :: (Value.int .u8 0) :: (Value.int .u8 0) :: (Value.int .u8 0) :: (Value.int .u8 0) :: (Value.int .u8 0) :: (Value.int .u8 0) :: (Value.int .u8 0) :: (Value.int .u8 0) :: (Value.int .u8 32) :: (Value.int .u8 1) :: (Value.int .u8 0) :: (Value.int .u8 0) :: (Value.int .u8 0) :: (Value.int .u8 0) :: (Value.int .u8 0) :: (Value.int .u8 0) :: (Value.int .u8 0) :: (Value.int .u8 0) :: (Value.int .u8 0) :: (Value.int .u8 0) :: (Value.int .u8 0) :: (Value.int .u8 0) :: (Value.int .u8 0) :: (Value.int .u8 0) :: (Value.int .i64 1280) :: (Value.int .i64 64) :: (Value.int .i64 4) :: (Value.int .i64 10000) :: (Value.int .i64 60) :: []) w1 a2 0 fun w3 =>
 Ld (.int .u8) w3 (a2.add 0) fun y4 =>
 Ld (.int .u8) w3 (a2.add 1) fun y5 =>
 Ld (.int .u8) w3 (a2.add 2) fun y6 =>
 Ld (.int .u8) w3 (a2.add 3) fun y7 =>
 Ld (.int .u8) w3 (a2.add 4) fun y8 =>
 Ld (.int .u8) w3 (a2.add 5) fun y9 =>
 Ld (.int .u8) w3 (a2.add 6) fun y10 =>
 Ld (.int .u8) w3 (a2.add 7) fun y11 =>
 Ld (.int .u8) w3 (a2.add 8) fun y12 =>
 Ld (.int .u8) w3 (a2.add 9) fun y13 =>
 Ld (.int .u8) w3 (a2.add 10) fun y14 =>
 Ld (.int .u8) w3 (a2.add 11) fun y15 =>
 Ld (.int .u8) w3 (a2.add 12) fun y16 =>
 Ld (.int .u8) w3 (a2.add 13) fun y17 =>
 Ld (.int .u8) w3 (a2.add 14) fun y18 =>
 Ld (.int .u8) w3 (a2.add 15) fun y19 =>
 Ld (.int .u8) w3 (a2.add 16) fun y20 =>
 Ld (.int .u8) w3 (a2.add 17) fun y21 =>
 Ld (.int .u8) w3 (a2.add 18) fun y22 =>
 Ld (.int .u8) w3 (a2.add 19) fun y23 =>
 Ld (.int .u8) w3 (a2.add 20) fun y24 =>
 Ld (.int .u8) w3 (a2.add 21) fun y25 =>
 Ld (.int .u8) w3 (a2.add 22) fun y26 =>
 Ld (.int .u8) w3 (a2.add 23) fun y27 =>
 Ld (.int .u8) w3 (a2.add 24) fun y28 =>
 Ld (.int .u8) w3 (a2.add 25) fun y29 =>
 Ld (.int .u8) w3 (a2.add 26) fun y30 =>
 Ld (.int .u8) w3 (a2.add 27) fun y31 =>
 Ld (.int .u8) w3 (a2.add 28) fun y32 =>
 Ld (.int .u8) w3 (a2.add 29) fun y33 =>
 Ld (.int .u8) w3 (a2.add 30) fun y34 =>
 Ld (.int .u8) w3 (a2.add 31) fun y35 =>
 Ld (.int .i64) w3 (a2.add 32) fun y36 =>
 Ld (.int .i64) w3 (a2.add 33) fun y37 =>
 Ld (.int .i64) w3 (a2.add 34) fun y38 =>
 Ld (.int .i64) w3 (a2.add 35) fun y39 =>
 Ld (.int .i64) w3 (a2.add 36) fun y40 =>
 K y4 y5 y6 y7 y8 y9 y10 y11 y12 y13 y14 y15 y16 y17 y18 y19 y20 y21 y22 y23 y24 y25 y26 y27 y28 y29 y30 y31 y32 y33 y34 y35 y36 y37 y38 y39 y40 w3)
theorem e_law32_set  (w : World) (K : Int → Int → Int → Int → Int → Int → Int → Int → Int → Int → Int → Int → Int → Int → Int → Int → Int → Int → Int → Int → Int → Int → Int → Int → Int → Int → Int → Int → Int → Int → Int → Int → Int → Int → Int → Int → Int → World → Prop) : den Tryz.prog 4 (bodyOf Tryz.f5) none (.seq .leaf (.seq .leaf .leaf)) (argEnv 0 []) [] w (retK Tryz.prog [.cell 0 27] [.agg ((.int .u8) :: (.int .u8) :: (.int .u8) :: (.int .u8) :: (.int .u8) :: (.int .u8) :: (.int .u8) :: (.int .u8) :: (.int .u8) :: (.int .u8) :: (.int .u8) :: (.int .u8) :: (.int .u8) :: (.int .u8) :: (.int .u8) :: (.int .u8) :: (.int .u8) :: (.int .u8) :: (.int .u8) :: (.int .u8) :: (.int .u8) :: (.int .u8) :: (.int .u8) :: (.int .u8) :: (.int .u8) :: (.int .u8) :: (.int .u8) :: (.int .u8) :: (.int .u8) :: (.int .u8) :: (.int .u8) :: (.int .u8) :: (.int .i64) :: (.int .i64) :: (.int .i64) :: (.int .i64) :: (.int .i64) :: [])] K) = s_law32_set  w K := by kernel_rfl
theorem ok_law32_set { w K} (h : s_law32_set  w K) : c_law32_set  w K := by
  have t := fn_sound pok Tryz.func5 (fn := Tryz.f5) (c := bodyOf Tryz.f5) (nt := 4) (by kernel_rfl) (by kernel_rfl) (rs := [.cell 0 27]) (by kernel_rfl) [.agg ((.int .u8) :: (.int .u8) :: (.int .u8) :: (.int .u8) :: (.int .u8) :: (.int .u8) :: (.int .u8) :: (.int .u8) :: (.int .u8) :: (.int .u8) :: (.int .u8) :: (.int .u8) :: (.int .u8) :: (.int .u8) :: (.int .u8) :: (.int .u8) :: (.int .u8) :: (.int .u8) :: (.int .u8) :: (.int .u8) :: (.int .u8) :: (.int .u8) :: (.int .u8) :: (.int .u8) :: (.int .u8) :: (.int .u8) :: (.int .u8) :: (.int .u8) :: (.int .u8) :: (.int .u8) :: (.int .u8) :: (.int .u8) :: (.int .i64) :: (.int .i64) :: (.int .i64) :: (.int .i64) :: (.int .i64) :: [])] K (.seq .leaf (.seq .leaf .leaf)) [] (by kernel_rfl) w ((e_law32_set  w K).mpr h)
  exact Eq.mp (by kernel_rfl) t

/-- goosepond/b4.New -/
def s_b4_New (a0_0 : Int) (a0_1 : Int) (a0_2 : Int) (a0_3 : Int) (a0_4 : Int) (a0_5 : Int) (a0_6 : Int) (a0_7 : Int) (a0_8 : Int) (a0_9 : Int) (a0_10 : Int) (a0_11 : Int) (a0_12 : Int) (a0_13 : Int) (a0_14 : Int) (a0_15 : Int) (a0_16 : Int) (a0_17 : Int) (a0_18 : Int) (a0_19 : Int) (a0_20 : Int) (a0_21 : Int) (a0_22 : Int) (a0_23 : Int) (a0_24 : Int) (a0_25 : Int) (a0_26 : Int) (a0_27 : Int) (a0_28 : Int) (a0_29 : Int) (a0_30 : Int) (a0_31 : Int) (a0_32 : Int) (a0_33 : Int) (a0_34 : Int) (a0_35 : Int) (a0_36 : Int) (w : World) (K : (Option Addr) → Int → World → Prop) : Prop :=
 (Al w (.cells ⟨((Value.int .u8 a0_0) :: (Value.int .u8 a0_1) :: (Value.int .u8 a0_2) :: (Value.int .u8 a0_3) :: (Value.int .u8 a0_4) :: (Value.int .u8 a0_5) :: (Value.int .u8 a0_6) :: (Value.int .u8 a0_7) :: (Value.int .u8 a0_8) :: (Value.int .u8 a0_9) :: (Value.int .u8 a0_10) :: (Value.int .u8 a0_11) :: (Value.int .u8 a0_12) :: (Value.int .u8 a0_13) :: (Value.int .u8 a0_14) :: (Value.int .u8 a0_15) :: (Value.int .u8 a0_16) :: (Value.int .u8 a0_17) :: (Value.int .u8 a0_18) :: (Value.int .u8 a0_19) :: (Value.int .u8 a0_20) :: (Value.int .u8 a0_21) :: (Value.int .u8 a0_22) :: (Value.int .u8 a0_23) :: (Value.int .u8 a0_24) :: (Value.int .u8 a0_25) :: (Value.int .u8 a0_26) :: (Value.int .u8 a0_27) :: (Value.int .u8 a0_28) :: (Value.int .u8 a0_29) :: (Value.int .u8 a0_30) :: (Value.int .u8 a0_31) :: (Value.int .i64 a0_32) :: (Value.int .i64 a0_33) :: (Value.int .i64 a0_34) :: (Value.int .i64 a0_35) :: (Value.int .i64 a0_36) :: [])⟩ 27) fun a3 w2 =>
 Ld (.int .u8) w2 (a3.add 0) fun x4 =>
 Ld (.int .u8) w2 (a3.add 1) fun x5 =>
 Ld (.int .u8) w2 (a3.add 2) fun x6 =>
 Ld (.int .u8) w2 (a3.add 3) fun x7 =>
 Ld (.int .u8) w2 (a3.add 4) fun x8 =>
 Ld (.int .u8) w2 (a3.add 5) fun x9 =>
 Ld (.int .u8) w2 (a3.add 6) fun x10 =>
 Ld (.int .u8) w2 (a3.add 7) fun x11 =>
 Ld (.int .u8) w2 (a3.add 8) fun x12 =>
 Ld (.int .u8) w2 (a3.add 9) fun x13 =>
 Ld (.int .u8) w2 (a3.add 10) fun x14 =>
 Ld (.int .u8) w2 (a3.add 11) fun x15 =>
 Ld (.int .u8) w2 (a3.add 12) fun x16 =>
 Ld (.int .u8) w2 (a3.add 13) fun x17 =>
 Ld (.int .u8) w2 (a3.add 14) fun x18 =>
 Ld (.int .u8) w2 (a3.add 15) fun x19 =>
 Ld (.int .u8) w2 (a3.add 16) fun x20 =>
 Ld (.int .u8) w2 (a3.add 17) fun x21 =>
 Ld (.int .u8) w2 (a3.add 18) fun x22 =>
 Ld (.int .u8) w2 (a3.add 19) fun x23 =>
 Ld (.int .u8) w2 (a3.add 20) fun x24 =>
 Ld (.int .u8) w2 (a3.add 21) fun x25 =>
 Ld (.int .u8) w2 (a3.add 22) fun x26 =>
 Ld (.int .u8) w2 (a3.add 23) fun x27 =>
 Ld (.int .u8) w2 (a3.add 24) fun x28 =>
 Ld (.int .u8) w2 (a3.add 25) fun x29 =>
 Ld (.int .u8) w2 (a3.add 26) fun x30 =>
 Ld (.int .u8) w2 (a3.add 27) fun x31 =>
 Ld (.int .u8) w2 (a3.add 28) fun x32 =>
 Ld (.int .u8) w2 (a3.add 29) fun x33 =>
 Ld (.int .u8) w2 (a3.add 30) fun x34 =>
 Ld (.int .u8) w2 (a3.add 31) fun x35 =>
 Ld (.int .i64) w2 (a3.add 32) fun x36 =>
 Ld (.int .i64) w2 (a3.add 33) fun x37 =>
 Ld (.int .i64) w2 (a3.add 34) fun x38 =>
 Ld (.int .i64) w2 (a3.add 35) fun x39 =>
 Ld (.int .i64) w2 (a3.add 36) fun x40 =>
 c_b4_Setup_may x4 x5 x6 x7 x8 x9 x10 x11 x12 x13 x14 x15 x16 x17 x18 x19 x20 x21 x22 x23 x24 x25 x26 x27 x28 x29 x30 x31 x32 x33 x34 x35 x36 x37 x38 x39 x40 w2 fun r41 w42 =>
 (bif (!r41) then
 K none 1 w42
 else
 Ld (.int .i64) w42 (a3.add 34) fun x43 =>
 Ld (.int .i64) w42 (a3.add 35) fun x44 =>
 Ld (.int .i64) w42 (a3.add 36) fun x45 =>
 c_join_New x43 x44 x45 w42 fun r46 r47 w48 =>
 (bif (r47 != 0) then
 K none r47 w48
 else
 Ld (.int .u8) w48.drew (a3.add 0) fun x49 =>
 Ld (.int .u8) w48.drew (a3.add 1) fun x50 =>
 Ld (.int .u8) w48.drew (a3.add 2) fun x51 =>
 Ld (.int .u8) w48.drew (a3.add 3) fun x52 =>
 Ld (.int .u8) w48.drew (a3.add 4) fun x53 =>
 Ld (.int .u8) w48.drew (a3.add 5) fun x54 =>
 Ld (.int .u8) w48.drew (a3.add 6) fun x55 =>
 Ld (.int .u8) w48.drew (a3.add 7) fun x56 =>
 Ld (.int .u8) w48.drew (a3.add 8) fun x57 =>
 Ld (.int .u8) w48.drew (a3.add 9) fun x58 =>
 Ld (.int .u8) w48.drew (a3.add 10) fun x59 =>
 Ld (.int .u8) w48.drew (a3.add 11) fun x60 =>
 Ld (.int .u8) w48.drew (a3.add 12) fun x61 =>
 Ld (.int .u8) w48.drew (a3.add 13) fun x62 =>
 Ld (.int .u8) w48.drew (a3.add 14) fun x63 =>
 Ld (.int .u8) w48.drew (a3.add 15) fun x64 =>
 Ld (.int .u8) w48.drew (a3.add 16) fun x65 =>
 Ld (.int .u8) w48.drew (a3.add 17) fun x66 =>
 Ld (.int .u8) w48.drew (a3.add 18) fun x67 =>
 Ld (.int .u8) w48.drew (a3.add 19) fun x68 =>
 Ld (.int .u8) w48.drew (a3.add 20) fun x69 =>
 Ld (.int .u8) w48.drew (a3.add 21) fun x70 =>
 Ld (.int .u8) w48.drew (a3.add 22) fun x71 =>
 Ld (.int .u8) w48.drew (a3.add 23) fun x72 =>
 Ld (.int .u8) w48.drew (a3.add 24) fun x73 =>
 Ld (.int .u8) w48.drew (a3.add 25) fun x74 =>
 Ld (.int .u8) w48.drew (a3.add 26) fun x75 =>
 Ld (.int .u8) w48.drew (a3.add 27) fun x76 =>
 Ld (.int .u8) w48.drew (a3.add 28) fun x77 =>
 Ld (.int .u8) w48.drew (a3.add 29) fun x78 =>
 Ld (.int .u8) w48.drew (a3.add 30) fun x79 =>
 Ld (.int .u8) w48.drew (a3.add 31) fun x80 =>
 Ld (.int .i64) w48.drew (a3.add 32) fun x81 =>
 Ld (.int .i64) w48.drew (a3.add 33) fun x82 =>
 Ld (.int .i64) w48.drew (a3.add 34) fun x83 =>
 Ld (.int .i64) w48.drew (a3.add 35) fun x84 =>
 Ld (.int .i64) w48.drew (a3.add 36) fun x85 =>
 c_counts_New  w48.drew fun r86 w87 =>
 w87.cell? (a3.add 0) = some (Value.int .u8 x49) ∧
 w87.cell? (a3.add 1) = some (Value.int .u8 x50) ∧
 w87.cell? (a3.add 2) = some (Value.int .u8 x51) ∧
 w87.cell? (a3.add 3) = some (Value.int .u8 x52) ∧
 w87.cell? (a3.add 4) = some (Value.int .u8 x53) ∧
 w87.cell? (a3.add 5) = some (Value.int .u8 x54) ∧
 w87.cell? (a3.add 6) = some (Value.int .u8 x55) ∧
 w87.cell? (a3.add 7) = some (Value.int .u8 x56) ∧
 w87.cell? (a3.add 8) = some (Value.int .u8 x57) ∧
 w87.cell? (a3.add 9) = some (Value.int .u8 x58) ∧
 w87.cell? (a3.add 10) = some (Value.int .u8 x59) ∧
 w87.cell? (a3.add 11) = some (Value.int .u8 x60) ∧
 w87.cell? (a3.add 12) = some (Value.int .u8 x61) ∧
 w87.cell? (a3.add 13) = some (Value.int .u8 x62) ∧
 w87.cell? (a3.add 14) = some (Value.int .u8 x63) ∧
 w87.cell? (a3.add 15) = some (Value.int .u8 x64) ∧
 w87.cell? (a3.add 16) = some (Value.int .u8 x65) ∧
 w87.cell? (a3.add 17) = some (Value.int .u8 x66) ∧
 w87.cell? (a3.add 18) = some (Value.int .u8 x67) ∧
 w87.cell? (a3.add 19) = some (Value.int .u8 x68) ∧
 w87.cell? (a3.add 20) = some (Value.int .u8 x69) ∧
 w87.cell? (a3.add 21) = some (Value.int .u8 x70) ∧
 w87.cell? (a3.add 22) = some (Value.int .u8 x71) ∧
 w87.cell? (a3.add 23) = some (Value.int .u8 x72) ∧
 w87.cell? (a3.add 24) = some (Value.int .u8 x73) ∧
 w87.cell? (a3.add 25) = some (Value.int .u8 x74) ∧
 w87.cell? (a3.add 26) = some (Value.int .u8 x75) ∧
 w87.cell? (a3.add 27) = some (Value.int .u8 x76) ∧
 w87.cell? (a3.add 28) = some (Value.int .u8 x77) ∧
 w87.cell? (a3.add 29) = some (Value.int .u8 x78) ∧
 w87.cell? (a3.add 30) = some (Value.int .u8 x79) ∧
 w87.cell? (a3.add 31) = some (Value.int .u8 x80) ∧
 w87.cell? (a3.add 32) = some (Value.int .i64 x81) ∧
 w87.cell? (a3.add 33) = some (Value.int .i64 x82) ∧
 w87.cell? (a3.add 34) = some (Value.int .i64 x83) ∧
 w87.cell? (a3.add 35) = some (Value.int .i64 x84) ∧
 w87.cell? (a3.add 36) = some (Value.int .i64 x85) ∧
 Al w87 (.cells ⟨((Value.int .u8 x49) :: (Value.int .u8 x50) :: (Value.int .u8 x51) :: (Value.int .u8 x52) :: (Value.int .u8 x53) :: (Value.int .u8 x54) :: (Value.int .u8 x55) :: (Value.int .u8 x56) :: (Value.int .u8 x57) :: (Value.int .u8 x58) :: (Value.int .u8 x59) :: (Value.int .u8 x60) :: (Value.int .u8 x61) :: (Value.int .u8 x62) :: (Value.int .u8 x63) :: (Value.int .u8 x64) :: (Value.int .u8 x65) :: (Value.int .u8 x66) :: (Value.int .u8 x67) :: (Value.int .u8 x68) :: (Value.int .u8 x69) :: (Value.int .u8 x70) :: (Value.int .u8 x71) :: (Value.int .u8 x72) :: (Value.int .u8 x73) :: (Value.int .u8 x74) :: (Value.int .u8 x75) :: (Value.int .u8 x76) :: (Value.int .u8 x77) :: (Value.int .u8 x78) :: (Value.int .u8 x79) :: (Value.int .u8 x80) :: (Value.int .i64 x81) :: (Value.int .i64 x82) :: (Value.int .i64 x83) :: (Value.int .i64 x84) :: (Value.int .i64 x85) :: (Value.pointer r46) :: (Value.pointer r86) :: (Value.int .i64 0) :: (Value.int .i64 1) :: [])⟩ 58) fun a89 w88 =>
 K (some a89) 0 w88)))
theorem e_b4_New (a0_0 : Int) (a0_1 : Int) (a0_2 : Int) (a0_3 : Int) (a0_4 : Int) (a0_5 : Int) (a0_6 : Int) (a0_7 : Int) (a0_8 : Int) (a0_9 : Int) (a0_10 : Int) (a0_11 : Int) (a0_12 : Int) (a0_13 : Int) (a0_14 : Int) (a0_15 : Int) (a0_16 : Int) (a0_17 : Int) (a0_18 : Int) (a0_19 : Int) (a0_20 : Int) (a0_21 : Int) (a0_22 : Int) (a0_23 : Int) (a0_24 : Int) (a0_25 : Int) (a0_26 : Int) (a0_27 : Int) (a0_28 : Int) (a0_29 : Int) (a0_30 : Int) (a0_31 : Int) (a0_32 : Int) (a0_33 : Int) (a0_34 : Int) (a0_35 : Int) (a0_36 : Int) (w : World) (K : (Option Addr) → Int → World → Prop) : den Tryz.prog 27 (bodyOf Tryz.f6) none (.seq .leaf (.seq (.seq .leaf (.cond (.seq .leaf .leaf) .leaf)) (.seq .leaf (.seq (.seq .leaf (.cond (.seq .leaf .leaf) .leaf)) (.seq .leaf .leaf))))) (argEnv 0 [(Value.agg ⟨((Value.int .u8 a0_0) :: (Value.int .u8 a0_1) :: (Value.int .u8 a0_2) :: (Value.int .u8 a0_3) :: (Value.int .u8 a0_4) :: (Value.int .u8 a0_5) :: (Value.int .u8 a0_6) :: (Value.int .u8 a0_7) :: (Value.int .u8 a0_8) :: (Value.int .u8 a0_9) :: (Value.int .u8 a0_10) :: (Value.int .u8 a0_11) :: (Value.int .u8 a0_12) :: (Value.int .u8 a0_13) :: (Value.int .u8 a0_14) :: (Value.int .u8 a0_15) :: (Value.int .u8 a0_16) :: (Value.int .u8 a0_17) :: (Value.int .u8 a0_18) :: (Value.int .u8 a0_19) :: (Value.int .u8 a0_20) :: (Value.int .u8 a0_21) :: (Value.int .u8 a0_22) :: (Value.int .u8 a0_23) :: (Value.int .u8 a0_24) :: (Value.int .u8 a0_25) :: (Value.int .u8 a0_26) :: (Value.int .u8 a0_27) :: (Value.int .u8 a0_28) :: (Value.int .u8 a0_29) :: (Value.int .u8 a0_30) :: (Value.int .u8 a0_31) :: (Value.int .i64 a0_32) :: (Value.int .i64 a0_33) :: (Value.int .i64 a0_34) :: (Value.int .i64 a0_35) :: (Value.int .i64 a0_36) :: [])⟩)]) [] w (retK Tryz.prog [.tmp 2, .tmp 3] [.one .ptr, .one (.int .i64)] K) = s_b4_New a0_0 a0_1 a0_2 a0_3 a0_4 a0_5 a0_6 a0_7 a0_8 a0_9 a0_10 a0_11 a0_12 a0_13 a0_14 a0_15 a0_16 a0_17 a0_18 a0_19 a0_20 a0_21 a0_22 a0_23 a0_24 a0_25 a0_26 a0_27 a0_28 a0_29 a0_30 a0_31 a0_32 a0_33 a0_34 a0_35 a0_36 w K := by kernel_rfl
theorem ok_b4_New {a0_0 a0_1 a0_2 a0_3 a0_4 a0_5 a0_6 a0_7 a0_8 a0_9 a0_10 a0_11 a0_12 a0_13 a0_14 a0_15 a0_16 a0_17 a0_18 a0_19 a0_20 a0_21 a0_22 a0_23 a0_24 a0_25 a0_26 a0_27 a0_28 a0_29 a0_30 a0_31 a0_32 a0_33 a0_34 a0_35 a0_36 w K} (h : s_b4_New a0_0 a0_1 a0_2 a0_3 a0_4 a0_5 a0_6 a0_7 a0_8 a0_9 a0_10 a0_11 a0_12 a0_13 a0_14 a0_15 a0_16 a0_17 a0_18 a0_19 a0_20 a0_21 a0_22 a0_23 a0_24 a0_25 a0_26 a0_27 a0_28 a0_29 a0_30 a0_31 a0_32 a0_33 a0_34 a0_35 a0_36 w K) : c_b4_New a0_0 a0_1 a0_2 a0_3 a0_4 a0_5 a0_6 a0_7 a0_8 a0_9 a0_10 a0_11 a0_12 a0_13 a0_14 a0_15 a0_16 a0_17 a0_18 a0_19 a0_20 a0_21 a0_22 a0_23 a0_24 a0_25 a0_26 a0_27 a0_28 a0_29 a0_30 a0_31 a0_32 a0_33 a0_34 a0_35 a0_36 w K :=
  fn_sound pok Tryz.func6 (fn := Tryz.f6) (c := bodyOf Tryz.f6) (nt := 27) (by kernel_rfl) (by kernel_rfl) (rs := [.tmp 2, .tmp 3]) (by kernel_rfl) [.one .ptr, .one (.int .i64)] K (.seq .leaf (.seq (.seq .leaf (.cond (.seq .leaf .leaf) .leaf)) (.seq .leaf (.seq (.seq .leaf (.cond (.seq .leaf .leaf) .leaf)) (.seq .leaf .leaf))))) [(Value.agg ⟨((Value.int .u8 a0_0) :: (Value.int .u8 a0_1) :: (Value.int .u8 a0_2) :: (Value.int .u8 a0_3) :: (Value.int .u8 a0_4) :: (Value.int .u8 a0_5) :: (Value.int .u8 a0_6) :: (Value.int .u8 a0_7) :: (Value.int .u8 a0_8) :: (Value.int .u8 a0_9) :: (Value.int .u8 a0_10) :: (Value.int .u8 a0_11) :: (Value.int .u8 a0_12) :: (Value.int .u8 a0_13) :: (Value.int .u8 a0_14) :: (Value.int .u8 a0_15) :: (Value.int .u8 a0_16) :: (Value.int .u8 a0_17) :: (Value.int .u8 a0_18) :: (Value.int .u8 a0_19) :: (Value.int .u8 a0_20) :: (Value.int .u8 a0_21) :: (Value.int .u8 a0_22) :: (Value.int .u8 a0_23) :: (Value.int .u8 a0_24) :: (Value.int .u8 a0_25) :: (Value.int .u8 a0_26) :: (Value.int .u8 a0_27) :: (Value.int .u8 a0_28) :: (Value.int .u8 a0_29) :: (Value.int .u8 a0_30) :: (Value.int .u8 a0_31) :: (Value.int .i64 a0_32) :: (Value.int .i64 a0_33) :: (Value.int .i64 a0_34) :: (Value.int .i64 a0_35) :: (Value.int .i64 a0_36) :: [])⟩)] (by kernel_rfl) w ((e_b4_New a0_0 a0_1 a0_2 a0_3 a0_4 a0_5 a0_6 a0_7 a0_8 a0_9 a0_10 a0_11 a0_12 a0_13 a0_14 a0_15 a0_16 a0_17 a0_18 a0_19 a0_20 a0_21 a0_22 a0_23 a0_24 a0_25 a0_26 a0_27 a0_28 a0_29 a0_30 a0_31 a0_32 a0_33 a0_34 a0_35 a0_36 w K).mpr h)

/-- (*goosepond/b4.B4).Host -/
def s_b4_B4_Host (a0 : Option Addr) (a1 : SliceV) (w : World) (K : SliceV → SliceV → Int → World → Prop) : Prop :=
 (c_b4_B4_ready a0 w fun r3 w4 =>
 (bif (!r3) then
 K ⟨none, 0, 0⟩ ⟨none, 0, 0⟩ 1 w4
 else
 c_v4_Parse a1 w4 fun r5 r6 r7 r8 r9 r10 r11 r12 r13 r14 r15 r16 w17 =>
 Al w17 (.cells ⟨[(Value.int .i64 0), (Value.int .i64 0), (Value.int .i64 0), (Value.int .i64 0), (Value.int .i64 0), (Value.int .i64 0), (Value.int .i64 0), (Value.bool false), (Value.bool false), (Value.slice none 0 0), (Value.slice none 0 0)]⟩ 46) fun a19 w18 =>
 StN [(Value.int .i64 r5), (Value.int .i64 r6), (Value.int .i64 r7), (Value.int .i64 r8), (Value.int .i64 r9), (Value.int .i64 r10), (Value.int .i64 r11), (Value.bool r12), (Value.bool r13), (Value.slice r14.a r14.len r14.cap), (Value.slice r15.a r15.len r15.cap)] w18 a19 0 fun w20 =>
 (bif (r16 != 0) then
 c_b4_B4_drop a0 1 w20 fun r21 w22 =>
 K ⟨none, 0, 0⟩ ⟨none, 0, 0⟩ r21 w22
 else
 Ld (.int .i64) w20 (a19.add 5) fun x23 =>
 c_four_Host x23 w20 fun r24 w25 =>
 (bif (!r24) then
 c_b4_B4_drop a0 2 w25 fun r26 w27 =>
 K ⟨none, 0, 0⟩ ⟨none, 0, 0⟩ r26 w27
 else
 Ld (.int .i64) w25 (a19.add 0) fun x28 =>
 Ld (.int .i64) w25 (a19.add 1) fun x29 =>
 Ld (.int .i64) w25 (a19.add 2) fun x30 =>
 Ld (.int .i64) w25 (a19.add 3) fun x31 =>
 Ld (.int .i64) w25 (a19.add 4) fun x32 =>
 Ld (.int .i64) w25 (a19.add 5) fun x33 =>
 Ld (.int .i64) w25 (a19.add 6) fun x34 =>
 Ld .bool w25 (a19.add 7) fun x35 =>
 Ld .bool w25 (a19.add 8) fun x36 =>
 Ld .slice w25 (a19.add 9) fun x37 =>
 Ld .slice w25 (a19.add 10) fun x38 =>
 c_wrap_Hop x28 x29 x30 x31 x32 x33 x34 x35 x36 x37 x38 w25 fun r39 r40 r41 r42 r43 r44 r45 r46 r47 r48 r49 r50 w51 =>
 Al w51 (.cells ⟨[(Value.int .i64 0), (Value.int .i64 0), (Value.int .i64 0), (Value.int .i64 0), (Value.int .i64 0), (Value.int .i64 0), (Value.int .i64 0), (Value.bool false), (Value.bool false), (Value.slice none 0 0), (Value.slice none 0 0)]⟩ 46) fun a53 w52 =>
 StN [(Value.int .i64 r39), (Value.int .i64 r40), (Value.int .i64 r41), (Value.int .i64 r42), (Value.int .i64 r43), (Value.int .i64 r44), (Value.int .i64 r45), (Value.bool r46), (Value.bool r47), (Value.slice r48.a r48.len r48.cap), (Value.slice r49.a r49.len r49.cap)] w52 a53 0 fun w54 =>
 (bif (!r50) then
 Ld (.int .i64) w54 (a19.add 0) fun x55 =>
 Ld (.int .i64) w54 (a19.add 1) fun x56 =>
 Ld (.int .i64) w54 (a19.add 2) fun x57 =>
 Ld (.int .i64) w54 (a19.add 3) fun x58 =>
 Ld (.int .i64) w54 (a19.add 4) fun x59 =>
 Ld (.int .i64) w54 (a19.add 5) fun x60 =>
 Ld (.int .i64) w54 (a19.add 6) fun x61 =>
 Ld .bool w54 (a19.add 7) fun x62 =>
 Ld .bool w54 (a19.add 8) fun x63 =>
 Ld .slice w54 (a19.add 9) fun x64 =>
 Ld .slice w54 (a19.add 10) fun x65 =>
 c_b4_over x55 x56 x57 x58 x59 x60 x61 x62 x63 x64 x65 w54 fun r66 w67 =>
 c_b4_B4_drop a0 3 w67 fun r68 w69 =>
 K ⟨none, 0, 0⟩ r66 r68 w69
 else
 Ld (.int .i64) w54 (a53.add 0) fun x70 =>
 Ld (.int .i64) w54 (a53.add 1) fun x71 =>
 Ld (.int .i64) w54 (a53.add 2) fun x72 =>
 Ld (.int .i64) w54 (a53.add 3) fun x73 =>
 Ld (.int .i64) w54 (a53.add 4) fun x74 =>
 Ld (.int .i64) w54 (a53.add 5) fun x75 =>
 Ld (.int .i64) w54 (a53.add 6) fun x76 =>
 Ld .bool w54 (a53.add 7) fun x77 =>
 Ld .bool w54 (a53.add 8) fun x78 =>
 Ld .slice w54 (a53.add 9) fun x79 =>
 Ld .slice w54 (a53.add 10) fun x80 =>
 c_v4_Build x70 x71 x72 x73 x74 x75 x76 x77 x78 x79 x80 w54 fun r81 r82 w83 =>
 let J84 : Int → Addr → World → Prop := fun j85 j86 w87 =>
 ((bif (j85 != 0) then
 c_b4_B4_drop a0 11 w87 fun r88 w89 =>
 K ⟨none, 0, 0⟩ ⟨none, 0, 0⟩ r88 w89
 else
 Ld (.int .i64) w87 (j86.add 0) fun x90 =>
 Ld (.int .i64) w87 (j86.add 1) fun x91 =>
 Ld (.int .i64) w87 (j86.add 2) fun x92 =>
 Ld (.int .i64) w87 (j86.add 3) fun x93 =>
 Ld (.int .u8) w87 (j86.add 4) fun x94 =>
 Ld (.int .u8) w87 (j86.add 5) fun x95 =>
 Ld (.int .u8) w87 (j86.add 6) fun x96 =>
 Ld (.int .u8) w87 (j86.add 7) fun x97 =>
 Ld (.int .u8) w87 (j86.add 8) fun x98 =>
 Ld (.int .u8) w87 (j86.add 9) fun x99 =>
 Ld (.int .u8) w87 (j86.add 10) fun x100 =>
 Ld (.int .u8) w87 (j86.add 11) fun x101 =>
 Ld (.int .u8) w87 (j86.add 12) fun x102 =>
 Ld (.int .u8) w87 (j86.add 13) fun x103 =>
 Ld (.int .u8) w87 (j86.add 14) fun x104 =>
 Ld (.int .u8) w87 (j86.add 15) fun x105 =>
 Ld (.int .u8) w87 (j86.add 16) fun x106 =>
 Ld (.int .u8) w87 (j86.add 17) fun x107 =>
 Ld (.int .u8) w87 (j86.add 18) fun x108 =>
 Ld (.int .u8) w87 (j86.add 19) fun x109 =>
 Ld (.int .u8) w87 (j86.add 20) fun x110 =>
 Ld (.int .u8) w87 (j86.add 21) fun x111 =>
 Ld (.int .u8) w87 (j86.add 22) fun x112 =>
 Ld (.int .u8) w87 (j86.add 23) fun x113 =>
 Ld (.int .u8) w87 (j86.add 24) fun x114 =>
 Ld (.int .u8) w87 (j86.add 25) fun x115 =>
 Ld (.int .u8) w87 (j86.add 26) fun x116 =>
 Ld (.int .u8) w87 (j86.add 27) fun x117 =>
 Ld (.int .u8) w87 (j86.add 28) fun x118 =>
 Ld (.int .u8) w87 (j86.add 29) fun x119 =>
 Ld (.int .u8) w87 (j86.add 30) fun x120 =>
 Ld (.int .u8) w87 (j86.add 31) fun x121 =>
 Ld (.int .u8) w87 (j86.add 32) fun x122 =>
 Ld (.int .u8) w87 (j86.add 33) fun x123 =>
 Ld (.int .u8) w87 (j86.add 34) fun x124 =>
 Ld (.int .u8) w87 (j86.add 35) fun x125 =>
 Ld .slice w87 (j86.add 36) fun x126 =>
 c_b4_B4_cut a0 x90 x91 x92 x93 x94 x95 x96 x97 x98 x99 x100 x101 x102 x103 x104 x105 x106 x107 x108 x109 x110 x111 x112 x113 x114 x115 x116 x117 x118 x119 x120 x121 x122 x123 x124 x125 x126 w87 fun r127 r128 w129 =>
 (bif (r128 != 0) then
 c_b4_B4_drop a0 11 w129 fun r130 w131 =>
 K ⟨none, 0, 0⟩ ⟨none, 0, 0⟩ r130 w131
 else
 K r127 ⟨none, 0, 0⟩ 0 w129)))
 ∃ a132 : Addr, a0 = some a132 ∧
 Ld (.int .u8) w83.drew (a132.add 0) fun x133 =>
 Ld (.int .u8) w83.drew (a132.add 1) fun x134 =>
 Ld (.int .u8) w83.drew (a132.add 2) fun x135 =>
 Ld (.int .u8) w83.drew (a132.add 3) fun x136 =>
 Ld (.int .u8) w83.drew (a132.add 4) fun x137 =>
 Ld (.int .u8) w83.drew (a132.add 5) fun x138 =>
 Ld (.int .u8) w83.drew (a132.add 6) fun x139 =>
 Ld (.int .u8) w83.drew (a132.add 7) fun x140 =>
 Ld (.int .u8) w83.drew (a132.add 8) fun x141 =>
 Ld (.int .u8) w83.drew (a132.add 9) fun x142 =>
 Ld (.int .u8) w83.drew (a132.add 10) fun x143 =>
 Ld (.int .u8) w83.drew (a132.add 11) fun x144 =>
 Ld (.int .u8) w83.drew (a132.add 12) fun x145 =>
 Ld (.int .u8) w83.drew (a132.add 13) fun x146 =>
 Ld (.int .u8) w83.drew (a132.add 14) fun x147 =>
 Ld (.int .u8) w83.drew (a132.add 15) fun x148 =>
 ∃ a149 : Addr, a0 = some a149 ∧
 Ld (.int .u8) w83.drew ((a149.add 16).add 0) fun x150 =>
 Ld (.int .u8) w83.drew ((a149.add 16).add 1) fun x151 =>
 Ld (.int .u8) w83.drew ((a149.add 16).add 2) fun x152 =>
 Ld (.int .u8) w83.drew ((a149.add 16).add 3) fun x153 =>
 Ld (.int .u8) w83.drew ((a149.add 16).add 4) fun x154 =>
 Ld (.int .u8) w83.drew ((a149.add 16).add 5) fun x155 =>
 Ld (.int .u8) w83.drew ((a149.add 16).add 6) fun x156 =>
 Ld (.int .u8) w83.drew ((a149.add 16).add 7) fun x157 =>
 Ld (.int .u8) w83.drew ((a149.add 16).add 8) fun x158 =>
 Ld (.int .u8) w83.drew ((a149.add 16).add 9) fun x159 =>
 Ld (.int .u8) w83.drew ((a149.add 16).add 10) fun x160 =>
 Ld (.int .u8) w83.drew ((a149.add 16).add 11) fun x161 =>
 Ld (.int .u8) w83.drew ((a149.add 16).add 12) fun x162 =>
 Ld (.int .u8) w83.drew ((a149.add 16).add 13) fun x163 =>
 Ld (.int .u8) w83.drew ((a149.add 16).add 14) fun x164 =>
 Ld (.int .u8) w83.drew ((a149.add 16).add 15) fun x165 =>
 ∃ a166 : Addr, a0 = some a166 ∧
 Ld (.int .i64) w83.drew (a166.add 33) fun x167 =>
 (c_wrap_Wrap x133 x134 x135 x136 x137 x138 x139 x140 x141 x142 x143 x144 x145 x146 x147 x148 x150 x151 x152 x153 x154 x155 x156 x157 x158 x159 x160 x161 x162 x163 x164 x165 x167 r81 w83.drew fun r168 r169 r170 r171 r172 r173 r174 r175 r176 r177 r178 r179 r180 r181 r182 r183 r184 r185 r186 r187 r188 r189 r190 r191 r192 r193 r194 r195 r196 r197 r198 r199 r200 r201 r202 r203 r204 r205 w206 =>
 Al w206 (.cells ⟨((Value.int .i64 0) :: (Value.int .i64 0) :: (Value.int .i64 0) :: (Value.int .i64 0) :: (Value.int .u8 0) :: (Value.int .u8 0) :: (Value.int .u8 0) :: (Value.int .u8 0) :: (Value.int .u8 0) :: (Value.int .u8 0) :: (Value.int .u8 0) :: (Value.int .u8 0) :: (Value.int .u8 0) :: (Value.int .u8 0) :: (Value.int .u8 0) :: (Value.int .u8 0) :: (Value.int .u8 0) :: (Value.int .u8 0) :: (Value.int .u8 0) :: (Value.int .u8 0) :: (Value.int .u8 0) :: (Value.int .u8 0) :: (Value.int .u8 0) :: (Value.int .u8 0) :: (Value.int .u8 0) :: (Value.int .u8 0) :: (Value.int .u8 0) :: (Value.int .u8 0) :: (Value.int .u8 0) :: (Value.int .u8 0) :: (Value.int .u8 0) :: (Value.int .u8 0) :: (Value.int .u8 0) :: (Value.int .u8 0) :: (Value.int .u8 0) :: (Value.int .u8 0) :: (Value.slice none 0 0) :: [])⟩ 38) fun a208 w207 =>
 w207.cell? (a166.add 33) = some (Value.int .i64 x167) ∧
 w207.cell? ((a149.add 16).add 0) = some (Value.int .u8 x150) ∧
 w207.cell? ((a149.add 16).add 1) = some (Value.int .u8 x151) ∧
 w207.cell? ((a149.add 16).add 2) = some (Value.int .u8 x152) ∧
 w207.cell? ((a149.add 16).add 3) = some (Value.int .u8 x153) ∧
 w207.cell? ((a149.add 16).add 4) = some (Value.int .u8 x154) ∧
 w207.cell? ((a149.add 16).add 5) = some (Value.int .u8 x155) ∧
 w207.cell? ((a149.add 16).add 6) = some (Value.int .u8 x156) ∧
 w207.cell? ((a149.add 16).add 7) = some (Value.int .u8 x157) ∧
 w207.cell? ((a149.add 16).add 8) = some (Value.int .u8 x158) ∧
 w207.cell? ((a149.add 16).add 9) = some (Value.int .u8 x159) ∧
 w207.cell? ((a149.add 16).add 10) = some (Value.int .u8 x160) ∧
 w207.cell? ((a149.add 16).add 11) = some (Value.int .u8 x161) ∧
 w207.cell? ((a149.add 16).add 12) = some (Value.int .u8 x162) ∧
 w207.cell? ((a149.add 16).add 13) = some (Value.int .u8 x163) ∧
 w207.cell? ((a149.add 16).add 14) = some (Value.int .u8 x164) ∧
 w207.cell? ((a149.add 16).add 15) = some (Value.int .u8 x165) ∧
 w207.cell? (a132.add 0) = some (Value.int .u8 x133) ∧
 w207.cell? (a132.add 1) = some (Value.int .u8 x134) ∧
 w207.cell? (a132.add 2) = some (Value.int .u8 x135) ∧
 w207.cell? (a132.add 3) = some (Value.int .u8 x136) ∧
 w207.cell? (a132.add 4) = some (Value.int .u8 x137) ∧
 w207.cell? (a132.add 5) = some (Value.int .u8 x138) ∧
 w207.cell? (a132.add 6) = some (Value.int .u8 x139) ∧
 w207.cell? (a132.add 7) = some (Value.int .u8 x140) ∧
 w207.cell? (a132.add 8) = some (Value.int .u8 x141) ∧
 w207.cell? (a132.add 9) = some (Value.int .u8 x142) ∧
 w207.cell? (a132.add 10) = some (Value.int .u8 x143) ∧
 w207.cell? (a132.add 11) = some (Value.int .u8 x144) ∧
 w207.cell? (a132.add 12) = some (Value.int .u8 x145) ∧
 w207.cell? (a132.add 13) = some (Value.int .u8 x146) ∧
 w207.cell? (a132.add 14) = some (Value.int .u8 x147) ∧
 w207.cell? (a132.add 15) = some (Value.int .u8 x148) ∧
 StN ((Value.int .i64 r168) :: (Value.int .i64 r169) :: (Value.int .i64 r170) :: (Value.int .i64 r171) :: (Value.int .u8 r172) :: (Value.int .u8 r173) :: (Value.int .u8 r174) :: (Value.int .u8 r175) :: (Value.int .u8 r176) :: (Value.int .u8 r177) :: (Value.int .u8 r178) :: (Value.int .u8 r179) :: (Value.int .u8 r180) :: (Value.int .u8 r181) :: (Value.int .u8 r182) :: (Value.int .u8 r183) :: (Value.int .u8 r184) :: (Value.int .u8 r185) :: (Value.int .u8 r186) :: (Value.int .u8 r187) :: (Value.int .u8 r188) :: (Value.int .u8 r189) :: (Value.int .u8 r190) :: (Value.int .u8 r191) :: (Value.int .u8 r192) :: (Value.int .u8 r193) :: (Value.int .u8 r194) :: (Value.int .u8 r195) :: (Value.int .u8 r196) :: (Value.int .u8 r197) :: (Value.int .u8 r198) :: (Value.int .u8 r199) :: (Value.int .u8 r200) :: (Value.int .u8 r201) :: (Value.int .u8 r202) :: (Value.int .u8 r203) :: (Value.slice r204.a r204.len r204.cap) :: []) w207 a208 0 fun w209 =>
 J84 r205 a208 w209) ∧
 (Al w83.drew (.cells ⟨((Value.int .i64 0) :: (Value.int .i64 0) :: (Value.int .i64 0) :: (Value.int .i64 0) :: (Value.int .u8 0) :: (Value.int .u8 0) :: (Value.int .u8 0) :: (Value.int .u8 0) :: (Value.int .u8 0) :: (Value.int .u8 0) :: (Value.int .u8 0) :: (Value.int .u8 0) :: (Value.int .u8 0) :: (Value.int .u8 0) :: (Value.int .u8 0) :: (Value.int .u8 0) :: (Value.int .u8 0) :: (Value.int .u8 0) :: (Value.int .u8 0) :: (Value.int .u8 0) :: (Value.int .u8 0) :: (Value.int .u8 0) :: (Value.int .u8 0) :: (Value.int .u8 0) :: (Value.int .u8 0) :: (Value.int .u8 0) :: (Value.int .u8 0) :: (Value.int .u8 0) :: (Value.int .u8 0) :: (Value.int .u8 0) :: (Value.int .u8 0) :: (Value.int .u8 0) :: (Value.int .u8 0) :: (Value.int .u8 0) :: (Value.int .u8 0) :: (Value.int .u8 0) :: (Value.slice none 0 0) :: [])⟩ 38) fun a211 w210 =>
 w210.cell? (a166.add 33) = some (Value.int .i64 x167) ∧
 w210.cell? ((a149.add 16).add 0) = some (Value.int .u8 x150) ∧
 w210.cell? ((a149.add 16).add 1) = some (Value.int .u8 x151) ∧
 w210.cell? ((a149.add 16).add 2) = some (Value.int .u8 x152) ∧
 w210.cell? ((a149.add 16).add 3) = some (Value.int .u8 x153) ∧
 w210.cell? ((a149.add 16).add 4) = some (Value.int .u8 x154) ∧
 w210.cell? ((a149.add 16).add 5) = some (Value.int .u8 x155) ∧
 w210.cell? ((a149.add 16).add 6) = some (Value.int .u8 x156) ∧
 w210.cell? ((a149.add 16).add 7) = some (Value.int .u8 x157) ∧
 w210.cell? ((a149.add 16).add 8) = some (Value.int .u8 x158) ∧
 w210.cell? ((a149.add 16).add 9) = some (Value.int .u8 x159) ∧
 w210.cell? ((a149.add 16).add 10) = some (Value.int .u8 x160) ∧
 w210.cell? ((a149.add 16).add 11) = some (Value.int .u8 x161) ∧
 w210.cell? ((a149.add 16).add 12) = some (Value.int .u8 x162) ∧
 w210.cell? ((a149.add 16).add 13) = some (Value.int .u8 x163) ∧
 w210.cell? ((a149.add 16).add 14) = some (Value.int .u8 x164) ∧
 w210.cell? ((a149.add 16).add 15) = some (Value.int .u8 x165) ∧
 w210.cell? (a132.add 0) = some (Value.int .u8 x133) ∧
 w210.cell? (a132.add 1) = some (Value.int .u8 x134) ∧
 w210.cell? (a132.add 2) = some (Value.int .u8 x135) ∧
 w210.cell? (a132.add 3) = some (Value.int .u8 x136) ∧
 w210.cell? (a132.add 4) = some (Value.int .u8 x137) ∧
 w210.cell? (a132.add 5) = some (Value.int .u8 x138) ∧
 w210.cell? (a132.add 6) = some (Value.int .u8 x139) ∧
 w210.cell? (a132.add 7) = some (Value.int .u8 x140) ∧
 w210.cell? (a132.add 8) = some (Value.int .u8 x141) ∧
 w210.cell? (a132.add 9) = some (Value.int .u8 x142) ∧
 w210.cell? (a132.add 10) = some (Value.int .u8 x143) ∧
 w210.cell? (a132.add 11) = some (Value.int .u8 x144) ∧
 w210.cell? (a132.add 12) = some (Value.int .u8 x145) ∧
 w210.cell? (a132.add 13) = some (Value.int .u8 x146) ∧
 w210.cell? (a132.add 14) = some (Value.int .u8 x147) ∧
 w210.cell? (a132.add 15) = some (Value.int .u8 x148) ∧
 c_wrap_Wrap x133 x134 x135 x136 x137 x138 x139 x140 x141 x142 x143 x144 x145 x146 x147 x148 x150 x151 x152 x153 x154 x155 x156 x157 x158 x159 x160 x161 x162 x163 x164 x165 x167 r81 w210 fun r212 r213 r214 r215 r216 r217 r218 r219 r220 r221 r222 r223 r224 r225 r226 r227 r228 r229 r230 r231 r232 r233 r234 r235 r236 r237 r238 r239 r240 r241 r242 r243 r244 r245 r246 r247 r248 r249 w250 =>
 StN ((Value.int .i64 r212) :: (Value.int .i64 r213) :: (Value.int .i64 r214) :: (Value.int .i64 r215) :: (Value.int .u8 r216) :: (Value.int .u8 r217) :: (Value.int .u8 r218) :: (Value.int .u8 r219) :: (Value.int .u8 r220) :: (Value.int .u8 r221) :: (Value.int .u8 r222) :: (Value.int .u8 r223) :: (Value.int .u8 r224) :: (Value.int .u8 r225) :: (Value.int .u8 r226) :: (Value.int .u8 r227) :: (Value.int .u8 r228) :: (Value.int .u8 r229) :: (Value.int .u8 r230) :: (Value.int .u8 r231) :: (Value.int .u8 r232) :: (Value.int .u8 r233) :: (Value.int .u8 r234) :: (Value.int .u8 r235) :: (Value.int .u8 r236) :: (Value.int .u8 r237) :: (Value.int .u8 r238) :: (Value.int .u8 r239) :: (Value.int .u8 r240) :: (Value.int .u8 r241) :: (Value.int .u8 r242) :: (Value.int .u8 r243) :: (Value.int .u8 r244) :: (Value.int .u8 r245) :: (Value.int .u8 r246) :: (Value.int .u8 r247) :: (Value.slice r248.a r248.len r248.cap) :: []) w250 a211 0 fun w251 =>
 J84 r249 a211 w251))))))
theorem e_b4_B4_Host (a0 : Option Addr) (a1 : SliceV) (w : World) (K : SliceV → SliceV → Int → World → Prop) : den Tryz.prog 84 (bodyOf Tryz.f8) none (.seq .leaf (.seq (.seq .leaf (.cond (.seq .leaf .leaf) .leaf)) (.seq .leaf (.seq (.seq .leaf (.cond (.seq .leaf .leaf) .leaf)) (.seq (.seq .leaf (.cond (.seq .leaf .leaf) .leaf)) (.seq .leaf (.seq (.seq .leaf (.cond (.seq .leaf .leaf) .leaf)) (.seq .leaf (.seq .leaf (.seq (.seq .leaf (.cond (.seq .leaf .leaf) .leaf)) (.seq .leaf (.seq (.seq .leaf (.cond (.seq .leaf .leaf) .leaf)) (.seq .leaf .leaf))))))))))))) (argEnv 0 [(Value.pointer a0), (Value.slice a1.a a1.len a1.cap)]) [] w (retK Tryz.prog [.tmp 4, .tmp 5, .tmp 6] [.one .slice, .one .slice, .one (.int .i64)] K) = s_b4_B4_Host a0 a1 w K := by kernel_rfl
theorem ok_b4_B4_Host {a0 a1 w K} (h : s_b4_B4_Host a0 a1 w K) : c_b4_B4_Host a0 a1 w K :=
  fn_sound pok Tryz.func8 (fn := Tryz.f8) (c := bodyOf Tryz.f8) (nt := 84) (by kernel_rfl) (by kernel_rfl) (rs := [.tmp 4, .tmp 5, .tmp 6]) (by kernel_rfl) [.one .slice, .one .slice, .one (.int .i64)] K (.seq .leaf (.seq (.seq .leaf (.cond (.seq .leaf .leaf) .leaf)) (.seq .leaf (.seq (.seq .leaf (.cond (.seq .leaf .leaf) .leaf)) (.seq (.seq .leaf (.cond (.seq .leaf .leaf) .leaf)) (.seq .leaf (.seq (.seq .leaf (.cond (.seq .leaf .leaf) .leaf)) (.seq .leaf (.seq .leaf (.seq (.seq .leaf (.cond (.seq .leaf .leaf) .leaf)) (.seq .leaf (.seq (.seq .leaf (.cond (.seq .leaf .leaf) .leaf)) (.seq .leaf .leaf))))))))))))) [(Value.pointer a0), (Value.slice a1.a a1.len a1.cap)] (by kernel_rfl) w ((e_b4_B4_Host a0 a1 w K).mpr h)

/-- goosepond/b4.Addr -/
def s_b4_Addr  (w : World) (K : Int → World → Prop) : Prop :=
 (K 3221225474 w)
theorem e_b4_Addr  (w : World) (K : Int → World → Prop) : den Tryz.prog 1 (bodyOf Tryz.f13) none (.seq .leaf (.seq .leaf .leaf)) (argEnv 0 []) [] w (retK Tryz.prog [.tmp 0] [.one (.int .i64)] K) = s_b4_Addr  w K := by kernel_rfl
theorem ok_b4_Addr { w K} (h : s_b4_Addr  w K) : c_b4_Addr  w K :=
  fn_sound pok Tryz.func13 (fn := Tryz.f13) (c := bodyOf Tryz.f13) (nt := 1) (by kernel_rfl) (by kernel_rfl) (rs := [.tmp 0]) (by kernel_rfl) [.one (.int .i64)] K (.seq .leaf (.seq .leaf .leaf)) [] (by kernel_rfl) w ((e_b4_Addr  w K).mpr h)

/-- (goosepond/b4.Setup).may -/
def s_b4_Setup_may (a0_0 : Int) (a0_1 : Int) (a0_2 : Int) (a0_3 : Int) (a0_4 : Int) (a0_5 : Int) (a0_6 : Int) (a0_7 : Int) (a0_8 : Int) (a0_9 : Int) (a0_10 : Int) (a0_11 : Int) (a0_12 : Int) (a0_13 : Int) (a0_14 : Int) (a0_15 : Int) (a0_16 : Int) (a0_17 : Int) (a0_18 : Int) (a0_19 : Int) (a0_20 : Int) (a0_21 : Int) (a0_22 : Int) (a0_23 : Int) (a0_24 : Int) (a0_25 : Int) (a0_26 : Int) (a0_27 : Int) (a0_28 : Int) (a0_29 : Int) (a0_30 : Int) (a0_31 : Int) (a0_32 : Int) (a0_33 : Int) (a0_34 : Int) (a0_35 : Int) (a0_36 : Int) (w : World) (K : Bool → World → Prop) : Prop :=
 (Al w (.cells ⟨((Value.int .u8 a0_0) :: (Value.int .u8 a0_1) :: (Value.int .u8 a0_2) :: (Value.int .u8 a0_3) :: (Value.int .u8 a0_4) :: (Value.int .u8 a0_5) :: (Value.int .u8 a0_6) :: (Value.int .u8 a0_7) :: (Value.int .u8 a0_8) :: (Value.int .u8 a0_9) :: (Value.int .u8 a0_10) :: (Value.int .u8 a0_11) :: (Value.int .u8 a0_12) :: (Value.int .u8 a0_13) :: (Value.int .u8 a0_14) :: (Value.int .u8 a0_15) :: (Value.int .u8 a0_16) :: (Value.int .u8 a0_17) :: (Value.int .u8 a0_18) :: (Value.int .u8 a0_19) :: (Value.int .u8 a0_20) :: (Value.int .u8 a0_21) :: (Value.int .u8 a0_22) :: (Value.int .u8 a0_23) :: (Value.int .u8 a0_24) :: (Value.int .u8 a0_25) :: (Value.int .u8 a0_26) :: (Value.int .u8 a0_27) :: (Value.int .u8 a0_28) :: (Value.int .u8 a0_29) :: (Value.int .u8 a0_30) :: (Value.int .u8 a0_31) :: (Value.int .i64 a0_32) :: (Value.int .i64 a0_33) :: (Value.int .i64 a0_34) :: (Value.int .i64 a0_35) :: (Value.int .i64 a0_36) :: [])⟩ 27) fun a3 w2 =>
 let J4 : Bool → World → Prop := fun j5 w6 =>
 (let J7 : Bool → World → Prop := fun j8 w9 =>
 (let J10 : Bool → World → Prop := fun j11 w12 =>
 (let J13 : Bool → Prop := fun j14 =>
 (K j14 w12)
 (bif j5 then
 (bif j8 then
 J13 j11
 else
 J13 false)
 else
 J13 false))
 Ld (.int .i64) w9 (a3.add 34) fun x15 =>
 c_b4_within x15 0 4096 w9 fun r16 w17 =>
 (bif r16 then
 Ld (.int .i64) w17 (a3.add 35) fun x18 =>
 c_b4_within x18 0 67108864 w17 fun r19 w20 =>
 (bif r19 then
 Ld (.int .i64) w20 (a3.add 36) fun x21 =>
 c_b4_within x21 1 1048576 w20 fun r22 w23 =>
 J10 r22 w23
 else
 J10 false w20)
 else
 J10 false w17))
 Ld (.int .i64) w6 (a3.add 32) fun x24 =>
 c_b4_within x24 1280 65535 w6 fun r25 w26 =>
 (bif r25 then
 Ld (.int .i64) w26 (a3.add 33) fun x27 =>
 c_b4_within x27 1 255 w26 fun r28 w29 =>
 J7 r28 w29
 else
 J7 false w26))
 Ld (.int .u8) w2 (a3.add 0) fun x30 =>
 Ld (.int .u8) w2 (a3.add 1) fun x31 =>
 Ld (.int .u8) w2 (a3.add 2) fun x32 =>
 Ld (.int .u8) w2 (a3.add 3) fun x33 =>
 Ld (.int .u8) w2 (a3.add 4) fun x34 =>
 Ld (.int .u8) w2 (a3.add 5) fun x35 =>
 Ld (.int .u8) w2 (a3.add 6) fun x36 =>
 Ld (.int .u8) w2 (a3.add 7) fun x37 =>
 Ld (.int .u8) w2 (a3.add 8) fun x38 =>
 Ld (.int .u8) w2 (a3.add 9) fun x39 =>
 Ld (.int .u8) w2 (a3.add 10) fun x40 =>
 Ld (.int .u8) w2 (a3.add 11) fun x41 =>
 Ld (.int .u8) w2 (a3.add 12) fun x42 =>
 Ld (.int .u8) w2 (a3.add 13) fun x43 =>
 Ld (.int .u8) w2 (a3.add 14) fun x44 =>
 Ld (.int .u8) w2 (a3.add 15) fun x45 =>
 c_six_Host x30 x31 x32 x33 x34 x35 x36 x37 x38 x39 x40 x41 x42 x43 x44 x45 w2 fun r46 w47 =>
 (bif r46 then
 Ld (.int .u8) w47 ((a3.add 16).add 0) fun x48 =>
 Ld (.int .u8) w47 ((a3.add 16).add 1) fun x49 =>
 Ld (.int .u8) w47 ((a3.add 16).add 2) fun x50 =>
 Ld (.int .u8) w47 ((a3.add 16).add 3) fun x51 =>
 Ld (.int .u8) w47 ((a3.add 16).add 4) fun x52 =>
 Ld (.int .u8) w47 ((a3.add 16).add 5) fun x53 =>
 Ld (.int .u8) w47 ((a3.add 16).add 6) fun x54 =>
 Ld (.int .u8) w47 ((a3.add 16).add 7) fun x55 =>
 Ld (.int .u8) w47 ((a3.add 16).add 8) fun x56 =>
 Ld (.int .u8) w47 ((a3.add 16).add 9) fun x57 =>
 Ld (.int .u8) w47 ((a3.add 16).add 10) fun x58 =>
 Ld (.int .u8) w47 ((a3.add 16).add 11) fun x59 =>
 Ld (.int .u8) w47 ((a3.add 16).add 12) fun x60 =>
 Ld (.int .u8) w47 ((a3.add 16).add 13) fun x61 =>
 Ld (.int .u8) w47 ((a3.add 16).add 14) fun x62 =>
 Ld (.int .u8) w47 ((a3.add 16).add 15) fun x63 =>
 c_six_Host x48 x49 x50 x51 x52 x53 x54 x55 x56 x57 x58 x59 x60 x61 x62 x63 w47 fun r64 w65 =>
 (bif r64 then
 Ld (.int .u8) w65 (a3.add 0) fun x66 =>
 Ld (.int .u8) w65 (a3.add 1) fun x67 =>
 Ld (.int .u8) w65 (a3.add 2) fun x68 =>
 Ld (.int .u8) w65 (a3.add 3) fun x69 =>
 Ld (.int .u8) w65 (a3.add 4) fun x70 =>
 Ld (.int .u8) w65 (a3.add 5) fun x71 =>
 Ld (.int .u8) w65 (a3.add 6) fun x72 =>
 Ld (.int .u8) w65 (a3.add 7) fun x73 =>
 Ld (.int .u8) w65 (a3.add 8) fun x74 =>
 Ld (.int .u8) w65 (a3.add 9) fun x75 =>
 Ld (.int .u8) w65 (a3.add 10) fun x76 =>
 Ld (.int .u8) w65 (a3.add 11) fun x77 =>
 Ld (.int .u8) w65 (a3.add 12) fun x78 =>
 Ld (.int .u8) w65 (a3.add 13) fun x79 =>
 Ld (.int .u8) w65 (a3.add 14) fun x80 =>
 Ld (.int .u8) w65 (a3.add 15) fun x81 =>
 Ld (.int .u8) w65 ((a3.add 16).add 0) fun x82 =>
 Ld (.int .u8) w65 ((a3.add 16).add 1) fun x83 =>
 Ld (.int .u8) w65 ((a3.add 16).add 2) fun x84 =>
 Ld (.int .u8) w65 ((a3.add 16).add 3) fun x85 =>
 Ld (.int .u8) w65 ((a3.add 16).add 4) fun x86 =>
 Ld (.int .u8) w65 ((a3.add 16).add 5) fun x87 =>
 Ld (.int .u8) w65 ((a3.add 16).add 6) fun x88 =>
 Ld (.int .u8) w65 ((a3.add 16).add 7) fun x89 =>
 Ld (.int .u8) w65 ((a3.add 16).add 8) fun x90 =>
 Ld (.int .u8) w65 ((a3.add 16).add 9) fun x91 =>
 Ld (.int .u8) w65 ((a3.add 16).add 10) fun x92 =>
 Ld (.int .u8) w65 ((a3.add 16).add 11) fun x93 =>
 Ld (.int .u8) w65 ((a3.add 16).add 12) fun x94 =>
 Ld (.int .u8) w65 ((a3.add 16).add 13) fun x95 =>
 Ld (.int .u8) w65 ((a3.add 16).add 14) fun x96 =>
 Ld (.int .u8) w65 ((a3.add 16).add 15) fun x97 =>
 J4 (!((x66 == x82) && ((x67 == x83) && ((x68 == x84) && ((x69 == x85) && ((x70 == x86) && ((x71 == x87) && ((x72 == x88) && ((x73 == x89) && ((x74 == x90) && ((x75 == x91) && ((x76 == x92) && ((x77 == x93) && ((x78 == x94) && ((x79 == x95) && ((x80 == x96) && ((x81 == x97) && true))))))))))))))))) w65
 else
 J4 false w65)
 else
 J4 false w47))
theorem e_b4_Setup_may (a0_0 : Int) (a0_1 : Int) (a0_2 : Int) (a0_3 : Int) (a0_4 : Int) (a0_5 : Int) (a0_6 : Int) (a0_7 : Int) (a0_8 : Int) (a0_9 : Int) (a0_10 : Int) (a0_11 : Int) (a0_12 : Int) (a0_13 : Int) (a0_14 : Int) (a0_15 : Int) (a0_16 : Int) (a0_17 : Int) (a0_18 : Int) (a0_19 : Int) (a0_20 : Int) (a0_21 : Int) (a0_22 : Int) (a0_23 : Int) (a0_24 : Int) (a0_25 : Int) (a0_26 : Int) (a0_27 : Int) (a0_28 : Int) (a0_29 : Int) (a0_30 : Int) (a0_31 : Int) (a0_32 : Int) (a0_33 : Int) (a0_34 : Int) (a0_35 : Int) (a0_36 : Int) (w : World) (K : Bool → World → Prop) : den Tryz.prog 49 (bodyOf Tryz.f14) none (.seq .leaf (.seq .leaf (.seq .leaf (.seq .leaf (.seq .leaf .leaf))))) (argEnv 0 [(Value.agg ⟨((Value.int .u8 a0_0) :: (Value.int .u8 a0_1) :: (Value.int .u8 a0_2) :: (Value.int .u8 a0_3) :: (Value.int .u8 a0_4) :: (Value.int .u8 a0_5) :: (Value.int .u8 a0_6) :: (Value.int .u8 a0_7) :: (Value.int .u8 a0_8) :: (Value.int .u8 a0_9) :: (Value.int .u8 a0_10) :: (Value.int .u8 a0_11) :: (Value.int .u8 a0_12) :: (Value.int .u8 a0_13) :: (Value.int .u8 a0_14) :: (Value.int .u8 a0_15) :: (Value.int .u8 a0_16) :: (Value.int .u8 a0_17) :: (Value.int .u8 a0_18) :: (Value.int .u8 a0_19) :: (Value.int .u8 a0_20) :: (Value.int .u8 a0_21) :: (Value.int .u8 a0_22) :: (Value.int .u8 a0_23) :: (Value.int .u8 a0_24) :: (Value.int .u8 a0_25) :: (Value.int .u8 a0_26) :: (Value.int .u8 a0_27) :: (Value.int .u8 a0_28) :: (Value.int .u8 a0_29) :: (Value.int .u8 a0_30) :: (Value.int .u8 a0_31) :: (Value.int .i64 a0_32) :: (Value.int .i64 a0_33) :: (Value.int .i64 a0_34) :: (Value.int .i64 a0_35) :: (Value.int .i64 a0_36) :: [])⟩)]) [] w (retK Tryz.prog [.tmp 2] [.one .bool] K) = s_b4_Setup_may a0_0 a0_1 a0_2 a0_3 a0_4 a0_5 a0_6 a0_7 a0_8 a0_9 a0_10 a0_11 a0_12 a0_13 a0_14 a0_15 a0_16 a0_17 a0_18 a0_19 a0_20 a0_21 a0_22 a0_23 a0_24 a0_25 a0_26 a0_27 a0_28 a0_29 a0_30 a0_31 a0_32 a0_33 a0_34 a0_35 a0_36 w K := by kernel_rfl
theorem ok_b4_Setup_may {a0_0 a0_1 a0_2 a0_3 a0_4 a0_5 a0_6 a0_7 a0_8 a0_9 a0_10 a0_11 a0_12 a0_13 a0_14 a0_15 a0_16 a0_17 a0_18 a0_19 a0_20 a0_21 a0_22 a0_23 a0_24 a0_25 a0_26 a0_27 a0_28 a0_29 a0_30 a0_31 a0_32 a0_33 a0_34 a0_35 a0_36 w K} (h : s_b4_Setup_may a0_0 a0_1 a0_2 a0_3 a0_4 a0_5 a0_6 a0_7 a0_8 a0_9 a0_10 a0_11 a0_12 a0_13 a0_14 a0_15 a0_16 a0_17 a0_18 a0_19 a0_20 a0_21 a0_22 a0_23 a0_24 a0_25 a0_26 a0_27 a0_28 a0_29 a0_30 a0_31 a0_32 a0_33 a0_34 a0_35 a0_36 w K) : c_b4_Setup_may a0_0 a0_1 a0_2 a0_3 a0_4 a0_5 a0_6 a0_7 a0_8 a0_9 a0_10 a0_11 a0_12 a0_13 a0_14 a0_15 a0_16 a0_17 a0_18 a0_19 a0_20 a0_21 a0_22 a0_23 a0_24 a0_25 a0_26 a0_27 a0_28 a0_29 a0_30 a0_31 a0_32 a0_33 a0_34 a0_35 a0_36 w K :=
  fn_sound pok Tryz.func14 (fn := Tryz.f14) (c := bodyOf Tryz.f14) (nt := 49) (by kernel_rfl) (by kernel_rfl) (rs := [.tmp 2]) (by kernel_rfl) [.one .bool] K (.seq .leaf (.seq .leaf (.seq .leaf (.seq .leaf (.seq .leaf .leaf))))) [(Value.agg ⟨((Value.int .u8 a0_0) :: (Value.int .u8 a0_1) :: (Value.int .u8 a0_2) :: (Value.int .u8 a0_3) :: (Value.int .u8 a0_4) :: (Value.int .u8 a0_5) :: (Value.int .u8 a0_6) :: (Value.int .u8 a0_7) :: (Value.int .u8 a0_8) :: (Value.int .u8 a0_9) :: (Value.int .u8 a0_10) :: (Value.int .u8 a0_11) :: (Value.int .u8 a0_12) :: (Value.int .u8 a0_13) :: (Value.int .u8 a0_14) :: (Value.int .u8 a0_15) :: (Value.int .u8 a0_16) :: (Value.int .u8 a0_17) :: (Value.int .u8 a0_18) :: (Value.int .u8 a0_19) :: (Value.int .u8 a0_20) :: (Value.int .u8 a0_21) :: (Value.int .u8 a0_22) :: (Value.int .u8 a0_23) :: (Value.int .u8 a0_24) :: (Value.int .u8 a0_25) :: (Value.int .u8 a0_26) :: (Value.int .u8 a0_27) :: (Value.int .u8 a0_28) :: (Value.int .u8 a0_29) :: (Value.int .u8 a0_30) :: (Value.int .u8 a0_31) :: (Value.int .i64 a0_32) :: (Value.int .i64 a0_33) :: (Value.int .i64 a0_34) :: (Value.int .i64 a0_35) :: (Value.int .i64 a0_36) :: [])⟩)] (by kernel_rfl) w ((e_b4_Setup_may a0_0 a0_1 a0_2 a0_3 a0_4 a0_5 a0_6 a0_7 a0_8 a0_9 a0_10 a0_11 a0_12 a0_13 a0_14 a0_15 a0_16 a0_17 a0_18 a0_19 a0_20 a0_21 a0_22 a0_23 a0_24 a0_25 a0_26 a0_27 a0_28 a0_29 a0_30 a0_31 a0_32 a0_33 a0_34 a0_35 a0_36 w K).mpr h)

/-- goosepond/join.New -/
def s_join_New (a0 : Int) (a1 : Int) (a2 : Int) (w : World) (K : (Option Addr) → Int → World → Prop) : Prop :=
 (let J4 : Bool → World → Prop := fun j5 w6 =>
 ((bif j5 then
 K none 1 w6
 else
 Al w6 (.map #[] 0) fun a8 w7 =>
 Al w7 (.cells ⟨[(Value.map (some w6.heap.size)), (Value.int .i64 a0), (Value.int .i64 a1), (Value.int .i64 a2)]⟩ 80) fun a10 w9 =>
 K (some a10) 0 w9))
 CallV Tryz.prog [.one .bool] (Value.func (.func 33) #[] #[]) [(Value.int .i64 a0), (Value.int .i64 0), (Value.int .i64 1073741824)] w fun r11 w12 =>
 ∃ r13 : Bool, r11 = (Value.bool r13) ∧
 (bif (!r13) then
 J4 true w12
 else
 CallV Tryz.prog [.one .bool] (Value.func (.func 33) #[] #[]) [(Value.int .i64 a1), (Value.int .i64 0), (Value.int .i64 1073741824)] w12 fun r14 w15 =>
 ∃ r16 : Bool, r14 = (Value.bool r16) ∧
 (bif (!r16) then
 J4 true w15
 else
 CallV Tryz.prog [.one .bool] (Value.func (.func 33) #[] #[]) [(Value.int .i64 a2), (Value.int .i64 1), (Value.int .i64 1099511627776)] w15 fun r17 w18 =>
 ∃ r19 : Bool, r17 = (Value.bool r19) ∧
 J4 (!r19) w18)))
theorem e_join_New (a0 : Int) (a1 : Int) (a2 : Int) (w : World) (K : (Option Addr) → Int → World → Prop) : den Tryz.prog 31 (bodyOf Tryz.f15) none (.seq .leaf (.seq .leaf (.seq (.seq .leaf (.cond (.seq .leaf .leaf) .leaf)) (.seq .leaf .leaf)))) (argEnv 0 [(Value.int .i64 a0), (Value.int .i64 a1), (Value.int .i64 a2)]) [] w (retK Tryz.prog [.tmp 6, .tmp 7] [.one .ptr, .one (.int .i64)] K) = s_join_New a0 a1 a2 w K := by kernel_rfl
theorem ok_join_New {a0 a1 a2 w K} (h : s_join_New a0 a1 a2 w K) : c_join_New a0 a1 a2 w K :=
  fn_sound pok Tryz.func15 (fn := Tryz.f15) (c := bodyOf Tryz.f15) (nt := 31) (by kernel_rfl) (by kernel_rfl) (rs := [.tmp 6, .tmp 7]) (by kernel_rfl) [.one .ptr, .one (.int .i64)] K (.seq .leaf (.seq .leaf (.seq (.seq .leaf (.cond (.seq .leaf .leaf) .leaf)) (.seq .leaf .leaf)))) [(Value.int .i64 a0), (Value.int .i64 a1), (Value.int .i64 a2)] (by kernel_rfl) w ((e_join_New a0 a1 a2 w K).mpr h)

/-- goosepond/counts.New -/
def s_counts_New  (w : World) (K : (Option Addr) → World → Prop) : Prop :=
 (MkSl 3 1 8 [(Value.int .i64 0)] 14 14 w fun s1 w2 =>
 Al w2 (.cells ⟨[(Value.slice s1.a s1.len s1.cap)]⟩ 83) fun a4 w3 =>
 K (some a4) w3)
theorem e_counts_New  (w : World) (K : (Option Addr) → World → Prop) : den Tryz.prog 4 (bodyOf Tryz.f16) none (.seq .leaf (.seq .leaf .leaf)) (argEnv 0 []) [] w (retK Tryz.prog [.tmp 0] [.one .ptr] K) = s_counts_New  w K := by kernel_rfl
theorem ok_counts_New { w K} (h : s_counts_New  w K) : c_counts_New  w K :=
  fn_sound pok Tryz.func16 (fn := Tryz.f16) (c := bodyOf Tryz.f16) (nt := 4) (by kernel_rfl) (by kernel_rfl) (rs := [.tmp 0]) (by kernel_rfl) [.one .ptr] K (.seq .leaf (.seq .leaf .leaf)) [] (by kernel_rfl) w ((e_counts_New  w K).mpr h)

/-- (*goosepond/b4.B4).ready -/
def s_b4_B4_ready (a0 : Option Addr) (w : World) (K : Bool → World → Prop) : Prop :=
 (let J2 : Bool → Prop := fun j3 =>
 (K j3 w)
 (bif (!(Option.isNone a0)) then
 ∃ a4 : Addr, a0 = some a4 ∧
 Ld .ptr w (a4.add 37) fun x5 =>
 J2 (!(Option.isNone x5))
 else
 J2 false))
theorem e_b4_B4_ready (a0 : Option Addr) (w : World) (K : Bool → World → Prop) : den Tryz.prog 12 (bodyOf Tryz.f19) none (.seq .leaf (.seq .leaf .leaf)) (argEnv 0 [(Value.pointer a0)]) [] w (retK Tryz.prog [.tmp 2] [.one .bool] K) = s_b4_B4_ready a0 w K := by kernel_rfl
theorem ok_b4_B4_ready {a0 w K} (h : s_b4_B4_ready a0 w K) : c_b4_B4_ready a0 w K :=
  fn_sound pok Tryz.func19 (fn := Tryz.f19) (c := bodyOf Tryz.f19) (nt := 12) (by kernel_rfl) (by kernel_rfl) (rs := [.tmp 2]) (by kernel_rfl) [.one .bool] K (.seq .leaf (.seq .leaf .leaf)) [(Value.pointer a0)] (by kernel_rfl) w ((e_b4_B4_ready a0 w K).mpr h)

/-- (*goosepond/b4.B4).drop -/
def s_b4_B4_drop (a0 : Option Addr) (a1 : Int) (w : World) (K : Int → World → Prop) : Prop :=
 (∃ a3 : Addr, a0 = some a3 ∧
 Ld .ptr w (a3.add 38) fun x4 =>
 c_counts_Counts_Add x4 a1 w fun r5 w6 =>
 K a1 w6)
theorem e_b4_B4_drop (a0 : Option Addr) (a1 : Int) (w : World) (K : Int → World → Prop) : den Tryz.prog 12 (bodyOf Tryz.f21) none (.seq .leaf (.seq .leaf (.seq .leaf .leaf))) (argEnv 0 [(Value.pointer a0), (Value.int .i64 a1)]) [] w (retK Tryz.prog [.tmp 4] [.one (.int .i64)] K) = s_b4_B4_drop a0 a1 w K := by kernel_rfl
theorem ok_b4_B4_drop {a0 a1 w K} (h : s_b4_B4_drop a0 a1 w K) : c_b4_B4_drop a0 a1 w K :=
  fn_sound pok Tryz.func21 (fn := Tryz.f21) (c := bodyOf Tryz.f21) (nt := 12) (by kernel_rfl) (by kernel_rfl) (rs := [.tmp 4]) (by kernel_rfl) [.one (.int .i64)] K (.seq .leaf (.seq .leaf (.seq .leaf .leaf))) [(Value.pointer a0), (Value.int .i64 a1)] (by kernel_rfl) w ((e_b4_B4_drop a0 a1 w K).mpr h)

/-- goosepond/b4.over -/
def s_b4_over (a0_0 : Int) (a0_1 : Int) (a0_2 : Int) (a0_3 : Int) (a0_4 : Int) (a0_5 : Int) (a0_6 : Int) (a0_7 : Bool) (a0_8 : Bool) (a0_9 : SliceV) (a0_10 : SliceV) (w : World) (K : SliceV → World → Prop) : Prop :=
 (Al w (.cells ⟨[(Value.int .i64 a0_0), (Value.int .i64 a0_1), (Value.int .i64 a0_2), (Value.int .i64 a0_3), (Value.int .i64 a0_4), (Value.int .i64 a0_5), (Value.int .i64 a0_6), (Value.bool a0_7), (Value.bool a0_8), (Value.slice a0_9.a a0_9.len a0_9.cap), (Value.slice a0_10.a a0_10.len a0_10.cap)]⟩ 46) fun a3 w2 =>
 Ld (.int .i64) w2 (a3.add 0) fun x4 =>
 Ld (.int .i64) w2 (a3.add 1) fun x5 =>
 Ld (.int .i64) w2 (a3.add 2) fun x6 =>
 Ld (.int .i64) w2 (a3.add 3) fun x7 =>
 Ld (.int .i64) w2 (a3.add 4) fun x8 =>
 Ld (.int .i64) w2 (a3.add 5) fun x9 =>
 Ld (.int .i64) w2 (a3.add 6) fun x10 =>
 Ld .bool w2 (a3.add 7) fun x11 =>
 Ld .bool w2 (a3.add 8) fun x12 =>
 Ld .slice w2 (a3.add 9) fun x13 =>
 Ld .slice w2 (a3.add 10) fun x14 =>
 c_v4_Build x4 x5 x6 x7 x8 x9 x10 x11 x12 x13 x14 w2 fun r15 r16 w17 =>
 (bif (r16 != 0) then
 K ⟨none, 0, 0⟩ w17
 else
 c_b4_Addr  w17 fun r18 w19 =>
 c_errs_Make r18 11 0 0 r15 w19 fun r20 r21 r22 r23 r24 r25 r26 r27 r28 r29 r30 r31 w32 =>
 c_b4_built r20 r21 r22 r23 r24 r25 r26 r27 r28 r29 r30 r31 w32 fun r33 w34 =>
 K r33 w34))
theorem e_b4_over (a0_0 : Int) (a0_1 : Int) (a0_2 : Int) (a0_3 : Int) (a0_4 : Int) (a0_5 : Int) (a0_6 : Int) (a0_7 : Bool) (a0_8 : Bool) (a0_9 : SliceV) (a0_10 : SliceV) (w : World) (K : SliceV → World → Prop) : den Tryz.prog 18 (bodyOf Tryz.f24) none (.seq .leaf (.seq .leaf (.seq (.seq .leaf (.cond (.seq .leaf .leaf) .leaf)) (.seq .leaf .leaf)))) (argEnv 0 [(Value.agg ⟨[(Value.int .i64 a0_0), (Value.int .i64 a0_1), (Value.int .i64 a0_2), (Value.int .i64 a0_3), (Value.int .i64 a0_4), (Value.int .i64 a0_5), (Value.int .i64 a0_6), (Value.bool a0_7), (Value.bool a0_8), (Value.slice a0_9.a a0_9.len a0_9.cap), (Value.slice a0_10.a a0_10.len a0_10.cap)]⟩)]) [] w (retK Tryz.prog [.tmp 2] [.one .slice] K) = s_b4_over a0_0 a0_1 a0_2 a0_3 a0_4 a0_5 a0_6 a0_7 a0_8 a0_9 a0_10 w K := by kernel_rfl
theorem ok_b4_over {a0_0 a0_1 a0_2 a0_3 a0_4 a0_5 a0_6 a0_7 a0_8 a0_9 a0_10 w K} (h : s_b4_over a0_0 a0_1 a0_2 a0_3 a0_4 a0_5 a0_6 a0_7 a0_8 a0_9 a0_10 w K) : c_b4_over a0_0 a0_1 a0_2 a0_3 a0_4 a0_5 a0_6 a0_7 a0_8 a0_9 a0_10 w K :=
  fn_sound pok Tryz.func24 (fn := Tryz.f24) (c := bodyOf Tryz.f24) (nt := 18) (by kernel_rfl) (by kernel_rfl) (rs := [.tmp 2]) (by kernel_rfl) [.one .slice] K (.seq .leaf (.seq .leaf (.seq (.seq .leaf (.cond (.seq .leaf .leaf) .leaf)) (.seq .leaf .leaf)))) [(Value.agg ⟨[(Value.int .i64 a0_0), (Value.int .i64 a0_1), (Value.int .i64 a0_2), (Value.int .i64 a0_3), (Value.int .i64 a0_4), (Value.int .i64 a0_5), (Value.int .i64 a0_6), (Value.bool a0_7), (Value.bool a0_8), (Value.slice a0_9.a a0_9.len a0_9.cap), (Value.slice a0_10.a a0_10.len a0_10.cap)]⟩)] (by kernel_rfl) w ((e_b4_over a0_0 a0_1 a0_2 a0_3 a0_4 a0_5 a0_6 a0_7 a0_8 a0_9 a0_10 w K).mpr h)

/-- (*goosepond/b4.B4).cut -/
def s_b4_B4_cut (a0 : Option Addr) (a1_0 : Int) (a1_1 : Int) (a1_2 : Int) (a1_3 : Int) (a1_4 : Int) (a1_5 : Int) (a1_6 : Int) (a1_7 : Int) (a1_8 : Int) (a1_9 : Int) (a1_10 : Int) (a1_11 : Int) (a1_12 : Int) (a1_13 : Int) (a1_14 : Int) (a1_15 : Int) (a1_16 : Int) (a1_17 : Int) (a1_18 : Int) (a1_19 : Int) (a1_20 : Int) (a1_21 : Int) (a1_22 : Int) (a1_23 : Int) (a1_24 : Int) (a1_25 : Int) (a1_26 : Int) (a1_27 : Int) (a1_28 : Int) (a1_29 : Int) (a1_30 : Int) (a1_31 : Int) (a1_32 : Int) (a1_33 : Int) (a1_34 : Int) (a1_35 : Int) (a1_36 : SliceV) (w : World) (K : SliceV → Int → World → Prop) : Prop :=
 (Al w (.cells ⟨((Value.int .i64 a1_0) :: (Value.int .i64 a1_1) :: (Value.int .i64 a1_2) :: (Value.int .i64 a1_3) :: (Value.int .u8 a1_4) :: (Value.int .u8 a1_5) :: (Value.int .u8 a1_6) :: (Value.int .u8 a1_7) :: (Value.int .u8 a1_8) :: (Value.int .u8 a1_9) :: (Value.int .u8 a1_10) :: (Value.int .u8 a1_11) :: (Value.int .u8 a1_12) :: (Value.int .u8 a1_13) :: (Value.int .u8 a1_14) :: (Value.int .u8 a1_15) :: (Value.int .u8 a1_16) :: (Value.int .u8 a1_17) :: (Value.int .u8 a1_18) :: (Value.int .u8 a1_19) :: (Value.int .u8 a1_20) :: (Value.int .u8 a1_21) :: (Value.int .u8 a1_22) :: (Value.int .u8 a1_23) :: (Value.int .u8 a1_24) :: (Value.int .u8 a1_25) :: (Value.int .u8 a1_26) :: (Value.int .u8 a1_27) :: (Value.int .u8 a1_28) :: (Value.int .u8 a1_29) :: (Value.int .u8 a1_30) :: (Value.int .u8 a1_31) :: (Value.int .u8 a1_32) :: (Value.int .u8 a1_33) :: (Value.int .u8 a1_34) :: (Value.int .u8 a1_35) :: (Value.slice a1_36.a a1_36.len a1_36.cap) :: [])⟩ 38) fun a4 w3 =>
 Ld (.int .i64) w3.drew (a4.add 0) fun x5 =>
 Ld (.int .i64) w3.drew (a4.add 1) fun x6 =>
 Ld (.int .i64) w3.drew (a4.add 2) fun x7 =>
 Ld (.int .i64) w3.drew (a4.add 3) fun x8 =>
 Ld (.int .u8) w3.drew (a4.add 4) fun x9 =>
 Ld (.int .u8) w3.drew (a4.add 5) fun x10 =>
 Ld (.int .u8) w3.drew (a4.add 6) fun x11 =>
 Ld (.int .u8) w3.drew (a4.add 7) fun x12 =>
 Ld (.int .u8) w3.drew (a4.add 8) fun x13 =>
 Ld (.int .u8) w3.drew (a4.add 9) fun x14 =>
 Ld (.int .u8) w3.drew (a4.add 10) fun x15 =>
 Ld (.int .u8) w3.drew (a4.add 11) fun x16 =>
 Ld (.int .u8) w3.drew (a4.add 12) fun x17 =>
 Ld (.int .u8) w3.drew (a4.add 13) fun x18 =>
 Ld (.int .u8) w3.drew (a4.add 14) fun x19 =>
 Ld (.int .u8) w3.drew (a4.add 15) fun x20 =>
 Ld (.int .u8) w3.drew (a4.add 16) fun x21 =>
 Ld (.int .u8) w3.drew (a4.add 17) fun x22 =>
 Ld (.int .u8) w3.drew (a4.add 18) fun x23 =>
 Ld (.int .u8) w3.drew (a4.add 19) fun x24 =>
 Ld (.int .u8) w3.drew (a4.add 20) fun x25 =>
 Ld (.int .u8) w3.drew (a4.add 21) fun x26 =>
 Ld (.int .u8) w3.drew (a4.add 22) fun x27 =>
 Ld (.int .u8) w3.drew (a4.add 23) fun x28 =>
 Ld (.int .u8) w3.drew (a4.add 24) fun x29 =>
 Ld (.int .u8) w3.drew (a4.add 25) fun x30 =>
 Ld (.int .u8) w3.drew (a4.add 26) fun x31 =>
 Ld (.int .u8) w3.drew (a4.add 27) fun x32 =>
 Ld (.int .u8) w3.drew (a4.add 28) fun x33 =>
 Ld (.int .u8) w3.drew (a4.add 29) fun x34 =>
 Ld (.int .u8) w3.drew (a4.add 30) fun x35 =>
 Ld (.int .u8) w3.drew (a4.add 31) fun x36 =>
 Ld (.int .u8) w3.drew (a4.add 32) fun x37 =>
 Ld (.int .u8) w3.drew (a4.add 33) fun x38 =>
 Ld (.int .u8) w3.drew (a4.add 34) fun x39 =>
 Ld (.int .u8) w3.drew (a4.add 35) fun x40 =>
 Ld .slice w3.drew (a4.add 36) fun x41 =>
 ∃ a42 : Addr, a0 = some a42 ∧
 Ld (.int .i64) w3.drew (a42.add 40) fun x43 =>
 ∃ a44 : Addr, a0 = some a44 ∧
 Ld (.int .i64) w3.drew (a44.add 32) fun x45 =>
 c_cut6_Cut x5 x6 x7 x8 x9 x10 x11 x12 x13 x14 x15 x16 x17 x18 x19 x20 x21 x22 x23 x24 x25 x26 x27 x28 x29 x30 x31 x32 x33 x34 x35 x36 x37 x38 x39 x40 x41 x43 x45 w3.drew fun r46 r47 w48 =>
 (bif (r47 != 0) then
 K ⟨none, 0, 0⟩ r47 w48
 else
 let J49 : World → Prop := fun w50 =>
 (LoopP (S := SliceV × Int × Unit) (fun s51 w52 next53 =>
 (bif (decide (s51.2.1 < (r46.len : Int))) then
 AtIx r46 37 s51.2.1 fun a54 =>
 Ld (.int .i64) w52 (a54.add 0) fun x55 =>
 Ld (.int .i64) w52 (a54.add 1) fun x56 =>
 Ld (.int .i64) w52 (a54.add 2) fun x57 =>
 Ld (.int .i64) w52 (a54.add 3) fun x58 =>
 Ld (.int .u8) w52 (a54.add 4) fun x59 =>
 Ld (.int .u8) w52 (a54.add 5) fun x60 =>
 Ld (.int .u8) w52 (a54.add 6) fun x61 =>
 Ld (.int .u8) w52 (a54.add 7) fun x62 =>
 Ld (.int .u8) w52 (a54.add 8) fun x63 =>
 Ld (.int .u8) w52 (a54.add 9) fun x64 =>
 Ld (.int .u8) w52 (a54.add 10) fun x65 =>
 Ld (.int .u8) w52 (a54.add 11) fun x66 =>
 Ld (.int .u8) w52 (a54.add 12) fun x67 =>
 Ld (.int .u8) w52 (a54.add 13) fun x68 =>
 Ld (.int .u8) w52 (a54.add 14) fun x69 =>
 Ld (.int .u8) w52 (a54.add 15) fun x70 =>
 Ld (.int .u8) w52 (a54.add 16) fun x71 =>
 Ld (.int .u8) w52 (a54.add 17) fun x72 =>
 Ld (.int .u8) w52 (a54.add 18) fun x73 =>
 Ld (.int .u8) w52 (a54.add 19) fun x74 =>
 Ld (.int .u8) w52 (a54.add 20) fun x75 =>
 Ld (.int .u8) w52 (a54.add 21) fun x76 =>
 Ld (.int .u8) w52 (a54.add 22) fun x77 =>
 Ld (.int .u8) w52 (a54.add 23) fun x78 =>
 Ld (.int .u8) w52 (a54.add 24) fun x79 =>
 Ld (.int .u8) w52 (a54.add 25) fun x80 =>
 Ld (.int .u8) w52 (a54.add 26) fun x81 =>
 Ld (.int .u8) w52 (a54.add 27) fun x82 =>
 Ld (.int .u8) w52 (a54.add 28) fun x83 =>
 Ld (.int .u8) w52 (a54.add 29) fun x84 =>
 Ld (.int .u8) w52 (a54.add 30) fun x85 =>
 Ld (.int .u8) w52 (a54.add 31) fun x86 =>
 Ld (.int .u8) w52 (a54.add 32) fun x87 =>
 Ld (.int .u8) w52 (a54.add 33) fun x88 =>
 Ld (.int .u8) w52 (a54.add 34) fun x89 =>
 Ld (.int .u8) w52 (a54.add 35) fun x90 =>
 Ld .slice w52 (a54.add 36) fun x91 =>
 Al w52 (.cells ⟨((Value.int .i64 0) :: (Value.int .i64 0) :: (Value.int .i64 0) :: (Value.int .i64 0) :: (Value.int .u8 0) :: (Value.int .u8 0) :: (Value.int .u8 0) :: (Value.int .u8 0) :: (Value.int .u8 0) :: (Value.int .u8 0) :: (Value.int .u8 0) :: (Value.int .u8 0) :: (Value.int .u8 0) :: (Value.int .u8 0) :: (Value.int .u8 0) :: (Value.int .u8 0) :: (Value.int .u8 0) :: (Value.int .u8 0) :: (Value.int .u8 0) :: (Value.int .u8 0) :: (Value.int .u8 0) :: (Value.int .u8 0) :: (Value.int .u8 0) :: (Value.int .u8 0) :: (Value.int .u8 0) :: (Value.int .u8 0) :: (Value.int .u8 0) :: (Value.int .u8 0) :: (Value.int .u8 0) :: (Value.int .u8 0) :: (Value.int .u8 0) :: (Value.int .u8 0) :: (Value.int .u8 0) :: (Value.int .u8 0) :: (Value.int .u8 0) :: (Value.int .u8 0) :: (Value.slice none 0 0) :: [])⟩ 38) fun a93 w92 =>
 StN ((Value.int .i64 x55) :: (Value.int .i64 x56) :: (Value.int .i64 x57) :: (Value.int .i64 x58) :: (Value.int .u8 x59) :: (Value.int .u8 x60) :: (Value.int .u8 x61) :: (Value.int .u8 x62) :: (Value.int .u8 x63) :: (Value.int .u8 x64) :: (Value.int .u8 x65) :: (Value.int .u8 x66) :: (Value.int .u8 x67) :: (Value.int .u8 x68) :: (Value.int .u8 x69) :: (Value.int .u8 x70) :: (Value.int .u8 x71) :: (Value.int .u8 x72) :: (Value.int .u8 x73) :: (Value.int .u8 x74) :: (Value.int .u8 x75) :: (Value.int .u8 x76) :: (Value.int .u8 x77) :: (Value.int .u8 x78) :: (Value.int .u8 x79) :: (Value.int .u8 x80) :: (Value.int .u8 x81) :: (Value.int .u8 x82) :: (Value.int .u8 x83) :: (Value.int .u8 x84) :: (Value.int .u8 x85) :: (Value.int .u8 x86) :: (Value.int .u8 x87) :: (Value.int .u8 x88) :: (Value.int .u8 x89) :: (Value.int .u8 x90) :: (Value.slice x91.a x91.len x91.cap) :: []) w92 a93 0 fun w94 =>
 Ld (.int .i64) w94 (a93.add 0) fun x95 =>
 Ld (.int .i64) w94 (a93.add 1) fun x96 =>
 Ld (.int .i64) w94 (a93.add 2) fun x97 =>
 Ld (.int .i64) w94 (a93.add 3) fun x98 =>
 Ld (.int .u8) w94 (a93.add 4) fun x99 =>
 Ld (.int .u8) w94 (a93.add 5) fun x100 =>
 Ld (.int .u8) w94 (a93.add 6) fun x101 =>
 Ld (.int .u8) w94 (a93.add 7) fun x102 =>
 Ld (.int .u8) w94 (a93.add 8) fun x103 =>
 Ld (.int .u8) w94 (a93.add 9) fun x104 =>
 Ld (.int .u8) w94 (a93.add 10) fun x105 =>
 Ld (.int .u8) w94 (a93.add 11) fun x106 =>
 Ld (.int .u8) w94 (a93.add 12) fun x107 =>
 Ld (.int .u8) w94 (a93.add 13) fun x108 =>
 Ld (.int .u8) w94 (a93.add 14) fun x109 =>
 Ld (.int .u8) w94 (a93.add 15) fun x110 =>
 Ld (.int .u8) w94 (a93.add 16) fun x111 =>
 Ld (.int .u8) w94 (a93.add 17) fun x112 =>
 Ld (.int .u8) w94 (a93.add 18) fun x113 =>
 Ld (.int .u8) w94 (a93.add 19) fun x114 =>
 Ld (.int .u8) w94 (a93.add 20) fun x115 =>
 Ld (.int .u8) w94 (a93.add 21) fun x116 =>
 Ld (.int .u8) w94 (a93.add 22) fun x117 =>
 Ld (.int .u8) w94 (a93.add 23) fun x118 =>
 Ld (.int .u8) w94 (a93.add 24) fun x119 =>
 Ld (.int .u8) w94 (a93.add 25) fun x120 =>
 Ld (.int .u8) w94 (a93.add 26) fun x121 =>
 Ld (.int .u8) w94 (a93.add 27) fun x122 =>
 Ld (.int .u8) w94 (a93.add 28) fun x123 =>
 Ld (.int .u8) w94 (a93.add 29) fun x124 =>
 Ld (.int .u8) w94 (a93.add 30) fun x125 =>
 Ld (.int .u8) w94 (a93.add 31) fun x126 =>
 Ld (.int .u8) w94 (a93.add 32) fun x127 =>
 Ld (.int .u8) w94 (a93.add 33) fun x128 =>
 Ld (.int .u8) w94 (a93.add 34) fun x129 =>
 Ld (.int .u8) w94 (a93.add 35) fun x130 =>
 Ld .slice w94 (a93.add 36) fun x131 =>
 c_v6_Build x95 x96 x97 x98 x99 x100 x101 x102 x103 x104 x105 x106 x107 x108 x109 x110 x111 x112 x113 x114 x115 x116 x117 x118 x119 x120 x121 x122 x123 x124 x125 x126 x127 x128 x129 x130 x131 w94 fun r132 r133 w134 =>
 (bif (r133 != 0) then
 K ⟨none, 0, 0⟩ r133 w134
 else
 Al w134 (.cells ⟨[(Value.slice r132.a r132.len r132.cap)]⟩ 22) fun a136 w135 =>
 AppSl 22 1 24 [(Value.slice none 0 0)] s51.1 ⟨(some a136), 1, 1⟩ w135 fun s137 w138 =>
 next53 (s137, (IntKind.i64.wrap (s51.2.1 + 1)), ()) w138)
 else
 K s51.1 0 w52)) (⟨none, 0, 0⟩, 0, ()) w50)
 (bif (decide ((r46.len : Int) > 1)) then
 ∃ a139 : Addr, a0 = some a139 ∧
 Ld (.int .i64) w48 (a139.add 40) fun x140 =>
 ∃ a141 : Addr, a0 = some a141 ∧
 St w48 (a141.add 40) (Value.int .i64 (andI .i64 (IntKind.i64.wrap (x140 + 1)) 4294967295)) fun w142 =>
 J49 w142
 else
 J49 w48)))
theorem e_b4_B4_cut (a0 : Option Addr) (a1_0 : Int) (a1_1 : Int) (a1_2 : Int) (a1_3 : Int) (a1_4 : Int) (a1_5 : Int) (a1_6 : Int) (a1_7 : Int) (a1_8 : Int) (a1_9 : Int) (a1_10 : Int) (a1_11 : Int) (a1_12 : Int) (a1_13 : Int) (a1_14 : Int) (a1_15 : Int) (a1_16 : Int) (a1_17 : Int) (a1_18 : Int) (a1_19 : Int) (a1_20 : Int) (a1_21 : Int) (a1_22 : Int) (a1_23 : Int) (a1_24 : Int) (a1_25 : Int) (a1_26 : Int) (a1_27 : Int) (a1_28 : Int) (a1_29 : Int) (a1_30 : Int) (a1_31 : Int) (a1_32 : Int) (a1_33 : Int) (a1_34 : Int) (a1_35 : Int) (a1_36 : SliceV) (w : World) (K : SliceV → Int → World → Prop) : den Tryz.prog 62 (bodyOf Tryz.f27) none (.seq .leaf (.seq .leaf (.seq (.seq .leaf (.cond (.seq .leaf .leaf) .leaf)) (.seq (.seq .leaf (.cond .leaf .leaf)) (.seq .leaf (.seq (.seq .leaf (.blk (.loop [(8, .slice), (44, (.int .i64))] (.seq .leaf (.seq (.cond .leaf .leaf) (.seq (.blk (.seq .leaf (.seq .leaf (.seq (.seq .leaf (.cond (.seq .leaf .leaf) .leaf)) .leaf)))) .leaf)))))) (.seq .leaf .leaf))))))) (argEnv 0 [(Value.pointer a0), (Value.agg ⟨((Value.int .i64 a1_0) :: (Value.int .i64 a1_1) :: (Value.int .i64 a1_2) :: (Value.int .i64 a1_3) :: (Value.int .u8 a1_4) :: (Value.int .u8 a1_5) :: (Value.int .u8 a1_6) :: (Value.int .u8 a1_7) :: (Value.int .u8 a1_8) :: (Value.int .u8 a1_9) :: (Value.int .u8 a1_10) :: (Value.int .u8 a1_11) :: (Value.int .u8 a1_12) :: (Value.int .u8 a1_13) :: (Value.int .u8 a1_14) :: (Value.int .u8 a1_15) :: (Value.int .u8 a1_16) :: (Value.int .u8 a1_17) :: (Value.int .u8 a1_18) :: (Value.int .u8 a1_19) :: (Value.int .u8 a1_20) :: (Value.int .u8 a1_21) :: (Value.int .u8 a1_22) :: (Value.int .u8 a1_23) :: (Value.int .u8 a1_24) :: (Value.int .u8 a1_25) :: (Value.int .u8 a1_26) :: (Value.int .u8 a1_27) :: (Value.int .u8 a1_28) :: (Value.int .u8 a1_29) :: (Value.int .u8 a1_30) :: (Value.int .u8 a1_31) :: (Value.int .u8 a1_32) :: (Value.int .u8 a1_33) :: (Value.int .u8 a1_34) :: (Value.int .u8 a1_35) :: (Value.slice a1_36.a a1_36.len a1_36.cap) :: [])⟩)]) [] w (retK Tryz.prog [.tmp 4, .tmp 5] [.one .slice, .one (.int .i64)] K) = s_b4_B4_cut a0 a1_0 a1_1 a1_2 a1_3 a1_4 a1_5 a1_6 a1_7 a1_8 a1_9 a1_10 a1_11 a1_12 a1_13 a1_14 a1_15 a1_16 a1_17 a1_18 a1_19 a1_20 a1_21 a1_22 a1_23 a1_24 a1_25 a1_26 a1_27 a1_28 a1_29 a1_30 a1_31 a1_32 a1_33 a1_34 a1_35 a1_36 w K := by kernel_rfl
theorem ok_b4_B4_cut {a0 a1_0 a1_1 a1_2 a1_3 a1_4 a1_5 a1_6 a1_7 a1_8 a1_9 a1_10 a1_11 a1_12 a1_13 a1_14 a1_15 a1_16 a1_17 a1_18 a1_19 a1_20 a1_21 a1_22 a1_23 a1_24 a1_25 a1_26 a1_27 a1_28 a1_29 a1_30 a1_31 a1_32 a1_33 a1_34 a1_35 a1_36 w K} (h : s_b4_B4_cut a0 a1_0 a1_1 a1_2 a1_3 a1_4 a1_5 a1_6 a1_7 a1_8 a1_9 a1_10 a1_11 a1_12 a1_13 a1_14 a1_15 a1_16 a1_17 a1_18 a1_19 a1_20 a1_21 a1_22 a1_23 a1_24 a1_25 a1_26 a1_27 a1_28 a1_29 a1_30 a1_31 a1_32 a1_33 a1_34 a1_35 a1_36 w K) : c_b4_B4_cut a0 a1_0 a1_1 a1_2 a1_3 a1_4 a1_5 a1_6 a1_7 a1_8 a1_9 a1_10 a1_11 a1_12 a1_13 a1_14 a1_15 a1_16 a1_17 a1_18 a1_19 a1_20 a1_21 a1_22 a1_23 a1_24 a1_25 a1_26 a1_27 a1_28 a1_29 a1_30 a1_31 a1_32 a1_33 a1_34 a1_35 a1_36 w K :=
  fn_sound pok Tryz.func27 (fn := Tryz.f27) (c := bodyOf Tryz.f27) (nt := 62) (by kernel_rfl) (by kernel_rfl) (rs := [.tmp 4, .tmp 5]) (by kernel_rfl) [.one .slice, .one (.int .i64)] K (.seq .leaf (.seq .leaf (.seq (.seq .leaf (.cond (.seq .leaf .leaf) .leaf)) (.seq (.seq .leaf (.cond .leaf .leaf)) (.seq .leaf (.seq (.seq .leaf (.blk (.loop [(8, .slice), (44, (.int .i64))] (.seq .leaf (.seq (.cond .leaf .leaf) (.seq (.blk (.seq .leaf (.seq .leaf (.seq (.seq .leaf (.cond (.seq .leaf .leaf) .leaf)) .leaf)))) .leaf)))))) (.seq .leaf .leaf))))))) [(Value.pointer a0), (Value.agg ⟨((Value.int .i64 a1_0) :: (Value.int .i64 a1_1) :: (Value.int .i64 a1_2) :: (Value.int .i64 a1_3) :: (Value.int .u8 a1_4) :: (Value.int .u8 a1_5) :: (Value.int .u8 a1_6) :: (Value.int .u8 a1_7) :: (Value.int .u8 a1_8) :: (Value.int .u8 a1_9) :: (Value.int .u8 a1_10) :: (Value.int .u8 a1_11) :: (Value.int .u8 a1_12) :: (Value.int .u8 a1_13) :: (Value.int .u8 a1_14) :: (Value.int .u8 a1_15) :: (Value.int .u8 a1_16) :: (Value.int .u8 a1_17) :: (Value.int .u8 a1_18) :: (Value.int .u8 a1_19) :: (Value.int .u8 a1_20) :: (Value.int .u8 a1_21) :: (Value.int .u8 a1_22) :: (Value.int .u8 a1_23) :: (Value.int .u8 a1_24) :: (Value.int .u8 a1_25) :: (Value.int .u8 a1_26) :: (Value.int .u8 a1_27) :: (Value.int .u8 a1_28) :: (Value.int .u8 a1_29) :: (Value.int .u8 a1_30) :: (Value.int .u8 a1_31) :: (Value.int .u8 a1_32) :: (Value.int .u8 a1_33) :: (Value.int .u8 a1_34) :: (Value.int .u8 a1_35) :: (Value.slice a1_36.a a1_36.len a1_36.cap) :: [])⟩)] (by kernel_rfl) w ((e_b4_B4_cut a0 a1_0 a1_1 a1_2 a1_3 a1_4 a1_5 a1_6 a1_7 a1_8 a1_9 a1_10 a1_11 a1_12 a1_13 a1_14 a1_15 a1_16 a1_17 a1_18 a1_19 a1_20 a1_21 a1_22 a1_23 a1_24 a1_25 a1_26 a1_27 a1_28 a1_29 a1_30 a1_31 a1_32 a1_33 a1_34 a1_35 a1_36 w K).mpr h)

/-- goosepond/six.Host -/
def s_six_Host (a0_0 : Int) (a0_1 : Int) (a0_2 : Int) (a0_3 : Int) (a0_4 : Int) (a0_5 : Int) (a0_6 : Int) (a0_7 : Int) (a0_8 : Int) (a0_9 : Int) (a0_10 : Int) (a0_11 : Int) (a0_12 : Int) (a0_13 : Int) (a0_14 : Int) (a0_15 : Int) (w : World) (K : Bool → World → Prop) : Prop :=
 (Al w (.cells ⟨[(Value.int .u8 a0_0), (Value.int .u8 a0_1), (Value.int .u8 a0_2), (Value.int .u8 a0_3), (Value.int .u8 a0_4), (Value.int .u8 a0_5), (Value.int .u8 a0_6), (Value.int .u8 a0_7), (Value.int .u8 a0_8), (Value.int .u8 a0_9), (Value.int .u8 a0_10), (Value.int .u8 a0_11), (Value.int .u8 a0_12), (Value.int .u8 a0_13), (Value.int .u8 a0_14), (Value.int .u8 a0_15)]⟩ 25) fun a3 w2 =>
 Al w2 (.cells ⟨[(Value.int .u8 0), (Value.int .u8 0), (Value.int .u8 0), (Value.int .u8 0), (Value.int .u8 0), (Value.int .u8 0), (Value.int .u8 0), (Value.int .u8 0), (Value.int .u8 0), (Value.int .u8 0), (Value.int .u8 0), (Value.int .u8 0), (Value.int .u8 0), (Value.int .u8 0), (Value.int .u8 0), (Value.int .u8 0)]⟩ 25) fun a5 w4 =>
 let J6 : Bool → Prop := fun j7 =>
 (K j7 w4)
 Ld (.int .u8) w4 (a3.add 0) fun x8 =>
 Ld (.int .u8) w4 (a3.add 1) fun x9 =>
 Ld (.int .u8) w4 (a3.add 2) fun x10 =>
 Ld (.int .u8) w4 (a3.add 3) fun x11 =>
 Ld (.int .u8) w4 (a3.add 4) fun x12 =>
 Ld (.int .u8) w4 (a3.add 5) fun x13 =>
 Ld (.int .u8) w4 (a3.add 6) fun x14 =>
 Ld (.int .u8) w4 (a3.add 7) fun x15 =>
 Ld (.int .u8) w4 (a3.add 8) fun x16 =>
 Ld (.int .u8) w4 (a3.add 9) fun x17 =>
 Ld (.int .u8) w4 (a3.add 10) fun x18 =>
 Ld (.int .u8) w4 (a3.add 11) fun x19 =>
 Ld (.int .u8) w4 (a3.add 12) fun x20 =>
 Ld (.int .u8) w4 (a3.add 13) fun x21 =>
 Ld (.int .u8) w4 (a3.add 14) fun x22 =>
 Ld (.int .u8) w4 (a3.add 15) fun x23 =>
 Ld (.int .u8) w4 (a5.add 0) fun x24 =>
 Ld (.int .u8) w4 (a5.add 1) fun x25 =>
 Ld (.int .u8) w4 (a5.add 2) fun x26 =>
 Ld (.int .u8) w4 (a5.add 3) fun x27 =>
 Ld (.int .u8) w4 (a5.add 4) fun x28 =>
 Ld (.int .u8) w4 (a5.add 5) fun x29 =>
 Ld (.int .u8) w4 (a5.add 6) fun x30 =>
 Ld (.int .u8) w4 (a5.add 7) fun x31 =>
 Ld (.int .u8) w4 (a5.add 8) fun x32 =>
 Ld (.int .u8) w4 (a5.add 9) fun x33 =>
 Ld (.int .u8) w4 (a5.add 10) fun x34 =>
 Ld (.int .u8) w4 (a5.add 11) fun x35 =>
 Ld (.int .u8) w4 (a5.add 12) fun x36 =>
 Ld (.int .u8) w4 (a5.add 13) fun x37 =>
 Ld (.int .u8) w4 (a5.add 14) fun x38 =>
 Ld (.int .u8) w4 (a5.add 15) fun x39 =>
 (bif (!((x8 == x24) && ((x9 == x25) && ((x10 == x26) && ((x11 == x27) && ((x12 == x28) && ((x13 == x29) && ((x14 == x30) && ((x15 == x31) && ((x16 == x32) && ((x17 == x33) && ((x18 == x34) && ((x19 == x35) && ((x20 == x36) && ((x21 == x37) && ((x22 == x38) && ((x23 == x39) && true))))))))))))))))) then
 (0 : Int) ≤ 0 ∧ 0 < (16 : Int) ∧
 Ld (.int .u8) w4 (a3.add (Int.toNat 0 * 1)) fun x40 =>
 J6 (x40 != 255)
 else
 J6 false))
theorem e_six_Host (a0_0 : Int) (a0_1 : Int) (a0_2 : Int) (a0_3 : Int) (a0_4 : Int) (a0_5 : Int) (a0_6 : Int) (a0_7 : Int) (a0_8 : Int) (a0_9 : Int) (a0_10 : Int) (a0_11 : Int) (a0_12 : Int) (a0_13 : Int) (a0_14 : Int) (a0_15 : Int) (w : World) (K : Bool → World → Prop) : den Tryz.prog 12 (bodyOf Tryz.f31) none (.seq .leaf (.seq .leaf (.seq .leaf .leaf))) (argEnv 0 [(Value.agg ⟨[(Value.int .u8 a0_0), (Value.int .u8 a0_1), (Value.int .u8 a0_2), (Value.int .u8 a0_3), (Value.int .u8 a0_4), (Value.int .u8 a0_5), (Value.int .u8 a0_6), (Value.int .u8 a0_7), (Value.int .u8 a0_8), (Value.int .u8 a0_9), (Value.int .u8 a0_10), (Value.int .u8 a0_11), (Value.int .u8 a0_12), (Value.int .u8 a0_13), (Value.int .u8 a0_14), (Value.int .u8 a0_15)]⟩)]) [] w (retK Tryz.prog [.tmp 2] [.one .bool] K) = s_six_Host a0_0 a0_1 a0_2 a0_3 a0_4 a0_5 a0_6 a0_7 a0_8 a0_9 a0_10 a0_11 a0_12 a0_13 a0_14 a0_15 w K := by kernel_rfl
theorem ok_six_Host {a0_0 a0_1 a0_2 a0_3 a0_4 a0_5 a0_6 a0_7 a0_8 a0_9 a0_10 a0_11 a0_12 a0_13 a0_14 a0_15 w K} (h : s_six_Host a0_0 a0_1 a0_2 a0_3 a0_4 a0_5 a0_6 a0_7 a0_8 a0_9 a0_10 a0_11 a0_12 a0_13 a0_14 a0_15 w K) : c_six_Host a0_0 a0_1 a0_2 a0_3 a0_4 a0_5 a0_6 a0_7 a0_8 a0_9 a0_10 a0_11 a0_12 a0_13 a0_14 a0_15 w K :=
  fn_sound pok Tryz.func31 (fn := Tryz.f31) (c := bodyOf Tryz.f31) (nt := 12) (by kernel_rfl) (by kernel_rfl) (rs := [.tmp 2]) (by kernel_rfl) [.one .bool] K (.seq .leaf (.seq .leaf (.seq .leaf .leaf))) [(Value.agg ⟨[(Value.int .u8 a0_0), (Value.int .u8 a0_1), (Value.int .u8 a0_2), (Value.int .u8 a0_3), (Value.int .u8 a0_4), (Value.int .u8 a0_5), (Value.int .u8 a0_6), (Value.int .u8 a0_7), (Value.int .u8 a0_8), (Value.int .u8 a0_9), (Value.int .u8 a0_10), (Value.int .u8 a0_11), (Value.int .u8 a0_12), (Value.int .u8 a0_13), (Value.int .u8 a0_14), (Value.int .u8 a0_15)]⟩)] (by kernel_rfl) w ((e_six_Host a0_0 a0_1 a0_2 a0_3 a0_4 a0_5 a0_6 a0_7 a0_8 a0_9 a0_10 a0_11 a0_12 a0_13 a0_14 a0_15 w K).mpr h)

/-- goosepond/b4.within -/
def s_b4_within (a0 : Int) (a1 : Int) (a2 : Int) (w : World) (K : Bool → World → Prop) : Prop :=
 (let J4 : Bool → Prop := fun j5 =>
 (K j5 w)
 (bif (decide (a1 ≤ a0)) then
 J4 (decide (a0 ≤ a2))
 else
 J4 false))
theorem e_b4_within (a0 : Int) (a1 : Int) (a2 : Int) (w : World) (K : Bool → World → Prop) : den Tryz.prog 15 (bodyOf Tryz.f32) none (.seq .leaf (.seq .leaf .leaf)) (argEnv 0 [(Value.int .i64 a0), (Value.int .i64 a1), (Value.int .i64 a2)]) [] w (retK Tryz.prog [.tmp 6] [.one .bool] K) = s_b4_within a0 a1 a2 w K := by kernel_rfl
theorem ok_b4_within {a0 a1 a2 w K} (h : s_b4_within a0 a1 a2 w K) : c_b4_within a0 a1 a2 w K :=
  fn_sound pok Tryz.func32 (fn := Tryz.f32) (c := bodyOf Tryz.f32) (nt := 15) (by kernel_rfl) (by kernel_rfl) (rs := [.tmp 6]) (by kernel_rfl) [.one .bool] K (.seq .leaf (.seq .leaf .leaf)) [(Value.int .i64 a0), (Value.int .i64 a1), (Value.int .i64 a2)] (by kernel_rfl) w ((e_b4_within a0 a1 a2 w K).mpr h)

/-- goosepond/join.New$1 -/
def s_join_New_1 (a0 : Int) (a1 : Int) (a2 : Int) (w : World) (K : Bool → World → Prop) : Prop :=
 (let J4 : Bool → Prop := fun j5 =>
 (K j5 w)
 (bif (decide (a0 ≥ a1)) then
 J4 (decide (a0 ≤ a2))
 else
 J4 false))
theorem e_join_New_1 (a0 : Int) (a1 : Int) (a2 : Int) (w : World) (K : Bool → World → Prop) : den Tryz.prog 15 (bodyOf Tryz.f33) none (.seq .leaf (.seq .leaf .leaf)) (argEnv 0 [(Value.int .i64 a0), (Value.int .i64 a1), (Value.int .i64 a2)]) [] w (retK Tryz.prog [.tmp 6] [.one .bool] K) = s_join_New_1 a0 a1 a2 w K := by kernel_rfl
theorem ok_join_New_1 {a0 a1 a2 w K} (h : s_join_New_1 a0 a1 a2 w K) : c_join_New_1 a0 a1 a2 w K :=
  fn_sound pok Tryz.func33 (fn := Tryz.f33) (c := bodyOf Tryz.f33) (nt := 15) (by kernel_rfl) (by kernel_rfl) (rs := [.tmp 6]) (by kernel_rfl) [.one .bool] K (.seq .leaf (.seq .leaf .leaf)) [(Value.int .i64 a0), (Value.int .i64 a1), (Value.int .i64 a2)] (by kernel_rfl) w ((e_join_New_1 a0 a1 a2 w K).mpr h)

/-- (*goosepond/counts.Counts).Add -/
def s_counts_Counts_Add (a0 : Option Addr) (a1 : Int) (w : World) (K : Bool → World → Prop) : Prop :=
 (let J3 : Bool → World → Prop := fun j4 w5 =>
 ((bif j4 then
 K false w5
 else
 ∃ a6 : Addr, a0 = some a6 ∧
 Ld .slice w5 a6 fun x7 =>
 AtIx x7 1 a1 fun a8 =>
 Ld (.int .i64) w5 a8 fun x9 =>
 AtIx x7 1 a1 fun a10 =>
 St w5 a10 (Value.int .i64 (IntKind.i64.wrap (x9 + 1))) fun w11 =>
 K true w11))
 c_counts_Counts_has a0 a1 w fun r12 w13 =>
 (bif (!r12) then
 J3 true w13
 else
 J3 (a1 == 0) w13))
theorem e_counts_Counts_Add (a0 : Option Addr) (a1 : Int) (w : World) (K : Bool → World → Prop) : den Tryz.prog 22 (bodyOf Tryz.f45) none (.seq .leaf (.seq (.seq .leaf (.cond (.seq .leaf .leaf) .leaf)) (.seq .leaf (.seq .leaf .leaf)))) (argEnv 0 [(Value.pointer a0), (Value.int .i64 a1)]) [] w (retK Tryz.prog [.tmp 4] [.one .bool] K) = s_counts_Counts_Add a0 a1 w K := by kernel_rfl
theorem ok_counts_Counts_Add {a0 a1 w K} (h : s_counts_Counts_Add a0 a1 w K) : c_counts_Counts_Add a0 a1 w K :=
  fn_sound pok Tryz.func45 (fn := Tryz.f45) (c := bodyOf Tryz.f45) (nt := 22) (by kernel_rfl) (by kernel_rfl) (rs := [.tmp 4]) (by kernel_rfl) [.one .bool] K (.seq .leaf (.seq (.seq .leaf (.cond (.seq .leaf .leaf) .leaf)) (.seq .leaf (.seq .leaf .leaf)))) [(Value.pointer a0), (Value.int .i64 a1)] (by kernel_rfl) w ((e_counts_Counts_Add a0 a1 w K).mpr h)

/-- goosepond/b4.built -/
def s_b4_built (a0_0 : Int) (a0_1 : Int) (a0_2 : Int) (a0_3 : Int) (a0_4 : Int) (a0_5 : Int) (a0_6 : Int) (a0_7 : Bool) (a0_8 : Bool) (a0_9 : SliceV) (a0_10 : SliceV) (a1 : Int) (w : World) (K : SliceV → World → Prop) : Prop :=
 (Al w (.cells ⟨[(Value.int .i64 a0_0), (Value.int .i64 a0_1), (Value.int .i64 a0_2), (Value.int .i64 a0_3), (Value.int .i64 a0_4), (Value.int .i64 a0_5), (Value.int .i64 a0_6), (Value.bool a0_7), (Value.bool a0_8), (Value.slice a0_9.a a0_9.len a0_9.cap), (Value.slice a0_10.a a0_10.len a0_10.cap)]⟩ 46) fun a4 w3 =>
 (bif (a1 != 0) then
 K ⟨none, 0, 0⟩ w3
 else
 Ld (.int .i64) w3 (a4.add 0) fun x5 =>
 Ld (.int .i64) w3 (a4.add 1) fun x6 =>
 Ld (.int .i64) w3 (a4.add 2) fun x7 =>
 Ld (.int .i64) w3 (a4.add 3) fun x8 =>
 Ld (.int .i64) w3 (a4.add 4) fun x9 =>
 Ld (.int .i64) w3 (a4.add 5) fun x10 =>
 Ld (.int .i64) w3 (a4.add 6) fun x11 =>
 Ld .bool w3 (a4.add 7) fun x12 =>
 Ld .bool w3 (a4.add 8) fun x13 =>
 Ld .slice w3 (a4.add 9) fun x14 =>
 Ld .slice w3 (a4.add 10) fun x15 =>
 c_v4_Build x5 x6 x7 x8 x9 x10 x11 x12 x13 x14 x15 w3 fun r16 r17 w18 =>
 c_b4_list r16 r17 w18 fun r19 w20 =>
 K r19 w20))
theorem e_b4_built (a0_0 : Int) (a0_1 : Int) (a0_2 : Int) (a0_3 : Int) (a0_4 : Int) (a0_5 : Int) (a0_6 : Int) (a0_7 : Bool) (a0_8 : Bool) (a0_9 : SliceV) (a0_10 : SliceV) (a1 : Int) (w : World) (K : SliceV → World → Prop) : den Tryz.prog 12 (bodyOf Tryz.f49) none (.seq .leaf (.seq (.seq .leaf (.cond (.seq .leaf .leaf) .leaf)) (.seq .leaf .leaf))) (argEnv 0 [(Value.agg ⟨[(Value.int .i64 a0_0), (Value.int .i64 a0_1), (Value.int .i64 a0_2), (Value.int .i64 a0_3), (Value.int .i64 a0_4), (Value.int .i64 a0_5), (Value.int .i64 a0_6), (Value.bool a0_7), (Value.bool a0_8), (Value.slice a0_9.a a0_9.len a0_9.cap), (Value.slice a0_10.a a0_10.len a0_10.cap)]⟩), (Value.int .i64 a1)]) [] w (retK Tryz.prog [.tmp 4] [.one .slice] K) = s_b4_built a0_0 a0_1 a0_2 a0_3 a0_4 a0_5 a0_6 a0_7 a0_8 a0_9 a0_10 a1 w K := by kernel_rfl
theorem ok_b4_built {a0_0 a0_1 a0_2 a0_3 a0_4 a0_5 a0_6 a0_7 a0_8 a0_9 a0_10 a1 w K} (h : s_b4_built a0_0 a0_1 a0_2 a0_3 a0_4 a0_5 a0_6 a0_7 a0_8 a0_9 a0_10 a1 w K) : c_b4_built a0_0 a0_1 a0_2 a0_3 a0_4 a0_5 a0_6 a0_7 a0_8 a0_9 a0_10 a1 w K :=
  fn_sound pok Tryz.func49 (fn := Tryz.f49) (c := bodyOf Tryz.f49) (nt := 12) (by kernel_rfl) (by kernel_rfl) (rs := [.tmp 4]) (by kernel_rfl) [.one .slice] K (.seq .leaf (.seq (.seq .leaf (.cond (.seq .leaf .leaf) .leaf)) (.seq .leaf .leaf))) [(Value.agg ⟨[(Value.int .i64 a0_0), (Value.int .i64 a0_1), (Value.int .i64 a0_2), (Value.int .i64 a0_3), (Value.int .i64 a0_4), (Value.int .i64 a0_5), (Value.int .i64 a0_6), (Value.bool a0_7), (Value.bool a0_8), (Value.slice a0_9.a a0_9.len a0_9.cap), (Value.slice a0_10.a a0_10.len a0_10.cap)]⟩), (Value.int .i64 a1)] (by kernel_rfl) w ((e_b4_built a0_0 a0_1 a0_2 a0_3 a0_4 a0_5 a0_6 a0_7 a0_8 a0_9 a0_10 a1 w K).mpr h)

/-- (*goosepond/counts.Counts).has -/
def s_counts_Counts_has (a0 : Option Addr) (a1 : Int) (w : World) (K : Bool → World → Prop) : Prop :=
 (let J3 : Bool → Prop := fun j4 =>
 (K j4 w)
 (bif (!(Option.isNone a0)) then
 (bif (decide (a1 ≥ 0)) then
 ∃ a5 : Addr, a0 = some a5 ∧
 Ld .slice w a5 fun x6 =>
 J3 (decide (a1 < (x6.len : Int)))
 else
 J3 false)
 else
 J3 false))
theorem e_counts_Counts_has (a0 : Option Addr) (a1 : Int) (w : World) (K : Bool → World → Prop) : den Tryz.prog 20 (bodyOf Tryz.f73) none (.seq .leaf (.seq .leaf .leaf)) (argEnv 0 [(Value.pointer a0), (Value.int .i64 a1)]) [] w (retK Tryz.prog [.tmp 4] [.one .bool] K) = s_counts_Counts_has a0 a1 w K := by kernel_rfl
theorem ok_counts_Counts_has {a0 a1 w K} (h : s_counts_Counts_has a0 a1 w K) : c_counts_Counts_has a0 a1 w K :=
  fn_sound pok Tryz.func73 (fn := Tryz.f73) (c := bodyOf Tryz.f73) (nt := 20) (by kernel_rfl) (by kernel_rfl) (rs := [.tmp 4]) (by kernel_rfl) [.one .bool] K (.seq .leaf (.seq .leaf .leaf)) [(Value.pointer a0), (Value.int .i64 a1)] (by kernel_rfl) w ((e_counts_Counts_has a0 a1 w K).mpr h)

/-- goosepond/b4.list -/
def s_b4_list (a0 : SliceV) (a1 : Int) (w : World) (K : SliceV → World → Prop) : Prop :=
 ((bif (a1 != 0) then
 K ⟨none, 0, 0⟩ w
 else
 Al w (.cells ⟨[(Value.slice a0.a a0.len a0.cap)]⟩ 22) fun a4 w3 =>
 K ⟨(some a4), 1, 1⟩ w3))
theorem e_b4_list (a0 : SliceV) (a1 : Int) (w : World) (K : SliceV → World → Prop) : den Tryz.prog 9 (bodyOf Tryz.f75) none (.seq .leaf (.seq (.seq .leaf (.cond (.seq .leaf .leaf) .leaf)) (.seq .leaf .leaf))) (argEnv 0 [(Value.slice a0.a a0.len a0.cap), (Value.int .i64 a1)]) [] w (retK Tryz.prog [.tmp 4] [.one .slice] K) = s_b4_list a0 a1 w K := by kernel_rfl
theorem ok_b4_list {a0 a1 w K} (h : s_b4_list a0 a1 w K) : c_b4_list a0 a1 w K :=
  fn_sound pok Tryz.func75 (fn := Tryz.f75) (c := bodyOf Tryz.f75) (nt := 9) (by kernel_rfl) (by kernel_rfl) (rs := [.tmp 4]) (by kernel_rfl) [.one .slice] K (.seq .leaf (.seq (.seq .leaf (.cond (.seq .leaf .leaf) .leaf)) (.seq .leaf .leaf))) [(Value.slice a0.a a0.len a0.cap), (Value.int .i64 a1)] (by kernel_rfl) w ((e_b4_list a0 a1 w K).mpr h)

end Go.Proofs
