import Derived.Test.YtjejhaefbhbghaaG19p
namespace Go.Proofs
open Gp
set_option maxRecDepth 100000
set_option maxHeartbeats 4000000
/-- goosepond/config.Check -/
abbrev n_config_Check : FuncId := 16
def c_config_Check (a0_0 : Int) (a0_1 : Int) (a0_2 : Int) (a0_3 : Int) (a0_4 : Int) (a0_5 : Int) (a0_6 : Int) (a0_7 : Int) (a0_8 : Int) (a0_9 : Int) (a0_10 : Int) (a0_11 : Int) (a0_12 : Int) (a0_13 : Int) (a0_14 : Int) (a0_15 : Int) (a0_16 : SliceV) (a0_17 : SliceV) (a0_18 : Int) (a0_19 : Int) (a0_20 : Int) (a0_21 : Int) (a0_22 : Int) (a0_23 : Int) (a0_24 : Int) (a0_25 : Int) (a0_26 : Int) (a0_27 : Int) (a0_28 : Int) (a0_29 : Int) (a0_30 : Int) (a0_31 : Int) (a0_32 : Int) (a0_33 : Int) (a0_34 : Int) (a0_35 : SliceV) (w : World) (K : Int → World → Prop) : Prop :=
  Calls Try.prog 16 ⟨[(Value.agg ⟨((Value.int .u8 a0_0) :: (Value.int .u8 a0_1) :: (Value.int .u8 a0_2) :: (Value.int .u8 a0_3) :: (Value.int .u8 a0_4) :: (Value.int .u8 a0_5) :: (Value.int .u8 a0_6) :: (Value.int .u8 a0_7) :: (Value.int .u8 a0_8) :: (Value.int .u8 a0_9) :: (Value.int .u8 a0_10) :: (Value.int .u8 a0_11) :: (Value.int .u8 a0_12) :: (Value.int .u8 a0_13) :: (Value.int .u8 a0_14) :: (Value.int .u8 a0_15) :: (Value.slice a0_16.a a0_16.len a0_16.cap) :: (Value.slice a0_17.a a0_17.len a0_17.cap) :: (Value.int .i64 a0_18) :: (Value.int .i64 a0_19) :: (Value.int .i64 a0_20) :: (Value.int .i64 a0_21) :: (Value.int .i64 a0_22) :: (Value.int .i64 a0_23) :: (Value.int .i64 a0_24) :: (Value.int .i64 a0_25) :: (Value.int .i64 a0_26) :: (Value.int .i64 a0_27) :: (Value.int .i64 a0_28) :: (Value.int .i64 a0_29) :: (Value.int .i64 a0_30) :: (Value.int .i64 a0_31) :: (Value.int .i64 a0_32) :: (Value.int .i64 a0_33) :: (Value.int .i64 a0_34) :: (Value.slice a0_35.a a0_35.len a0_35.cap) :: [])⟩)]⟩ w fun e w' => ∃ y139 : Int, e = .returned (Value.int .i64 y139) ∧ K y139 w'
theorem cm_config_Check {a0_0 a0_1 a0_2 a0_3 a0_4 a0_5 a0_6 a0_7 a0_8 a0_9 a0_10 a0_11 a0_12 a0_13 a0_14 a0_15 a0_16 a0_17 a0_18 a0_19 a0_20 a0_21 a0_22 a0_23 a0_24 a0_25 a0_26 a0_27 a0_28 a0_29 a0_30 a0_31 a0_32 a0_33 a0_34 a0_35 w K K'} (h : c_config_Check a0_0 a0_1 a0_2 a0_3 a0_4 a0_5 a0_6 a0_7 a0_8 a0_9 a0_10 a0_11 a0_12 a0_13 a0_14 a0_15 a0_16 a0_17 a0_18 a0_19 a0_20 a0_21 a0_22 a0_23 a0_24 a0_25 a0_26 a0_27 a0_28 a0_29 a0_30 a0_31 a0_32 a0_33 a0_34 a0_35 w K) (hk : ∀ x0 w', K x0 w' → K' x0 w') : c_config_Check a0_0 a0_1 a0_2 a0_3 a0_4 a0_5 a0_6 a0_7 a0_8 a0_9 a0_10 a0_11 a0_12 a0_13 a0_14 a0_15 a0_16 a0_17 a0_18 a0_19 a0_20 a0_21 a0_22 a0_23 a0_24 a0_25 a0_26 a0_27 a0_28 a0_29 a0_30 a0_31 a0_32 a0_33 a0_34 a0_35 w K' :=
  Calls.mono h fun e w' hh => by obtain ⟨x0, he, hx⟩ := hh; exact ⟨x0, he, hk _ _ hx⟩

/-- goosepond/goosepondref20.Check -/
abbrev n_ref20_Check : FuncId := 17
def c_ref20_Check (a0_0 : Int) (a0_1 : Int) (a0_2 : Int) (a0_3 : Int) (a0_4 : Int) (a0_5 : Int) (a0_6 : Int) (a0_7 : Int) (a0_8 : Int) (a0_9 : Int) (a0_10 : Int) (a0_11 : Int) (a0_12 : Int) (a0_13 : Int) (a0_14 : Int) (a0_15 : Int) (a0_16 : SliceV) (a0_17 : SliceV) (a0_18 : Int) (a0_19 : Int) (a0_20 : Int) (a0_21 : Int) (a0_22 : Int) (a0_23 : Int) (a0_24 : Int) (a0_25 : Int) (a0_26 : Int) (a0_27 : Int) (a0_28 : Int) (a0_29 : Int) (a0_30 : Int) (a0_31 : Int) (a0_32 : Int) (a0_33 : Int) (a0_34 : Int) (a0_35 : SliceV) (w : World) (K : Int → World → Prop) : Prop :=
  Calls Try.prog 17 ⟨[(Value.agg ⟨((Value.int .u8 a0_0) :: (Value.int .u8 a0_1) :: (Value.int .u8 a0_2) :: (Value.int .u8 a0_3) :: (Value.int .u8 a0_4) :: (Value.int .u8 a0_5) :: (Value.int .u8 a0_6) :: (Value.int .u8 a0_7) :: (Value.int .u8 a0_8) :: (Value.int .u8 a0_9) :: (Value.int .u8 a0_10) :: (Value.int .u8 a0_11) :: (Value.int .u8 a0_12) :: (Value.int .u8 a0_13) :: (Value.int .u8 a0_14) :: (Value.int .u8 a0_15) :: (Value.slice a0_16.a a0_16.len a0_16.cap) :: (Value.slice a0_17.a a0_17.len a0_17.cap) :: (Value.int .i64 a0_18) :: (Value.int .i64 a0_19) :: (Value.int .i64 a0_20) :: (Value.int .i64 a0_21) :: (Value.int .i64 a0_22) :: (Value.int .i64 a0_23) :: (Value.int .i64 a0_24) :: (Value.int .i64 a0_25) :: (Value.int .i64 a0_26) :: (Value.int .i64 a0_27) :: (Value.int .i64 a0_28) :: (Value.int .i64 a0_29) :: (Value.int .i64 a0_30) :: (Value.int .i64 a0_31) :: (Value.int .i64 a0_32) :: (Value.int .i64 a0_33) :: (Value.int .i64 a0_34) :: (Value.slice a0_35.a a0_35.len a0_35.cap) :: [])⟩)]⟩ w fun e w' => ∃ y121 : Int, e = .returned (Value.int .i64 y121) ∧ K y121 w'
theorem cm_ref20_Check {a0_0 a0_1 a0_2 a0_3 a0_4 a0_5 a0_6 a0_7 a0_8 a0_9 a0_10 a0_11 a0_12 a0_13 a0_14 a0_15 a0_16 a0_17 a0_18 a0_19 a0_20 a0_21 a0_22 a0_23 a0_24 a0_25 a0_26 a0_27 a0_28 a0_29 a0_30 a0_31 a0_32 a0_33 a0_34 a0_35 w K K'} (h : c_ref20_Check a0_0 a0_1 a0_2 a0_3 a0_4 a0_5 a0_6 a0_7 a0_8 a0_9 a0_10 a0_11 a0_12 a0_13 a0_14 a0_15 a0_16 a0_17 a0_18 a0_19 a0_20 a0_21 a0_22 a0_23 a0_24 a0_25 a0_26 a0_27 a0_28 a0_29 a0_30 a0_31 a0_32 a0_33 a0_34 a0_35 w K) (hk : ∀ x0 w', K x0 w' → K' x0 w') : c_ref20_Check a0_0 a0_1 a0_2 a0_3 a0_4 a0_5 a0_6 a0_7 a0_8 a0_9 a0_10 a0_11 a0_12 a0_13 a0_14 a0_15 a0_16 a0_17 a0_18 a0_19 a0_20 a0_21 a0_22 a0_23 a0_24 a0_25 a0_26 a0_27 a0_28 a0_29 a0_30 a0_31 a0_32 a0_33 a0_34 a0_35 w K' :=
  Calls.mono h fun e w' hh => by obtain ⟨x0, he, hx⟩ := hh; exact ⟨x0, he, hk _ _ hx⟩

/-- goosepond/config.bounds -/
abbrev n_config_bounds : FuncId := 37
def c_config_bounds (a0_0 : Int) (a0_1 : Int) (a0_2 : Int) (a0_3 : Int) (a0_4 : Int) (a0_5 : Int) (a0_6 : Int) (a0_7 : Int) (a0_8 : Int) (a0_9 : Int) (a0_10 : Int) (a0_11 : Int) (a0_12 : Int) (a0_13 : Int) (a0_14 : Int) (a0_15 : Int) (a0_16 : SliceV) (a0_17 : SliceV) (a0_18 : Int) (a0_19 : Int) (a0_20 : Int) (a0_21 : Int) (a0_22 : Int) (a0_23 : Int) (a0_24 : Int) (a0_25 : Int) (a0_26 : Int) (a0_27 : Int) (a0_28 : Int) (a0_29 : Int) (a0_30 : Int) (a0_31 : Int) (a0_32 : Int) (a0_33 : Int) (a0_34 : Int) (a0_35 : SliceV) (w : World) (K : SliceV → World → Prop) : Prop :=
  Calls Try.prog 37 ⟨[(Value.agg ⟨((Value.int .u8 a0_0) :: (Value.int .u8 a0_1) :: (Value.int .u8 a0_2) :: (Value.int .u8 a0_3) :: (Value.int .u8 a0_4) :: (Value.int .u8 a0_5) :: (Value.int .u8 a0_6) :: (Value.int .u8 a0_7) :: (Value.int .u8 a0_8) :: (Value.int .u8 a0_9) :: (Value.int .u8 a0_10) :: (Value.int .u8 a0_11) :: (Value.int .u8 a0_12) :: (Value.int .u8 a0_13) :: (Value.int .u8 a0_14) :: (Value.int .u8 a0_15) :: (Value.slice a0_16.a a0_16.len a0_16.cap) :: (Value.slice a0_17.a a0_17.len a0_17.cap) :: (Value.int .i64 a0_18) :: (Value.int .i64 a0_19) :: (Value.int .i64 a0_20) :: (Value.int .i64 a0_21) :: (Value.int .i64 a0_22) :: (Value.int .i64 a0_23) :: (Value.int .i64 a0_24) :: (Value.int .i64 a0_25) :: (Value.int .i64 a0_26) :: (Value.int .i64 a0_27) :: (Value.int .i64 a0_28) :: (Value.int .i64 a0_29) :: (Value.int .i64 a0_30) :: (Value.int .i64 a0_31) :: (Value.int .i64 a0_32) :: (Value.int .i64 a0_33) :: (Value.int .i64 a0_34) :: (Value.slice a0_35.a a0_35.len a0_35.cap) :: [])⟩)]⟩ w fun e w' => ∃ y27 : SliceV, e = .returned (Value.slice y27.a y27.len y27.cap) ∧ K y27 w'
theorem cm_config_bounds {a0_0 a0_1 a0_2 a0_3 a0_4 a0_5 a0_6 a0_7 a0_8 a0_9 a0_10 a0_11 a0_12 a0_13 a0_14 a0_15 a0_16 a0_17 a0_18 a0_19 a0_20 a0_21 a0_22 a0_23 a0_24 a0_25 a0_26 a0_27 a0_28 a0_29 a0_30 a0_31 a0_32 a0_33 a0_34 a0_35 w K K'} (h : c_config_bounds a0_0 a0_1 a0_2 a0_3 a0_4 a0_5 a0_6 a0_7 a0_8 a0_9 a0_10 a0_11 a0_12 a0_13 a0_14 a0_15 a0_16 a0_17 a0_18 a0_19 a0_20 a0_21 a0_22 a0_23 a0_24 a0_25 a0_26 a0_27 a0_28 a0_29 a0_30 a0_31 a0_32 a0_33 a0_34 a0_35 w K) (hk : ∀ x0 w', K x0 w' → K' x0 w') : c_config_bounds a0_0 a0_1 a0_2 a0_3 a0_4 a0_5 a0_6 a0_7 a0_8 a0_9 a0_10 a0_11 a0_12 a0_13 a0_14 a0_15 a0_16 a0_17 a0_18 a0_19 a0_20 a0_21 a0_22 a0_23 a0_24 a0_25 a0_26 a0_27 a0_28 a0_29 a0_30 a0_31 a0_32 a0_33 a0_34 a0_35 w K' :=
  Calls.mono h fun e w' hh => by obtain ⟨x0, he, hx⟩ := hh; exact ⟨x0, he, hk _ _ hx⟩

/-- (goosepond/config.bound).ok -/
abbrev n_config_bound_ok : FuncId := 38
def c_config_bound_ok (a0_0 : Int) (a0_1 : Int) (a0_2 : Int) (w : World) (K : Bool → World → Prop) : Prop :=
  Calls Try.prog 38 ⟨[(Value.agg ⟨[(Value.int .i64 a0_0), (Value.int .i64 a0_1), (Value.int .i64 a0_2)]⟩)]⟩ w fun e w' => ∃ y10 : Bool, e = .returned (Value.bool y10) ∧ K y10 w'
theorem cm_config_bound_ok {a0_0 a0_1 a0_2 w K K'} (h : c_config_bound_ok a0_0 a0_1 a0_2 w K) (hk : ∀ x0 w', K x0 w' → K' x0 w') : c_config_bound_ok a0_0 a0_1 a0_2 w K' :=
  Calls.mono h fun e w' hh => by obtain ⟨x0, he, hx⟩ := hh; exact ⟨x0, he, hk _ _ hx⟩

/-- goosepond/config.sizes -/
abbrev n_config_sizes : FuncId := 39
def c_config_sizes (a0 : Int) (w : World) (K : Bool → World → Prop) : Prop :=
  Calls Try.prog 39 ⟨[(Value.int .i64 a0)]⟩ w fun e w' => ∃ y7 : Bool, e = .returned (Value.bool y7) ∧ K y7 w'
theorem cm_config_sizes {a0 w K K'} (h : c_config_sizes a0 w K) (hk : ∀ x0 w', K x0 w' → K' x0 w') : c_config_sizes a0 w K' :=
  Calls.mono h fun e w' hh => by obtain ⟨x0, he, hx⟩ := hh; exact ⟨x0, he, hk _ _ hx⟩

/-- goosepond/config.parts -/
abbrev n_config_parts : FuncId := 40
def c_config_parts (a0_0 : Int) (a0_1 : Int) (a0_2 : Int) (a0_3 : Int) (a0_4 : Int) (a0_5 : Int) (a0_6 : Int) (a0_7 : Int) (a0_8 : Int) (a0_9 : Int) (a0_10 : Int) (a0_11 : Int) (a0_12 : Int) (a0_13 : Int) (a0_14 : Int) (a0_15 : Int) (a0_16 : SliceV) (a0_17 : SliceV) (a0_18 : Int) (a0_19 : Int) (a0_20 : Int) (a0_21 : Int) (a0_22 : Int) (a0_23 : Int) (a0_24 : Int) (a0_25 : Int) (a0_26 : Int) (a0_27 : Int) (a0_28 : Int) (a0_29 : Int) (a0_30 : Int) (a0_31 : Int) (a0_32 : Int) (a0_33 : Int) (a0_34 : Int) (a0_35 : SliceV) (w : World) (K : Bool → World → Prop) : Prop :=
  Calls Try.prog 40 ⟨[(Value.agg ⟨((Value.int .u8 a0_0) :: (Value.int .u8 a0_1) :: (Value.int .u8 a0_2) :: (Value.int .u8 a0_3) :: (Value.int .u8 a0_4) :: (Value.int .u8 a0_5) :: (Value.int .u8 a0_6) :: (Value.int .u8 a0_7) :: (Value.int .u8 a0_8) :: (Value.int .u8 a0_9) :: (Value.int .u8 a0_10) :: (Value.int .u8 a0_11) :: (Value.int .u8 a0_12) :: (Value.int .u8 a0_13) :: (Value.int .u8 a0_14) :: (Value.int .u8 a0_15) :: (Value.slice a0_16.a a0_16.len a0_16.cap) :: (Value.slice a0_17.a a0_17.len a0_17.cap) :: (Value.int .i64 a0_18) :: (Value.int .i64 a0_19) :: (Value.int .i64 a0_20) :: (Value.int .i64 a0_21) :: (Value.int .i64 a0_22) :: (Value.int .i64 a0_23) :: (Value.int .i64 a0_24) :: (Value.int .i64 a0_25) :: (Value.int .i64 a0_26) :: (Value.int .i64 a0_27) :: (Value.int .i64 a0_28) :: (Value.int .i64 a0_29) :: (Value.int .i64 a0_30) :: (Value.int .i64 a0_31) :: (Value.int .i64 a0_32) :: (Value.int .i64 a0_33) :: (Value.int .i64 a0_34) :: (Value.slice a0_35.a a0_35.len a0_35.cap) :: [])⟩)]⟩ w fun e w' => ∃ y37 : Bool, e = .returned (Value.bool y37) ∧ K y37 w'
theorem cm_config_parts {a0_0 a0_1 a0_2 a0_3 a0_4 a0_5 a0_6 a0_7 a0_8 a0_9 a0_10 a0_11 a0_12 a0_13 a0_14 a0_15 a0_16 a0_17 a0_18 a0_19 a0_20 a0_21 a0_22 a0_23 a0_24 a0_25 a0_26 a0_27 a0_28 a0_29 a0_30 a0_31 a0_32 a0_33 a0_34 a0_35 w K K'} (h : c_config_parts a0_0 a0_1 a0_2 a0_3 a0_4 a0_5 a0_6 a0_7 a0_8 a0_9 a0_10 a0_11 a0_12 a0_13 a0_14 a0_15 a0_16 a0_17 a0_18 a0_19 a0_20 a0_21 a0_22 a0_23 a0_24 a0_25 a0_26 a0_27 a0_28 a0_29 a0_30 a0_31 a0_32 a0_33 a0_34 a0_35 w K) (hk : ∀ x0 w', K x0 w' → K' x0 w') : c_config_parts a0_0 a0_1 a0_2 a0_3 a0_4 a0_5 a0_6 a0_7 a0_8 a0_9 a0_10 a0_11 a0_12 a0_13 a0_14 a0_15 a0_16 a0_17 a0_18 a0_19 a0_20 a0_21 a0_22 a0_23 a0_24 a0_25 a0_26 a0_27 a0_28 a0_29 a0_30 a0_31 a0_32 a0_33 a0_34 a0_35 w K' :=
  Calls.mono h fun e w' hh => by obtain ⟨x0, he, hx⟩ := hh; exact ⟨x0, he, hk _ _ hx⟩

/-- goosepond/config.doubled -/
abbrev n_config_doubled : FuncId := 41
def c_config_doubled (a0_0 : Int) (a0_1 : Int) (a0_2 : Int) (a0_3 : Int) (a0_4 : Int) (a0_5 : Int) (a0_6 : Int) (a0_7 : Int) (a0_8 : Int) (a0_9 : Int) (a0_10 : Int) (a0_11 : Int) (a0_12 : Int) (a0_13 : Int) (a0_14 : Int) (a0_15 : Int) (a0_16 : SliceV) (a0_17 : SliceV) (a0_18 : Int) (a0_19 : Int) (a0_20 : Int) (a0_21 : Int) (a0_22 : Int) (a0_23 : Int) (a0_24 : Int) (a0_25 : Int) (a0_26 : Int) (a0_27 : Int) (a0_28 : Int) (a0_29 : Int) (a0_30 : Int) (a0_31 : Int) (a0_32 : Int) (a0_33 : Int) (a0_34 : Int) (a0_35 : SliceV) (w : World) (K : Bool → World → Prop) : Prop :=
  Calls Try.prog 41 ⟨[(Value.agg ⟨((Value.int .u8 a0_0) :: (Value.int .u8 a0_1) :: (Value.int .u8 a0_2) :: (Value.int .u8 a0_3) :: (Value.int .u8 a0_4) :: (Value.int .u8 a0_5) :: (Value.int .u8 a0_6) :: (Value.int .u8 a0_7) :: (Value.int .u8 a0_8) :: (Value.int .u8 a0_9) :: (Value.int .u8 a0_10) :: (Value.int .u8 a0_11) :: (Value.int .u8 a0_12) :: (Value.int .u8 a0_13) :: (Value.int .u8 a0_14) :: (Value.int .u8 a0_15) :: (Value.slice a0_16.a a0_16.len a0_16.cap) :: (Value.slice a0_17.a a0_17.len a0_17.cap) :: (Value.int .i64 a0_18) :: (Value.int .i64 a0_19) :: (Value.int .i64 a0_20) :: (Value.int .i64 a0_21) :: (Value.int .i64 a0_22) :: (Value.int .i64 a0_23) :: (Value.int .i64 a0_24) :: (Value.int .i64 a0_25) :: (Value.int .i64 a0_26) :: (Value.int .i64 a0_27) :: (Value.int .i64 a0_28) :: (Value.int .i64 a0_29) :: (Value.int .i64 a0_30) :: (Value.int .i64 a0_31) :: (Value.int .i64 a0_32) :: (Value.int .i64 a0_33) :: (Value.int .i64 a0_34) :: (Value.slice a0_35.a a0_35.len a0_35.cap) :: [])⟩)]⟩ w fun e w' => ∃ y83 : Bool, e = .returned (Value.bool y83) ∧ K y83 w'
theorem cm_config_doubled {a0_0 a0_1 a0_2 a0_3 a0_4 a0_5 a0_6 a0_7 a0_8 a0_9 a0_10 a0_11 a0_12 a0_13 a0_14 a0_15 a0_16 a0_17 a0_18 a0_19 a0_20 a0_21 a0_22 a0_23 a0_24 a0_25 a0_26 a0_27 a0_28 a0_29 a0_30 a0_31 a0_32 a0_33 a0_34 a0_35 w K K'} (h : c_config_doubled a0_0 a0_1 a0_2 a0_3 a0_4 a0_5 a0_6 a0_7 a0_8 a0_9 a0_10 a0_11 a0_12 a0_13 a0_14 a0_15 a0_16 a0_17 a0_18 a0_19 a0_20 a0_21 a0_22 a0_23 a0_24 a0_25 a0_26 a0_27 a0_28 a0_29 a0_30 a0_31 a0_32 a0_33 a0_34 a0_35 w K) (hk : ∀ x0 w', K x0 w' → K' x0 w') : c_config_doubled a0_0 a0_1 a0_2 a0_3 a0_4 a0_5 a0_6 a0_7 a0_8 a0_9 a0_10 a0_11 a0_12 a0_13 a0_14 a0_15 a0_16 a0_17 a0_18 a0_19 a0_20 a0_21 a0_22 a0_23 a0_24 a0_25 a0_26 a0_27 a0_28 a0_29 a0_30 a0_31 a0_32 a0_33 a0_34 a0_35 w K' :=
  Calls.mono h fun e w' hh => by obtain ⟨x0, he, hx⟩ := hh; exact ⟨x0, he, hk _ _ hx⟩

/-- goosepond/goosepondref20.numbers -/
abbrev n_ref20_numbers : FuncId := 42
def c_ref20_numbers (a0_0 : Int) (a0_1 : Int) (a0_2 : Int) (a0_3 : Int) (a0_4 : Int) (a0_5 : Int) (a0_6 : Int) (a0_7 : Int) (a0_8 : Int) (a0_9 : Int) (a0_10 : Int) (a0_11 : Int) (a0_12 : Int) (a0_13 : Int) (a0_14 : Int) (a0_15 : Int) (a0_16 : SliceV) (a0_17 : SliceV) (a0_18 : Int) (a0_19 : Int) (a0_20 : Int) (a0_21 : Int) (a0_22 : Int) (a0_23 : Int) (a0_24 : Int) (a0_25 : Int) (a0_26 : Int) (a0_27 : Int) (a0_28 : Int) (a0_29 : Int) (a0_30 : Int) (a0_31 : Int) (a0_32 : Int) (a0_33 : Int) (a0_34 : Int) (a0_35 : SliceV) (w : World) (K : Bool → World → Prop) : Prop :=
  Calls Try.prog 42 ⟨[(Value.agg ⟨((Value.int .u8 a0_0) :: (Value.int .u8 a0_1) :: (Value.int .u8 a0_2) :: (Value.int .u8 a0_3) :: (Value.int .u8 a0_4) :: (Value.int .u8 a0_5) :: (Value.int .u8 a0_6) :: (Value.int .u8 a0_7) :: (Value.int .u8 a0_8) :: (Value.int .u8 a0_9) :: (Value.int .u8 a0_10) :: (Value.int .u8 a0_11) :: (Value.int .u8 a0_12) :: (Value.int .u8 a0_13) :: (Value.int .u8 a0_14) :: (Value.int .u8 a0_15) :: (Value.slice a0_16.a a0_16.len a0_16.cap) :: (Value.slice a0_17.a a0_17.len a0_17.cap) :: (Value.int .i64 a0_18) :: (Value.int .i64 a0_19) :: (Value.int .i64 a0_20) :: (Value.int .i64 a0_21) :: (Value.int .i64 a0_22) :: (Value.int .i64 a0_23) :: (Value.int .i64 a0_24) :: (Value.int .i64 a0_25) :: (Value.int .i64 a0_26) :: (Value.int .i64 a0_27) :: (Value.int .i64 a0_28) :: (Value.int .i64 a0_29) :: (Value.int .i64 a0_30) :: (Value.int .i64 a0_31) :: (Value.int .i64 a0_32) :: (Value.int .i64 a0_33) :: (Value.int .i64 a0_34) :: (Value.slice a0_35.a a0_35.len a0_35.cap) :: [])⟩)]⟩ w fun e w' => ∃ y72 : Bool, e = .returned (Value.bool y72) ∧ K y72 w'
theorem cm_ref20_numbers {a0_0 a0_1 a0_2 a0_3 a0_4 a0_5 a0_6 a0_7 a0_8 a0_9 a0_10 a0_11 a0_12 a0_13 a0_14 a0_15 a0_16 a0_17 a0_18 a0_19 a0_20 a0_21 a0_22 a0_23 a0_24 a0_25 a0_26 a0_27 a0_28 a0_29 a0_30 a0_31 a0_32 a0_33 a0_34 a0_35 w K K'} (h : c_ref20_numbers a0_0 a0_1 a0_2 a0_3 a0_4 a0_5 a0_6 a0_7 a0_8 a0_9 a0_10 a0_11 a0_12 a0_13 a0_14 a0_15 a0_16 a0_17 a0_18 a0_19 a0_20 a0_21 a0_22 a0_23 a0_24 a0_25 a0_26 a0_27 a0_28 a0_29 a0_30 a0_31 a0_32 a0_33 a0_34 a0_35 w K) (hk : ∀ x0 w', K x0 w' → K' x0 w') : c_ref20_numbers a0_0 a0_1 a0_2 a0_3 a0_4 a0_5 a0_6 a0_7 a0_8 a0_9 a0_10 a0_11 a0_12 a0_13 a0_14 a0_15 a0_16 a0_17 a0_18 a0_19 a0_20 a0_21 a0_22 a0_23 a0_24 a0_25 a0_26 a0_27 a0_28 a0_29 a0_30 a0_31 a0_32 a0_33 a0_34 a0_35 w K' :=
  Calls.mono h fun e w' hh => by obtain ⟨x0, he, hx⟩ := hh; exact ⟨x0, he, hk _ _ hx⟩

/-- goosepond/goosepondref20.lists -/
abbrev n_ref20_lists : FuncId := 43
def c_ref20_lists (a0_0 : Int) (a0_1 : Int) (a0_2 : Int) (a0_3 : Int) (a0_4 : Int) (a0_5 : Int) (a0_6 : Int) (a0_7 : Int) (a0_8 : Int) (a0_9 : Int) (a0_10 : Int) (a0_11 : Int) (a0_12 : Int) (a0_13 : Int) (a0_14 : Int) (a0_15 : Int) (a0_16 : SliceV) (a0_17 : SliceV) (a0_18 : Int) (a0_19 : Int) (a0_20 : Int) (a0_21 : Int) (a0_22 : Int) (a0_23 : Int) (a0_24 : Int) (a0_25 : Int) (a0_26 : Int) (a0_27 : Int) (a0_28 : Int) (a0_29 : Int) (a0_30 : Int) (a0_31 : Int) (a0_32 : Int) (a0_33 : Int) (a0_34 : Int) (a0_35 : SliceV) (w : World) (K : Bool → World → Prop) : Prop :=
  Calls Try.prog 43 ⟨[(Value.agg ⟨((Value.int .u8 a0_0) :: (Value.int .u8 a0_1) :: (Value.int .u8 a0_2) :: (Value.int .u8 a0_3) :: (Value.int .u8 a0_4) :: (Value.int .u8 a0_5) :: (Value.int .u8 a0_6) :: (Value.int .u8 a0_7) :: (Value.int .u8 a0_8) :: (Value.int .u8 a0_9) :: (Value.int .u8 a0_10) :: (Value.int .u8 a0_11) :: (Value.int .u8 a0_12) :: (Value.int .u8 a0_13) :: (Value.int .u8 a0_14) :: (Value.int .u8 a0_15) :: (Value.slice a0_16.a a0_16.len a0_16.cap) :: (Value.slice a0_17.a a0_17.len a0_17.cap) :: (Value.int .i64 a0_18) :: (Value.int .i64 a0_19) :: (Value.int .i64 a0_20) :: (Value.int .i64 a0_21) :: (Value.int .i64 a0_22) :: (Value.int .i64 a0_23) :: (Value.int .i64 a0_24) :: (Value.int .i64 a0_25) :: (Value.int .i64 a0_26) :: (Value.int .i64 a0_27) :: (Value.int .i64 a0_28) :: (Value.int .i64 a0_29) :: (Value.int .i64 a0_30) :: (Value.int .i64 a0_31) :: (Value.int .i64 a0_32) :: (Value.int .i64 a0_33) :: (Value.int .i64 a0_34) :: (Value.slice a0_35.a a0_35.len a0_35.cap) :: [])⟩)]⟩ w fun e w' => ∃ y118 : Bool, e = .returned (Value.bool y118) ∧ K y118 w'
theorem cm_ref20_lists {a0_0 a0_1 a0_2 a0_3 a0_4 a0_5 a0_6 a0_7 a0_8 a0_9 a0_10 a0_11 a0_12 a0_13 a0_14 a0_15 a0_16 a0_17 a0_18 a0_19 a0_20 a0_21 a0_22 a0_23 a0_24 a0_25 a0_26 a0_27 a0_28 a0_29 a0_30 a0_31 a0_32 a0_33 a0_34 a0_35 w K K'} (h : c_ref20_lists a0_0 a0_1 a0_2 a0_3 a0_4 a0_5 a0_6 a0_7 a0_8 a0_9 a0_10 a0_11 a0_12 a0_13 a0_14 a0_15 a0_16 a0_17 a0_18 a0_19 a0_20 a0_21 a0_22 a0_23 a0_24 a0_25 a0_26 a0_27 a0_28 a0_29 a0_30 a0_31 a0_32 a0_33 a0_34 a0_35 w K) (hk : ∀ x0 w', K x0 w' → K' x0 w') : c_ref20_lists a0_0 a0_1 a0_2 a0_3 a0_4 a0_5 a0_6 a0_7 a0_8 a0_9 a0_10 a0_11 a0_12 a0_13 a0_14 a0_15 a0_16 a0_17 a0_18 a0_19 a0_20 a0_21 a0_22 a0_23 a0_24 a0_25 a0_26 a0_27 a0_28 a0_29 a0_30 a0_31 a0_32 a0_33 a0_34 a0_35 w K' :=
  Calls.mono h fun e w' hh => by obtain ⟨x0, he, hx⟩ := hh; exact ⟨x0, he, hk _ _ hx⟩

/-- goosepond/goosepondref20.twice -/
abbrev n_ref20_twice : FuncId := 44
def c_ref20_twice (a0_0 : Int) (a0_1 : Int) (a0_2 : Int) (a0_3 : Int) (a0_4 : Int) (a0_5 : Int) (a0_6 : Int) (a0_7 : Int) (a0_8 : Int) (a0_9 : Int) (a0_10 : Int) (a0_11 : Int) (a0_12 : Int) (a0_13 : Int) (a0_14 : Int) (a0_15 : Int) (a0_16 : SliceV) (a0_17 : SliceV) (a0_18 : Int) (a0_19 : Int) (a0_20 : Int) (a0_21 : Int) (a0_22 : Int) (a0_23 : Int) (a0_24 : Int) (a0_25 : Int) (a0_26 : Int) (a0_27 : Int) (a0_28 : Int) (a0_29 : Int) (a0_30 : Int) (a0_31 : Int) (a0_32 : Int) (a0_33 : Int) (a0_34 : Int) (a0_35 : SliceV) (w : World) (K : Bool → World → Prop) : Prop :=
  Calls Try.prog 44 ⟨[(Value.agg ⟨((Value.int .u8 a0_0) :: (Value.int .u8 a0_1) :: (Value.int .u8 a0_2) :: (Value.int .u8 a0_3) :: (Value.int .u8 a0_4) :: (Value.int .u8 a0_5) :: (Value.int .u8 a0_6) :: (Value.int .u8 a0_7) :: (Value.int .u8 a0_8) :: (Value.int .u8 a0_9) :: (Value.int .u8 a0_10) :: (Value.int .u8 a0_11) :: (Value.int .u8 a0_12) :: (Value.int .u8 a0_13) :: (Value.int .u8 a0_14) :: (Value.int .u8 a0_15) :: (Value.slice a0_16.a a0_16.len a0_16.cap) :: (Value.slice a0_17.a a0_17.len a0_17.cap) :: (Value.int .i64 a0_18) :: (Value.int .i64 a0_19) :: (Value.int .i64 a0_20) :: (Value.int .i64 a0_21) :: (Value.int .i64 a0_22) :: (Value.int .i64 a0_23) :: (Value.int .i64 a0_24) :: (Value.int .i64 a0_25) :: (Value.int .i64 a0_26) :: (Value.int .i64 a0_27) :: (Value.int .i64 a0_28) :: (Value.int .i64 a0_29) :: (Value.int .i64 a0_30) :: (Value.int .i64 a0_31) :: (Value.int .i64 a0_32) :: (Value.int .i64 a0_33) :: (Value.int .i64 a0_34) :: (Value.slice a0_35.a a0_35.len a0_35.cap) :: [])⟩)]⟩ w fun e w' => ∃ y136 : Bool, e = .returned (Value.bool y136) ∧ K y136 w'
theorem cm_ref20_twice {a0_0 a0_1 a0_2 a0_3 a0_4 a0_5 a0_6 a0_7 a0_8 a0_9 a0_10 a0_11 a0_12 a0_13 a0_14 a0_15 a0_16 a0_17 a0_18 a0_19 a0_20 a0_21 a0_22 a0_23 a0_24 a0_25 a0_26 a0_27 a0_28 a0_29 a0_30 a0_31 a0_32 a0_33 a0_34 a0_35 w K K'} (h : c_ref20_twice a0_0 a0_1 a0_2 a0_3 a0_4 a0_5 a0_6 a0_7 a0_8 a0_9 a0_10 a0_11 a0_12 a0_13 a0_14 a0_15 a0_16 a0_17 a0_18 a0_19 a0_20 a0_21 a0_22 a0_23 a0_24 a0_25 a0_26 a0_27 a0_28 a0_29 a0_30 a0_31 a0_32 a0_33 a0_34 a0_35 w K) (hk : ∀ x0 w', K x0 w' → K' x0 w') : c_ref20_twice a0_0 a0_1 a0_2 a0_3 a0_4 a0_5 a0_6 a0_7 a0_8 a0_9 a0_10 a0_11 a0_12 a0_13 a0_14 a0_15 a0_16 a0_17 a0_18 a0_19 a0_20 a0_21 a0_22 a0_23 a0_24 a0_25 a0_26 a0_27 a0_28 a0_29 a0_30 a0_31 a0_32 a0_33 a0_34 a0_35 w K' :=
  Calls.mono h fun e w' hh => by obtain ⟨x0, he, hx⟩ := hh; exact ⟨x0, he, hk _ _ hx⟩

/-- goosepond/six.Of -/
abbrev n_six_Of : FuncId := 46
def c_six_Of (a0 : SliceV) (w : World) (K : Int → Int → Int → Int → Int → Int → Int → Int → Int → Int → Int → Int → Int → Int → Int → Int → World → Prop) : Prop :=
  Calls Try.prog 46 ⟨[(Value.slice a0.a a0.len a0.cap)]⟩ w fun e w' => ∃ y48 : Int, ∃ y49 : Int, ∃ y50 : Int, ∃ y51 : Int, ∃ y52 : Int, ∃ y53 : Int, ∃ y54 : Int, ∃ y55 : Int, ∃ y56 : Int, ∃ y57 : Int, ∃ y58 : Int, ∃ y59 : Int, ∃ y60 : Int, ∃ y61 : Int, ∃ y62 : Int, ∃ y63 : Int, e = .returned (Value.agg ⟨[(Value.int .u8 y48), (Value.int .u8 y49), (Value.int .u8 y50), (Value.int .u8 y51), (Value.int .u8 y52), (Value.int .u8 y53), (Value.int .u8 y54), (Value.int .u8 y55), (Value.int .u8 y56), (Value.int .u8 y57), (Value.int .u8 y58), (Value.int .u8 y59), (Value.int .u8 y60), (Value.int .u8 y61), (Value.int .u8 y62), (Value.int .u8 y63)]⟩) ∧ K y48 y49 y50 y51 y52 y53 y54 y55 y56 y57 y58 y59 y60 y61 y62 y63 w'
theorem cm_six_Of {a0 w K K'} (h : c_six_Of a0 w K) (hk : ∀ x0 x1 x2 x3 x4 x5 x6 x7 x8 x9 x10 x11 x12 x13 x14 x15 w', K x0 x1 x2 x3 x4 x5 x6 x7 x8 x9 x10 x11 x12 x13 x14 x15 w' → K' x0 x1 x2 x3 x4 x5 x6 x7 x8 x9 x10 x11 x12 x13 x14 x15 w') : c_six_Of a0 w K' :=
  Calls.mono h fun e w' hh => by obtain ⟨x0, x1, x2, x3, x4, x5, x6, x7, x8, x9, x10, x11, x12, x13, x14, x15, he, hx⟩ := hh; exact ⟨x0, x1, x2, x3, x4, x5, x6, x7, x8, x9, x10, x11, x12, x13, x14, x15, he, hk _ _ _ _ _ _ _ _ _ _ _ _ _ _ _ _ _ hx⟩

/-- goosepond/goosepondref04.Of -/
abbrev n_ref04_Of : FuncId := 47
def c_ref04_Of (a0 : SliceV) (w : World) (K : Int → Int → Int → Int → Int → Int → Int → Int → Int → Int → Int → Int → Int → Int → Int → Int → World → Prop) : Prop :=
  Calls Try.prog 47 ⟨[(Value.slice a0.a a0.len a0.cap)]⟩ w fun e w' => ∃ y48 : Int, ∃ y49 : Int, ∃ y50 : Int, ∃ y51 : Int, ∃ y52 : Int, ∃ y53 : Int, ∃ y54 : Int, ∃ y55 : Int, ∃ y56 : Int, ∃ y57 : Int, ∃ y58 : Int, ∃ y59 : Int, ∃ y60 : Int, ∃ y61 : Int, ∃ y62 : Int, ∃ y63 : Int, e = .returned (Value.agg ⟨[(Value.int .u8 y48), (Value.int .u8 y49), (Value.int .u8 y50), (Value.int .u8 y51), (Value.int .u8 y52), (Value.int .u8 y53), (Value.int .u8 y54), (Value.int .u8 y55), (Value.int .u8 y56), (Value.int .u8 y57), (Value.int .u8 y58), (Value.int .u8 y59), (Value.int .u8 y60), (Value.int .u8 y61), (Value.int .u8 y62), (Value.int .u8 y63)]⟩) ∧ K y48 y49 y50 y51 y52 y53 y54 y55 y56 y57 y58 y59 y60 y61 y62 y63 w'
theorem cm_ref04_Of {a0 w K K'} (h : c_ref04_Of a0 w K) (hk : ∀ x0 x1 x2 x3 x4 x5 x6 x7 x8 x9 x10 x11 x12 x13 x14 x15 w', K x0 x1 x2 x3 x4 x5 x6 x7 x8 x9 x10 x11 x12 x13 x14 x15 w' → K' x0 x1 x2 x3 x4 x5 x6 x7 x8 x9 x10 x11 x12 x13 x14 x15 w') : c_ref04_Of a0 w K' :=
  Calls.mono h fun e w' hh => by obtain ⟨x0, x1, x2, x3, x4, x5, x6, x7, x8, x9, x10, x11, x12, x13, x14, x15, he, hx⟩ := hh; exact ⟨x0, x1, x2, x3, x4, x5, x6, x7, x8, x9, x10, x11, x12, x13, x14, x15, he, hk _ _ _ _ _ _ _ _ _ _ _ _ _ _ _ _ _ hx⟩

/-- goosepond/config.parts$1 -/
abbrev n_config_parts_1 : FuncId := 68
def c_config_parts_1 (a0_0 : Int) (a0_1 : Int) (a0_2 : Int) (a0_3 : Int) (a0_4 : Int) (a0_5 : Int) (a0_6 : Int) (a0_7 : Int) (a0_8 : Int) (a0_9 : Int) (a0_10 : Int) (a0_11 : Int) (a0_12 : Int) (a0_13 : Int) (a0_14 : Int) (a0_15 : Int) (w : World) (K : Bool → World → Prop) : Prop :=
  Calls Try.prog 68 ⟨[(Value.agg ⟨[(Value.int .u8 a0_0), (Value.int .u8 a0_1), (Value.int .u8 a0_2), (Value.int .u8 a0_3), (Value.int .u8 a0_4), (Value.int .u8 a0_5), (Value.int .u8 a0_6), (Value.int .u8 a0_7), (Value.int .u8 a0_8), (Value.int .u8 a0_9), (Value.int .u8 a0_10), (Value.int .u8 a0_11), (Value.int .u8 a0_12), (Value.int .u8 a0_13), (Value.int .u8 a0_14), (Value.int .u8 a0_15)]⟩)]⟩ w fun e w' => ∃ y22 : Bool, e = .returned (Value.bool y22) ∧ K y22 w'
theorem cm_config_parts_1 {a0_0 a0_1 a0_2 a0_3 a0_4 a0_5 a0_6 a0_7 a0_8 a0_9 a0_10 a0_11 a0_12 a0_13 a0_14 a0_15 w K K'} (h : c_config_parts_1 a0_0 a0_1 a0_2 a0_3 a0_4 a0_5 a0_6 a0_7 a0_8 a0_9 a0_10 a0_11 a0_12 a0_13 a0_14 a0_15 w K) (hk : ∀ x0 w', K x0 w' → K' x0 w') : c_config_parts_1 a0_0 a0_1 a0_2 a0_3 a0_4 a0_5 a0_6 a0_7 a0_8 a0_9 a0_10 a0_11 a0_12 a0_13 a0_14 a0_15 w K' :=
  Calls.mono h fun e w' hh => by obtain ⟨x0, he, hx⟩ := hh; exact ⟨x0, he, hk _ _ hx⟩

/-- goosepond/six.Host -/
abbrev n_six_Host : FuncId := 69
def c_six_Host (a0_0 : Int) (a0_1 : Int) (a0_2 : Int) (a0_3 : Int) (a0_4 : Int) (a0_5 : Int) (a0_6 : Int) (a0_7 : Int) (a0_8 : Int) (a0_9 : Int) (a0_10 : Int) (a0_11 : Int) (a0_12 : Int) (a0_13 : Int) (a0_14 : Int) (a0_15 : Int) (w : World) (K : Bool → World → Prop) : Prop :=
  Calls Try.prog 69 ⟨[(Value.agg ⟨[(Value.int .u8 a0_0), (Value.int .u8 a0_1), (Value.int .u8 a0_2), (Value.int .u8 a0_3), (Value.int .u8 a0_4), (Value.int .u8 a0_5), (Value.int .u8 a0_6), (Value.int .u8 a0_7), (Value.int .u8 a0_8), (Value.int .u8 a0_9), (Value.int .u8 a0_10), (Value.int .u8 a0_11), (Value.int .u8 a0_12), (Value.int .u8 a0_13), (Value.int .u8 a0_14), (Value.int .u8 a0_15)]⟩)]⟩ w fun e w' => ∃ y41 : Bool, e = .returned (Value.bool y41) ∧ K y41 w'
theorem cm_six_Host {a0_0 a0_1 a0_2 a0_3 a0_4 a0_5 a0_6 a0_7 a0_8 a0_9 a0_10 a0_11 a0_12 a0_13 a0_14 a0_15 w K K'} (h : c_six_Host a0_0 a0_1 a0_2 a0_3 a0_4 a0_5 a0_6 a0_7 a0_8 a0_9 a0_10 a0_11 a0_12 a0_13 a0_14 a0_15 w K) (hk : ∀ x0 w', K x0 w' → K' x0 w') : c_six_Host a0_0 a0_1 a0_2 a0_3 a0_4 a0_5 a0_6 a0_7 a0_8 a0_9 a0_10 a0_11 a0_12 a0_13 a0_14 a0_15 w K' :=
  Calls.mono h fun e w' hh => by obtain ⟨x0, he, hx⟩ := hh; exact ⟨x0, he, hk _ _ hx⟩

/-- goosepond/config.parts$2 -/
abbrev n_config_parts_2 : FuncId := 70
def c_config_parts_2 (a0 : Int) (w : World) (K : Bool → World → Prop) : Prop :=
  Calls Try.prog 70 ⟨[(Value.int .i64 a0)]⟩ w fun e w' => ∃ y4 : Bool, e = .returned (Value.bool y4) ∧ K y4 w'
theorem cm_config_parts_2 {a0 w K K'} (h : c_config_parts_2 a0 w K) (hk : ∀ x0 w', K x0 w' → K' x0 w') : c_config_parts_2 a0 w K' :=
  Calls.mono h fun e w' hh => by obtain ⟨x0, he, hx⟩ := hh; exact ⟨x0, he, hk _ _ hx⟩

/-- goosepond/config.parts$3 -/
abbrev n_config_parts_3 : FuncId := 71
def c_config_parts_3 (a0_0 : Int) (a0_1 : Int) (a0_2 : Int) (a0_3 : Int) (a0_4 : Int) (a0_5 : Int) (a0_6 : Int) (f0 : Addr) (w : World) (K : Bool → World → Prop) : Prop :=
  Calls Try.prog 71 ⟨[(Value.agg ⟨[(Value.int .i64 a0_0), (Value.int .i64 a0_1), (Value.int .i64 a0_2), (Value.int .i64 a0_3), (Value.int .i64 a0_4), (Value.int .i64 a0_5), (Value.int .i64 a0_6)]⟩), (Value.pointer (some f0))]⟩ w fun e w' => ∃ y49 : Bool, e = .returned (Value.bool y49) ∧ K y49 w'
theorem cm_config_parts_3 {a0_0 a0_1 a0_2 a0_3 a0_4 a0_5 a0_6 f0 w K K'} (h : c_config_parts_3 a0_0 a0_1 a0_2 a0_3 a0_4 a0_5 a0_6 f0 w K) (hk : ∀ x0 w', K x0 w' → K' x0 w') : c_config_parts_3 a0_0 a0_1 a0_2 a0_3 a0_4 a0_5 a0_6 f0 w K' :=
  Calls.mono h fun e w' hh => by obtain ⟨x0, he, hx⟩ := hh; exact ⟨x0, he, hk _ _ hx⟩

/-- goosepond/config.told -/
abbrev n_config_told : FuncId := 72
def c_config_told (a0_0 : Int) (a0_1 : Int) (a0_2 : Int) (a0_3 : Int) (a0_4 : Int) (a0_5 : Int) (a0_6 : Int) (a0_7 : Int) (a0_8 : Int) (a0_9 : Int) (a0_10 : Int) (a0_11 : Int) (a0_12 : Int) (a0_13 : Int) (a0_14 : Int) (a0_15 : Int) (a0_16 : SliceV) (a0_17 : SliceV) (a0_18 : Int) (a0_19 : Int) (a0_20 : Int) (a0_21 : Int) (a0_22 : Int) (a0_23 : Int) (a0_24 : Int) (a0_25 : Int) (a0_26 : Int) (a0_27 : Int) (a0_28 : Int) (a0_29 : Int) (a0_30 : Int) (a0_31 : Int) (a0_32 : Int) (a0_33 : Int) (a0_34 : Int) (a0_35 : SliceV) (a1_0 : Int) (a1_1 : Int) (a1_2 : Int) (a1_3 : Int) (a1_4 : Int) (a1_5 : Int) (a1_6 : Int) (w : World) (K : Bool → World → Prop) : Prop :=
  Calls Try.prog 72 ⟨[(Value.agg ⟨((Value.int .u8 a0_0) :: (Value.int .u8 a0_1) :: (Value.int .u8 a0_2) :: (Value.int .u8 a0_3) :: (Value.int .u8 a0_4) :: (Value.int .u8 a0_5) :: (Value.int .u8 a0_6) :: (Value.int .u8 a0_7) :: (Value.int .u8 a0_8) :: (Value.int .u8 a0_9) :: (Value.int .u8 a0_10) :: (Value.int .u8 a0_11) :: (Value.int .u8 a0_12) :: (Value.int .u8 a0_13) :: (Value.int .u8 a0_14) :: (Value.int .u8 a0_15) :: (Value.slice a0_16.a a0_16.len a0_16.cap) :: (Value.slice a0_17.a a0_17.len a0_17.cap) :: (Value.int .i64 a0_18) :: (Value.int .i64 a0_19) :: (Value.int .i64 a0_20) :: (Value.int .i64 a0_21) :: (Value.int .i64 a0_22) :: (Value.int .i64 a0_23) :: (Value.int .i64 a0_24) :: (Value.int .i64 a0_25) :: (Value.int .i64 a0_26) :: (Value.int .i64 a0_27) :: (Value.int .i64 a0_28) :: (Value.int .i64 a0_29) :: (Value.int .i64 a0_30) :: (Value.int .i64 a0_31) :: (Value.int .i64 a0_32) :: (Value.int .i64 a0_33) :: (Value.int .i64 a0_34) :: (Value.slice a0_35.a a0_35.len a0_35.cap) :: [])⟩), (Value.agg ⟨[(Value.int .i64 a1_0), (Value.int .i64 a1_1), (Value.int .i64 a1_2), (Value.int .i64 a1_3), (Value.int .i64 a1_4), (Value.int .i64 a1_5), (Value.int .i64 a1_6)]⟩)]⟩ w fun e w' => ∃ y41 : Bool, e = .returned (Value.bool y41) ∧ K y41 w'
theorem cm_config_told {a0_0 a0_1 a0_2 a0_3 a0_4 a0_5 a0_6 a0_7 a0_8 a0_9 a0_10 a0_11 a0_12 a0_13 a0_14 a0_15 a0_16 a0_17 a0_18 a0_19 a0_20 a0_21 a0_22 a0_23 a0_24 a0_25 a0_26 a0_27 a0_28 a0_29 a0_30 a0_31 a0_32 a0_33 a0_34 a0_35 a1_0 a1_1 a1_2 a1_3 a1_4 a1_5 a1_6 w K K'} (h : c_config_told a0_0 a0_1 a0_2 a0_3 a0_4 a0_5 a0_6 a0_7 a0_8 a0_9 a0_10 a0_11 a0_12 a0_13 a0_14 a0_15 a0_16 a0_17 a0_18 a0_19 a0_20 a0_21 a0_22 a0_23 a0_24 a0_25 a0_26 a0_27 a0_28 a0_29 a0_30 a0_31 a0_32 a0_33 a0_34 a0_35 a1_0 a1_1 a1_2 a1_3 a1_4 a1_5 a1_6 w K) (hk : ∀ x0 w', K x0 w' → K' x0 w') : c_config_told a0_0 a0_1 a0_2 a0_3 a0_4 a0_5 a0_6 a0_7 a0_8 a0_9 a0_10 a0_11 a0_12 a0_13 a0_14 a0_15 a0_16 a0_17 a0_18 a0_19 a0_20 a0_21 a0_22 a0_23 a0_24 a0_25 a0_26 a0_27 a0_28 a0_29 a0_30 a0_31 a0_32 a0_33 a0_34 a0_35 a1_0 a1_1 a1_2 a1_3 a1_4 a1_5 a1_6 w K' :=
  Calls.mono h fun e w' hh => by obtain ⟨x0, he, hx⟩ := hh; exact ⟨x0, he, hk _ _ hx⟩

/-- slices.ContainsFunc[[]goosepond/api.Six,goosepond/api.Six] -/
abbrev n_slices_ContainsFunc_api_Six_api_Six : FuncId := 73
def c_slices_ContainsFunc_api_Six_api_Six (a0 : SliceV) (a1 : Value) (w : World) (K : Bool → World → Prop) : Prop :=
  Calls Try.prog 73 ⟨[(Value.slice a0.a a0.len a0.cap), a1]⟩ w fun e w' => ∃ y5 : Bool, e = .returned (Value.bool y5) ∧ K y5 w'
theorem cm_slices_ContainsFunc_api_Six_api_Six {a0 a1 w K K'} (h : c_slices_ContainsFunc_api_Six_api_Six a0 a1 w K) (hk : ∀ x0 w', K x0 w' → K' x0 w') : c_slices_ContainsFunc_api_Six_api_Six a0 a1 w K' :=
  Calls.mono h fun e w' hh => by obtain ⟨x0, he, hx⟩ := hh; exact ⟨x0, he, hk _ _ hx⟩

/-- slices.ContainsFunc[[]int,int] -/
abbrev n_slices_ContainsFunc_int_int : FuncId := 74
def c_slices_ContainsFunc_int_int (a0 : SliceV) (a1 : Value) (w : World) (K : Bool → World → Prop) : Prop :=
  Calls Try.prog 74 ⟨[(Value.slice a0.a a0.len a0.cap), a1]⟩ w fun e w' => ∃ y5 : Bool, e = .returned (Value.bool y5) ∧ K y5 w'
theorem cm_slices_ContainsFunc_int_int {a0 a1 w K K'} (h : c_slices_ContainsFunc_int_int a0 a1 w K) (hk : ∀ x0 w', K x0 w' → K' x0 w') : c_slices_ContainsFunc_int_int a0 a1 w K' :=
  Calls.mono h fun e w' hh => by obtain ⟨x0, he, hx⟩ := hh; exact ⟨x0, he, hk _ _ hx⟩

/-- slices.ContainsFunc[[]goosepond/api.Static,goosepond/api.Static] -/
abbrev n_slices_ContainsFunc_api_Static_api_Static : FuncId := 75
def c_slices_ContainsFunc_api_Static_api_Static (a0 : SliceV) (a1 : Value) (w : World) (K : Bool → World → Prop) : Prop :=
  Calls Try.prog 75 ⟨[(Value.slice a0.a a0.len a0.cap), a1]⟩ w fun e w' => ∃ y5 : Bool, e = .returned (Value.bool y5) ∧ K y5 w'
theorem cm_slices_ContainsFunc_api_Static_api_Static {a0 a1 w K K'} (h : c_slices_ContainsFunc_api_Static_api_Static a0 a1 w K) (hk : ∀ x0 w', K x0 w' → K' x0 w') : c_slices_ContainsFunc_api_Static_api_Static a0 a1 w K' :=
  Calls.mono h fun e w' hh => by obtain ⟨x0, he, hx⟩ := hh; exact ⟨x0, he, hk _ _ hx⟩

/-- slices.Clone[[]goosepond/api.Six,goosepond/api.Six] -/
abbrev n_slices_Clone_api_Six_api_Six : FuncId := 76
def c_slices_Clone_api_Six_api_Six (a0 : SliceV) (w : World) (K : SliceV → World → Prop) : Prop :=
  Calls Try.prog 76 ⟨[(Value.slice a0.a a0.len a0.cap)]⟩ w fun e w' => ∃ y6 : SliceV, e = .returned (Value.slice y6.a y6.len y6.cap) ∧ K y6 w'
theorem cm_slices_Clone_api_Six_api_Six {a0 w K K'} (h : c_slices_Clone_api_Six_api_Six a0 w K) (hk : ∀ x0 w', K x0 w' → K' x0 w') : c_slices_Clone_api_Six_api_Six a0 w K' :=
  Calls.mono h fun e w' hh => by obtain ⟨x0, he, hx⟩ := hh; exact ⟨x0, he, hk _ _ hx⟩

/-- goosepond/config.doubled$1 -/
abbrev n_config_doubled_1 : FuncId := 77
def c_config_doubled_1 (a0_0 : Int) (a0_1 : Int) (a0_2 : Int) (a0_3 : Int) (a0_4 : Int) (a0_5 : Int) (a0_6 : Int) (w : World) (K : Int → Int → Int → Int → World → Prop) : Prop :=
  Calls Try.prog 77 ⟨[(Value.agg ⟨[(Value.int .i64 a0_0), (Value.int .i64 a0_1), (Value.int .i64 a0_2), (Value.int .i64 a0_3), (Value.int .i64 a0_4), (Value.int .i64 a0_5), (Value.int .i64 a0_6)]⟩)]⟩ w fun e w' => ∃ y15 : Int, ∃ y16 : Int, ∃ y17 : Int, ∃ y18 : Int, e = .returned (Value.agg ⟨[(Value.int .i64 y15), (Value.int .i64 y16), (Value.int .i64 y17), (Value.int .i64 y18)]⟩) ∧ K y15 y16 y17 y18 w'
theorem cm_config_doubled_1 {a0_0 a0_1 a0_2 a0_3 a0_4 a0_5 a0_6 w K K'} (h : c_config_doubled_1 a0_0 a0_1 a0_2 a0_3 a0_4 a0_5 a0_6 w K) (hk : ∀ x0 x1 x2 x3 w', K x0 x1 x2 x3 w' → K' x0 x1 x2 x3 w') : c_config_doubled_1 a0_0 a0_1 a0_2 a0_3 a0_4 a0_5 a0_6 w K' :=
  Calls.mono h fun e w' hh => by obtain ⟨x0, x1, x2, x3, he, hx⟩ := hh; exact ⟨x0, x1, x2, x3, he, hk _ _ _ _ _ hx⟩

/-- goosepond/config.doubled$2 -/
abbrev n_config_doubled_2 : FuncId := 78
def c_config_doubled_2 (a0_0 : Int) (a0_1 : Int) (a0_2 : Int) (a0_3 : Int) (a0_4 : Int) (a0_5 : Int) (a0_6 : Int) (w : World) (K : Int → Int → Int → World → Prop) : Prop :=
  Calls Try.prog 78 ⟨[(Value.agg ⟨[(Value.int .i64 a0_0), (Value.int .i64 a0_1), (Value.int .i64 a0_2), (Value.int .i64 a0_3), (Value.int .i64 a0_4), (Value.int .i64 a0_5), (Value.int .i64 a0_6)]⟩)]⟩ w fun e w' => ∃ y13 : Int, ∃ y14 : Int, ∃ y15 : Int, e = .returned (Value.agg ⟨[(Value.int .i64 y13), (Value.int .i64 y14), (Value.int .i64 y15)]⟩) ∧ K y13 y14 y15 w'
theorem cm_config_doubled_2 {a0_0 a0_1 a0_2 a0_3 a0_4 a0_5 a0_6 w K K'} (h : c_config_doubled_2 a0_0 a0_1 a0_2 a0_3 a0_4 a0_5 a0_6 w K) (hk : ∀ x0 x1 x2 w', K x0 x1 x2 w' → K' x0 x1 x2 w') : c_config_doubled_2 a0_0 a0_1 a0_2 a0_3 a0_4 a0_5 a0_6 w K' :=
  Calls.mono h fun e w' hh => by obtain ⟨x0, x1, x2, he, hx⟩ := hh; exact ⟨x0, x1, x2, he, hk _ _ _ _ hx⟩

/-- goosepond/config.twice[goosepond/api.Six] -/
abbrev n_config_twice_api_Six : FuncId := 79
def c_config_twice_api_Six (a0 : Value) (w : World) (K : Bool → World → Prop) : Prop :=
  Calls Try.prog 79 ⟨[a0]⟩ w fun e w' => ∃ y58 : Bool, e = .returned (Value.bool y58) ∧ K y58 w'
theorem cm_config_twice_api_Six {a0 w K K'} (h : c_config_twice_api_Six a0 w K) (hk : ∀ x0 w', K x0 w' → K' x0 w') : c_config_twice_api_Six a0 w K' :=
  Calls.mono h fun e w' hh => by obtain ⟨x0, he, hx⟩ := hh; exact ⟨x0, he, hk _ _ hx⟩

/-- goosepond/config.each[goosepond/api.Six,goosepond/api.Six] -/
abbrev n_config_each_api_Six_api_Six : FuncId := 80
def c_config_each_api_Six_api_Six (a0 : SliceV) (a1 : Value) (w : World) (K : Value → World → Prop) : Prop :=
  Calls Try.prog 80 ⟨[(Value.slice a0.a a0.len a0.cap), a1]⟩ w fun e w' => ∃ y7 : Value, e = .returned y7 ∧ K y7 w'
theorem cm_config_each_api_Six_api_Six {a0 a1 w K K'} (h : c_config_each_api_Six_api_Six a0 a1 w K) (hk : ∀ x0 w', K x0 w' → K' x0 w') : c_config_each_api_Six_api_Six a0 a1 w K' :=
  Calls.mono h fun e w' hh => by obtain ⟨x0, he, hx⟩ := hh; exact ⟨x0, he, hk _ _ hx⟩

/-- goosepond/config.itself[goosepond/api.Six] -/
abbrev n_config_itself_api_Six : FuncId := 81
def c_config_itself_api_Six (a0_0 : Int) (a0_1 : Int) (a0_2 : Int) (a0_3 : Int) (a0_4 : Int) (a0_5 : Int) (a0_6 : Int) (a0_7 : Int) (a0_8 : Int) (a0_9 : Int) (a0_10 : Int) (a0_11 : Int) (a0_12 : Int) (a0_13 : Int) (a0_14 : Int) (a0_15 : Int) (w : World) (K : Int → Int → Int → Int → Int → Int → Int → Int → Int → Int → Int → Int → Int → Int → Int → Int → World → Prop) : Prop :=
  Calls Try.prog 81 ⟨[(Value.agg ⟨[(Value.int .u8 a0_0), (Value.int .u8 a0_1), (Value.int .u8 a0_2), (Value.int .u8 a0_3), (Value.int .u8 a0_4), (Value.int .u8 a0_5), (Value.int .u8 a0_6), (Value.int .u8 a0_7), (Value.int .u8 a0_8), (Value.int .u8 a0_9), (Value.int .u8 a0_10), (Value.int .u8 a0_11), (Value.int .u8 a0_12), (Value.int .u8 a0_13), (Value.int .u8 a0_14), (Value.int .u8 a0_15)]⟩)]⟩ w fun e w' => ∃ y39 : Int, ∃ y40 : Int, ∃ y41 : Int, ∃ y42 : Int, ∃ y43 : Int, ∃ y44 : Int, ∃ y45 : Int, ∃ y46 : Int, ∃ y47 : Int, ∃ y48 : Int, ∃ y49 : Int, ∃ y50 : Int, ∃ y51 : Int, ∃ y52 : Int, ∃ y53 : Int, ∃ y54 : Int, e = .returned (Value.agg ⟨[(Value.int .u8 y39), (Value.int .u8 y40), (Value.int .u8 y41), (Value.int .u8 y42), (Value.int .u8 y43), (Value.int .u8 y44), (Value.int .u8 y45), (Value.int .u8 y46), (Value.int .u8 y47), (Value.int .u8 y48), (Value.int .u8 y49), (Value.int .u8 y50), (Value.int .u8 y51), (Value.int .u8 y52), (Value.int .u8 y53), (Value.int .u8 y54)]⟩) ∧ K y39 y40 y41 y42 y43 y44 y45 y46 y47 y48 y49 y50 y51 y52 y53 y54 w'
theorem cm_config_itself_api_Six {a0_0 a0_1 a0_2 a0_3 a0_4 a0_5 a0_6 a0_7 a0_8 a0_9 a0_10 a0_11 a0_12 a0_13 a0_14 a0_15 w K K'} (h : c_config_itself_api_Six a0_0 a0_1 a0_2 a0_3 a0_4 a0_5 a0_6 a0_7 a0_8 a0_9 a0_10 a0_11 a0_12 a0_13 a0_14 a0_15 w K) (hk : ∀ x0 x1 x2 x3 x4 x5 x6 x7 x8 x9 x10 x11 x12 x13 x14 x15 w', K x0 x1 x2 x3 x4 x5 x6 x7 x8 x9 x10 x11 x12 x13 x14 x15 w' → K' x0 x1 x2 x3 x4 x5 x6 x7 x8 x9 x10 x11 x12 x13 x14 x15 w') : c_config_itself_api_Six a0_0 a0_1 a0_2 a0_3 a0_4 a0_5 a0_6 a0_7 a0_8 a0_9 a0_10 a0_11 a0_12 a0_13 a0_14 a0_15 w K' :=
  Calls.mono h fun e w' hh => by obtain ⟨x0, x1, x2, x3, x4, x5, x6, x7, x8, x9, x10, x11, x12, x13, x14, x15, he, hx⟩ := hh; exact ⟨x0, x1, x2, x3, x4, x5, x6, x7, x8, x9, x10, x11, x12, x13, x14, x15, he, hk _ _ _ _ _ _ _ _ _ _ _ _ _ _ _ _ _ hx⟩

/-- goosepond/config.twice[int] -/
abbrev n_config_twice_int : FuncId := 82
def c_config_twice_int (a0 : Value) (w : World) (K : Bool → World → Prop) : Prop :=
  Calls Try.prog 82 ⟨[a0]⟩ w fun e w' => ∃ y23 : Bool, e = .returned (Value.bool y23) ∧ K y23 w'
theorem cm_config_twice_int {a0 w K K'} (h : c_config_twice_int a0 w K) (hk : ∀ x0 w', K x0 w' → K' x0 w') : c_config_twice_int a0 w K' :=
  Calls.mono h fun e w' hh => by obtain ⟨x0, he, hx⟩ := hh; exact ⟨x0, he, hk _ _ hx⟩

/-- goosepond/config.each[int,int] -/
abbrev n_config_each_int_int : FuncId := 83
def c_config_each_int_int (a0 : SliceV) (a1 : Value) (w : World) (K : Value → World → Prop) : Prop :=
  Calls Try.prog 83 ⟨[(Value.slice a0.a a0.len a0.cap), a1]⟩ w fun e w' => ∃ y7 : Value, e = .returned y7 ∧ K y7 w'
theorem cm_config_each_int_int {a0 a1 w K K'} (h : c_config_each_int_int a0 a1 w K) (hk : ∀ x0 w', K x0 w' → K' x0 w') : c_config_each_int_int a0 a1 w K' :=
  Calls.mono h fun e w' hh => by obtain ⟨x0, he, hx⟩ := hh; exact ⟨x0, he, hk _ _ hx⟩

/-- goosepond/config.itself[int] -/
abbrev n_config_itself_int : FuncId := 84
def c_config_itself_int (a0 : Int) (w : World) (K : Int → World → Prop) : Prop :=
  Calls Try.prog 84 ⟨[(Value.int .i64 a0)]⟩ w fun e w' => ∃ y2 : Int, e = .returned (Value.int .i64 y2) ∧ K y2 w'
theorem cm_config_itself_int {a0 w K K'} (h : c_config_itself_int a0 w K) (hk : ∀ x0 w', K x0 w' → K' x0 w') : c_config_itself_int a0 w K' :=
  Calls.mono h fun e w' hh => by obtain ⟨x0, he, hx⟩ := hh; exact ⟨x0, he, hk _ _ hx⟩

/-- goosepond/config.twice[goosepond/api.Inner] -/
abbrev n_config_twice_api_Inner : FuncId := 85
def c_config_twice_api_Inner (a0 : Value) (w : World) (K : Bool → World → Prop) : Prop :=
  Calls Try.prog 85 ⟨[a0]⟩ w fun e w' => ∃ y34 : Bool, e = .returned (Value.bool y34) ∧ K y34 w'
theorem cm_config_twice_api_Inner {a0 w K K'} (h : c_config_twice_api_Inner a0 w K) (hk : ∀ x0 w', K x0 w' → K' x0 w') : c_config_twice_api_Inner a0 w K' :=
  Calls.mono h fun e w' hh => by obtain ⟨x0, he, hx⟩ := hh; exact ⟨x0, he, hk _ _ hx⟩

/-- goosepond/config.each[goosepond/api.Static,goosepond/api.Inner] -/
abbrev n_config_each_api_Static_api_Inner : FuncId := 86
def c_config_each_api_Static_api_Inner (a0 : SliceV) (a1 : Value) (w : World) (K : Value → World → Prop) : Prop :=
  Calls Try.prog 86 ⟨[(Value.slice a0.a a0.len a0.cap), a1]⟩ w fun e w' => ∃ y7 : Value, e = .returned y7 ∧ K y7 w'
theorem cm_config_each_api_Static_api_Inner {a0 a1 w K K'} (h : c_config_each_api_Static_api_Inner a0 a1 w K) (hk : ∀ x0 w', K x0 w' → K' x0 w') : c_config_each_api_Static_api_Inner a0 a1 w K' :=
  Calls.mono h fun e w' hh => by obtain ⟨x0, he, hx⟩ := hh; exact ⟨x0, he, hk _ _ hx⟩

/-- goosepond/config.twice[goosepond/api.Outer] -/
abbrev n_config_twice_api_Outer : FuncId := 87
def c_config_twice_api_Outer (a0 : Value) (w : World) (K : Bool → World → Prop) : Prop :=
  Calls Try.prog 87 ⟨[a0]⟩ w fun e w' => ∃ y32 : Bool, e = .returned (Value.bool y32) ∧ K y32 w'
theorem cm_config_twice_api_Outer {a0 w K K'} (h : c_config_twice_api_Outer a0 w K) (hk : ∀ x0 w', K x0 w' → K' x0 w') : c_config_twice_api_Outer a0 w K' :=
  Calls.mono h fun e w' hh => by obtain ⟨x0, he, hx⟩ := hh; exact ⟨x0, he, hk _ _ hx⟩

/-- goosepond/config.each[goosepond/api.Static,goosepond/api.Outer] -/
abbrev n_config_each_api_Static_api_Outer : FuncId := 88
def c_config_each_api_Static_api_Outer (a0 : SliceV) (a1 : Value) (w : World) (K : Value → World → Prop) : Prop :=
  Calls Try.prog 88 ⟨[(Value.slice a0.a a0.len a0.cap), a1]⟩ w fun e w' => ∃ y7 : Value, e = .returned y7 ∧ K y7 w'
theorem cm_config_each_api_Static_api_Outer {a0 a1 w K K'} (h : c_config_each_api_Static_api_Outer a0 a1 w K) (hk : ∀ x0 w', K x0 w' → K' x0 w') : c_config_each_api_Static_api_Outer a0 a1 w K' :=
  Calls.mono h fun e w' hh => by obtain ⟨x0, he, hx⟩ := hh; exact ⟨x0, he, hk _ _ hx⟩

/-- goosepond/config.doubled$3 -/
abbrev n_config_doubled_3 : FuncId := 89
def c_config_doubled_3 (a0 : Int) (f0 : Addr) (w : World) (K : Bool → World → Prop) : Prop :=
  Calls Try.prog 89 ⟨[(Value.int .i64 a0), (Value.pointer (some f0))]⟩ w fun e w' => ∃ y3 : Bool, e = .returned (Value.bool y3) ∧ K y3 w'
theorem cm_config_doubled_3 {a0 f0 w K K'} (h : c_config_doubled_3 a0 f0 w K) (hk : ∀ x0 w', K x0 w' → K' x0 w') : c_config_doubled_3 a0 f0 w K' :=
  Calls.mono h fun e w' hh => by obtain ⟨x0, he, hx⟩ := hh; exact ⟨x0, he, hk _ _ hx⟩

/-- goosepond/goosepondref20.in -/
abbrev n_ref20_in : FuncId := 90
def c_ref20_in (a0 : Int) (a1 : Int) (a2 : Int) (w : World) (K : Bool → World → Prop) : Prop :=
  Calls Try.prog 90 ⟨[(Value.int .i64 a0), (Value.int .i64 a1), (Value.int .i64 a2)]⟩ w fun e w' => ∃ y6 : Bool, e = .returned (Value.bool y6) ∧ K y6 w'
theorem cm_ref20_in {a0 a1 a2 w K K'} (h : c_ref20_in a0 a1 a2 w K) (hk : ∀ x0 w', K x0 w' → K' x0 w') : c_ref20_in a0 a1 a2 w K' :=
  Calls.mono h fun e w' hh => by obtain ⟨x0, he, hx⟩ := hh; exact ⟨x0, he, hk _ _ hx⟩

/-- goosepond/goosepondref04.Host -/
abbrev n_ref04_Host : FuncId := 91
def c_ref04_Host (a0_0 : Int) (a0_1 : Int) (a0_2 : Int) (a0_3 : Int) (a0_4 : Int) (a0_5 : Int) (a0_6 : Int) (a0_7 : Int) (a0_8 : Int) (a0_9 : Int) (a0_10 : Int) (a0_11 : Int) (a0_12 : Int) (a0_13 : Int) (a0_14 : Int) (a0_15 : Int) (w : World) (K : Bool → World → Prop) : Prop :=
  Calls Try.prog 91 ⟨[(Value.agg ⟨[(Value.int .u8 a0_0), (Value.int .u8 a0_1), (Value.int .u8 a0_2), (Value.int .u8 a0_3), (Value.int .u8 a0_4), (Value.int .u8 a0_5), (Value.int .u8 a0_6), (Value.int .u8 a0_7), (Value.int .u8 a0_8), (Value.int .u8 a0_9), (Value.int .u8 a0_10), (Value.int .u8 a0_11), (Value.int .u8 a0_12), (Value.int .u8 a0_13), (Value.int .u8 a0_14), (Value.int .u8 a0_15)]⟩)]⟩ w fun e w' => ∃ y23 : Bool, e = .returned (Value.bool y23) ∧ K y23 w'
theorem cm_ref04_Host {a0_0 a0_1 a0_2 a0_3 a0_4 a0_5 a0_6 a0_7 a0_8 a0_9 a0_10 a0_11 a0_12 a0_13 a0_14 a0_15 w K K'} (h : c_ref04_Host a0_0 a0_1 a0_2 a0_3 a0_4 a0_5 a0_6 a0_7 a0_8 a0_9 a0_10 a0_11 a0_12 a0_13 a0_14 a0_15 w K) (hk : ∀ x0 w', K x0 w' → K' x0 w') : c_ref04_Host a0_0 a0_1 a0_2 a0_3 a0_4 a0_5 a0_6 a0_7 a0_8 a0_9 a0_10 a0_11 a0_12 a0_13 a0_14 a0_15 w K' :=
  Calls.mono h fun e w' hh => by obtain ⟨x0, he, hx⟩ := hh; exact ⟨x0, he, hk _ _ hx⟩

/-- goosepond/goosepondref03.Host -/
abbrev n_ref03_Host : FuncId := 92
def c_ref03_Host (a0 : Int) (w : World) (K : Bool → World → Prop) : Prop :=
  Calls Try.prog 92 ⟨[(Value.int .i64 a0)]⟩ w fun e w' => ∃ y4 : Bool, e = .returned (Value.bool y4) ∧ K y4 w'
theorem cm_ref03_Host {a0 w K K'} (h : c_ref03_Host a0 w K) (hk : ∀ x0 w', K x0 w' → K' x0 w') : c_ref03_Host a0 w K' :=
  Calls.mono h fun e w' hh => by obtain ⟨x0, he, hx⟩ := hh; exact ⟨x0, he, hk _ _ hx⟩

/-- goosepond/goosepondref20.static -/
abbrev n_ref20_static : FuncId := 93
def c_ref20_static (a0_0 : Int) (a0_1 : Int) (a0_2 : Int) (a0_3 : Int) (a0_4 : Int) (a0_5 : Int) (a0_6 : Int) (a0_7 : Int) (a0_8 : Int) (a0_9 : Int) (a0_10 : Int) (a0_11 : Int) (a0_12 : Int) (a0_13 : Int) (a0_14 : Int) (a0_15 : Int) (a0_16 : SliceV) (a0_17 : SliceV) (a0_18 : Int) (a0_19 : Int) (a0_20 : Int) (a0_21 : Int) (a0_22 : Int) (a0_23 : Int) (a0_24 : Int) (a0_25 : Int) (a0_26 : Int) (a0_27 : Int) (a0_28 : Int) (a0_29 : Int) (a0_30 : Int) (a0_31 : Int) (a0_32 : Int) (a0_33 : Int) (a0_34 : Int) (a0_35 : SliceV) (a1_0 : Int) (a1_1 : Int) (a1_2 : Int) (a1_3 : Int) (a1_4 : Int) (a1_5 : Int) (a1_6 : Int) (w : World) (K : Bool → World → Prop) : Prop :=
  Calls Try.prog 93 ⟨[(Value.agg ⟨((Value.int .u8 a0_0) :: (Value.int .u8 a0_1) :: (Value.int .u8 a0_2) :: (Value.int .u8 a0_3) :: (Value.int .u8 a0_4) :: (Value.int .u8 a0_5) :: (Value.int .u8 a0_6) :: (Value.int .u8 a0_7) :: (Value.int .u8 a0_8) :: (Value.int .u8 a0_9) :: (Value.int .u8 a0_10) :: (Value.int .u8 a0_11) :: (Value.int .u8 a0_12) :: (Value.int .u8 a0_13) :: (Value.int .u8 a0_14) :: (Value.int .u8 a0_15) :: (Value.slice a0_16.a a0_16.len a0_16.cap) :: (Value.slice a0_17.a a0_17.len a0_17.cap) :: (Value.int .i64 a0_18) :: (Value.int .i64 a0_19) :: (Value.int .i64 a0_20) :: (Value.int .i64 a0_21) :: (Value.int .i64 a0_22) :: (Value.int .i64 a0_23) :: (Value.int .i64 a0_24) :: (Value.int .i64 a0_25) :: (Value.int .i64 a0_26) :: (Value.int .i64 a0_27) :: (Value.int .i64 a0_28) :: (Value.int .i64 a0_29) :: (Value.int .i64 a0_30) :: (Value.int .i64 a0_31) :: (Value.int .i64 a0_32) :: (Value.int .i64 a0_33) :: (Value.int .i64 a0_34) :: (Value.slice a0_35.a a0_35.len a0_35.cap) :: [])⟩), (Value.agg ⟨[(Value.int .i64 a1_0), (Value.int .i64 a1_1), (Value.int .i64 a1_2), (Value.int .i64 a1_3), (Value.int .i64 a1_4), (Value.int .i64 a1_5), (Value.int .i64 a1_6)]⟩)]⟩ w fun e w' => ∃ y72 : Bool, e = .returned (Value.bool y72) ∧ K y72 w'
theorem cm_ref20_static {a0_0 a0_1 a0_2 a0_3 a0_4 a0_5 a0_6 a0_7 a0_8 a0_9 a0_10 a0_11 a0_12 a0_13 a0_14 a0_15 a0_16 a0_17 a0_18 a0_19 a0_20 a0_21 a0_22 a0_23 a0_24 a0_25 a0_26 a0_27 a0_28 a0_29 a0_30 a0_31 a0_32 a0_33 a0_34 a0_35 a1_0 a1_1 a1_2 a1_3 a1_4 a1_5 a1_6 w K K'} (h : c_ref20_static a0_0 a0_1 a0_2 a0_3 a0_4 a0_5 a0_6 a0_7 a0_8 a0_9 a0_10 a0_11 a0_12 a0_13 a0_14 a0_15 a0_16 a0_17 a0_18 a0_19 a0_20 a0_21 a0_22 a0_23 a0_24 a0_25 a0_26 a0_27 a0_28 a0_29 a0_30 a0_31 a0_32 a0_33 a0_34 a0_35 a1_0 a1_1 a1_2 a1_3 a1_4 a1_5 a1_6 w K) (hk : ∀ x0 w', K x0 w' → K' x0 w') : c_ref20_static a0_0 a0_1 a0_2 a0_3 a0_4 a0_5 a0_6 a0_7 a0_8 a0_9 a0_10 a0_11 a0_12 a0_13 a0_14 a0_15 a0_16 a0_17 a0_18 a0_19 a0_20 a0_21 a0_22 a0_23 a0_24 a0_25 a0_26 a0_27 a0_28 a0_29 a0_30 a0_31 a0_32 a0_33 a0_34 a0_35 a1_0 a1_1 a1_2 a1_3 a1_4 a1_5 a1_6 w K' :=
  Calls.mono h fun e w' hh => by obtain ⟨x0, he, hx⟩ := hh; exact ⟨x0, he, hk _ _ hx⟩

/-- goosepond/config.proto -/
abbrev n_config_proto : FuncId := 104
def c_config_proto (a0 : Int) (w : World) (K : Bool → World → Prop) : Prop :=
  Calls Try.prog 104 ⟨[(Value.int .i64 a0)]⟩ w fun e w' => ∃ y6 : Bool, e = .returned (Value.bool y6) ∧ K y6 w'
theorem cm_config_proto {a0 w K K'} (h : c_config_proto a0 w K) (hk : ∀ x0 w', K x0 w' → K' x0 w') : c_config_proto a0 w K' :=
  Calls.mono h fun e w' hh => by obtain ⟨x0, he, hx⟩ := hh; exact ⟨x0, he, hk _ _ hx⟩

/-- slices.IndexFunc[[]goosepond/api.Six,goosepond/api.Six] -/
abbrev n_slices_IndexFunc_api_Six_api_Six : FuncId := 105
def c_slices_IndexFunc_api_Six_api_Six (a0 : SliceV) (a1 : Value) (w : World) (K : Int → World → Prop) : Prop :=
  Calls Try.prog 105 ⟨[(Value.slice a0.a a0.len a0.cap), a1]⟩ w fun e w' => ∃ y26 : Int, e = .returned (Value.int .i64 y26) ∧ K y26 w'
theorem cm_slices_IndexFunc_api_Six_api_Six {a0 a1 w K K'} (h : c_slices_IndexFunc_api_Six_api_Six a0 a1 w K) (hk : ∀ x0 w', K x0 w' → K' x0 w') : c_slices_IndexFunc_api_Six_api_Six a0 a1 w K' :=
  Calls.mono h fun e w' hh => by obtain ⟨x0, he, hx⟩ := hh; exact ⟨x0, he, hk _ _ hx⟩

/-- slices.IndexFunc[[]int,int] -/
abbrev n_slices_IndexFunc_int_int : FuncId := 106
def c_slices_IndexFunc_int_int (a0 : SliceV) (a1 : Value) (w : World) (K : Int → World → Prop) : Prop :=
  Calls Try.prog 106 ⟨[(Value.slice a0.a a0.len a0.cap), a1]⟩ w fun e w' => ∃ y11 : Int, e = .returned (Value.int .i64 y11) ∧ K y11 w'
theorem cm_slices_IndexFunc_int_int {a0 a1 w K K'} (h : c_slices_IndexFunc_int_int a0 a1 w K) (hk : ∀ x0 w', K x0 w' → K' x0 w') : c_slices_IndexFunc_int_int a0 a1 w K' :=
  Calls.mono h fun e w' hh => by obtain ⟨x0, he, hx⟩ := hh; exact ⟨x0, he, hk _ _ hx⟩

/-- slices.IndexFunc[[]goosepond/api.Static,goosepond/api.Static] -/
abbrev n_slices_IndexFunc_api_Static_api_Static : FuncId := 107
def c_slices_IndexFunc_api_Static_api_Static (a0 : SliceV) (a1 : Value) (w : World) (K : Int → World → Prop) : Prop :=
  Calls Try.prog 107 ⟨[(Value.slice a0.a a0.len a0.cap), a1]⟩ w fun e w' => ∃ y17 : Int, e = .returned (Value.int .i64 y17) ∧ K y17 w'
theorem cm_slices_IndexFunc_api_Static_api_Static {a0 a1 w K K'} (h : c_slices_IndexFunc_api_Static_api_Static a0 a1 w K) (hk : ∀ x0 w', K x0 w' → K' x0 w') : c_slices_IndexFunc_api_Static_api_Static a0 a1 w K' :=
  Calls.mono h fun e w' hh => by obtain ⟨x0, he, hx⟩ := hh; exact ⟨x0, he, hk _ _ hx⟩

/-- goosepond/config.each[goosepond/api.Six,goosepond/api.Six]$1 -/
abbrev n_config_each_api_Six_api_Six_1 : FuncId := 108
def c_config_each_api_Six_api_Six_1 (a0 : Value) (f0 : Addr) (f1 : Addr) (w : World) (K : World → Prop) : Prop :=
  Calls Try.prog 108 ⟨[a0, (Value.pointer (some f0)), (Value.pointer (some f1))]⟩ w fun e w' => e = .returned (Value.tuple ⟨[]⟩) ∧ K w'
theorem cm_config_each_api_Six_api_Six_1 {a0 f0 f1 w K K'} (h : c_config_each_api_Six_api_Six_1 a0 f0 f1 w K) (hk : ∀  w', K  w' → K'  w') : c_config_each_api_Six_api_Six_1 a0 f0 f1 w K' :=
  Calls.mono h fun e w' hh => by obtain ⟨he, hx⟩ := hh; exact ⟨he, hk  _ hx⟩

/-- goosepond/config.each[int,int]$1 -/
abbrev n_config_each_int_int_1 : FuncId := 109
def c_config_each_int_int_1 (a0 : Value) (f0 : Addr) (f1 : Addr) (w : World) (K : World → Prop) : Prop :=
  Calls Try.prog 109 ⟨[a0, (Value.pointer (some f0)), (Value.pointer (some f1))]⟩ w fun e w' => e = .returned (Value.tuple ⟨[]⟩) ∧ K w'
theorem cm_config_each_int_int_1 {a0 f0 f1 w K K'} (h : c_config_each_int_int_1 a0 f0 f1 w K) (hk : ∀  w', K  w' → K'  w') : c_config_each_int_int_1 a0 f0 f1 w K' :=
  Calls.mono h fun e w' hh => by obtain ⟨he, hx⟩ := hh; exact ⟨he, hk  _ hx⟩

/-- goosepond/config.each[goosepond/api.Static,goosepond/api.Inner]$1 -/
abbrev n_config_each_api_Static_api_Inner_1 : FuncId := 110
def c_config_each_api_Static_api_Inner_1 (a0 : Value) (f0 : Addr) (f1 : Addr) (w : World) (K : World → Prop) : Prop :=
  Calls Try.prog 110 ⟨[a0, (Value.pointer (some f0)), (Value.pointer (some f1))]⟩ w fun e w' => e = .returned (Value.tuple ⟨[]⟩) ∧ K w'
theorem cm_config_each_api_Static_api_Inner_1 {a0 f0 f1 w K K'} (h : c_config_each_api_Static_api_Inner_1 a0 f0 f1 w K) (hk : ∀  w', K  w' → K'  w') : c_config_each_api_Static_api_Inner_1 a0 f0 f1 w K' :=
  Calls.mono h fun e w' hh => by obtain ⟨he, hx⟩ := hh; exact ⟨he, hk  _ hx⟩

/-- goosepond/config.each[goosepond/api.Static,goosepond/api.Outer]$1 -/
abbrev n_config_each_api_Static_api_Outer_1 : FuncId := 111
def c_config_each_api_Static_api_Outer_1 (a0 : Value) (f0 : Addr) (f1 : Addr) (w : World) (K : World → Prop) : Prop :=
  Calls Try.prog 111 ⟨[a0, (Value.pointer (some f0)), (Value.pointer (some f1))]⟩ w fun e w' => e = .returned (Value.tuple ⟨[]⟩) ∧ K w'
theorem cm_config_each_api_Static_api_Outer_1 {a0 f0 f1 w K K'} (h : c_config_each_api_Static_api_Outer_1 a0 f0 f1 w K) (hk : ∀  w', K  w' → K'  w') : c_config_each_api_Static_api_Outer_1 a0 f0 f1 w K' :=
  Calls.mono h fun e w' hh => by obtain ⟨he, hx⟩ := hh; exact ⟨he, hk  _ hx⟩

/-- goosepond/goosepondref20.pool -/
abbrev n_ref20_pool : FuncId := 112
def c_ref20_pool (a0_0 : Int) (a0_1 : Int) (a0_2 : Int) (a0_3 : Int) (a0_4 : Int) (a0_5 : Int) (a0_6 : Int) (a0_7 : Int) (a0_8 : Int) (a0_9 : Int) (a0_10 : Int) (a0_11 : Int) (a0_12 : Int) (a0_13 : Int) (a0_14 : Int) (a0_15 : Int) (a0_16 : SliceV) (a0_17 : SliceV) (a0_18 : Int) (a0_19 : Int) (a0_20 : Int) (a0_21 : Int) (a0_22 : Int) (a0_23 : Int) (a0_24 : Int) (a0_25 : Int) (a0_26 : Int) (a0_27 : Int) (a0_28 : Int) (a0_29 : Int) (a0_30 : Int) (a0_31 : Int) (a0_32 : Int) (a0_33 : Int) (a0_34 : Int) (a0_35 : SliceV) (a1 : Int) (w : World) (K : Bool → World → Prop) : Prop :=
  Calls Try.prog 112 ⟨[(Value.agg ⟨((Value.int .u8 a0_0) :: (Value.int .u8 a0_1) :: (Value.int .u8 a0_2) :: (Value.int .u8 a0_3) :: (Value.int .u8 a0_4) :: (Value.int .u8 a0_5) :: (Value.int .u8 a0_6) :: (Value.int .u8 a0_7) :: (Value.int .u8 a0_8) :: (Value.int .u8 a0_9) :: (Value.int .u8 a0_10) :: (Value.int .u8 a0_11) :: (Value.int .u8 a0_12) :: (Value.int .u8 a0_13) :: (Value.int .u8 a0_14) :: (Value.int .u8 a0_15) :: (Value.slice a0_16.a a0_16.len a0_16.cap) :: (Value.slice a0_17.a a0_17.len a0_17.cap) :: (Value.int .i64 a0_18) :: (Value.int .i64 a0_19) :: (Value.int .i64 a0_20) :: (Value.int .i64 a0_21) :: (Value.int .i64 a0_22) :: (Value.int .i64 a0_23) :: (Value.int .i64 a0_24) :: (Value.int .i64 a0_25) :: (Value.int .i64 a0_26) :: (Value.int .i64 a0_27) :: (Value.int .i64 a0_28) :: (Value.int .i64 a0_29) :: (Value.int .i64 a0_30) :: (Value.int .i64 a0_31) :: (Value.int .i64 a0_32) :: (Value.int .i64 a0_33) :: (Value.int .i64 a0_34) :: (Value.slice a0_35.a a0_35.len a0_35.cap) :: [])⟩), (Value.int .i64 a1)]⟩ w fun e w' => ∃ y12 : Bool, e = .returned (Value.bool y12) ∧ K y12 w'
theorem cm_ref20_pool {a0_0 a0_1 a0_2 a0_3 a0_4 a0_5 a0_6 a0_7 a0_8 a0_9 a0_10 a0_11 a0_12 a0_13 a0_14 a0_15 a0_16 a0_17 a0_18 a0_19 a0_20 a0_21 a0_22 a0_23 a0_24 a0_25 a0_26 a0_27 a0_28 a0_29 a0_30 a0_31 a0_32 a0_33 a0_34 a0_35 a1 w K K'} (h : c_ref20_pool a0_0 a0_1 a0_2 a0_3 a0_4 a0_5 a0_6 a0_7 a0_8 a0_9 a0_10 a0_11 a0_12 a0_13 a0_14 a0_15 a0_16 a0_17 a0_18 a0_19 a0_20 a0_21 a0_22 a0_23 a0_24 a0_25 a0_26 a0_27 a0_28 a0_29 a0_30 a0_31 a0_32 a0_33 a0_34 a0_35 a1 w K) (hk : ∀ x0 w', K x0 w' → K' x0 w') : c_ref20_pool a0_0 a0_1 a0_2 a0_3 a0_4 a0_5 a0_6 a0_7 a0_8 a0_9 a0_10 a0_11 a0_12 a0_13 a0_14 a0_15 a0_16 a0_17 a0_18 a0_19 a0_20 a0_21 a0_22 a0_23 a0_24 a0_25 a0_26 a0_27 a0_28 a0_29 a0_30 a0_31 a0_32 a0_33 a0_34 a0_35 a1 w K' :=
  Calls.mono h fun e w' hh => by obtain ⟨x0, he, hx⟩ := hh; exact ⟨x0, he, hk _ _ hx⟩

/-- goosepond/config.Check -/
def s_config_Check (a0_0 : Int) (a0_1 : Int) (a0_2 : Int) (a0_3 : Int) (a0_4 : Int) (a0_5 : Int) (a0_6 : Int) (a0_7 : Int) (a0_8 : Int) (a0_9 : Int) (a0_10 : Int) (a0_11 : Int) (a0_12 : Int) (a0_13 : Int) (a0_14 : Int) (a0_15 : Int) (a0_16 : SliceV) (a0_17 : SliceV) (a0_18 : Int) (a0_19 : Int) (a0_20 : Int) (a0_21 : Int) (a0_22 : Int) (a0_23 : Int) (a0_24 : Int) (a0_25 : Int) (a0_26 : Int) (a0_27 : Int) (a0_28 : Int) (a0_29 : Int) (a0_30 : Int) (a0_31 : Int) (a0_32 : Int) (a0_33 : Int) (a0_34 : Int) (a0_35 : SliceV) (w : World) (K : Int → World → Prop) : Prop :=
 (Al w (.cells ⟨((Value.int .u8 a0_0) :: (Value.int .u8 a0_1) :: (Value.int .u8 a0_2) :: (Value.int .u8 a0_3) :: (Value.int .u8 a0_4) :: (Value.int .u8 a0_5) :: (Value.int .u8 a0_6) :: (Value.int .u8 a0_7) :: (Value.int .u8 a0_8) :: (Value.int .u8 a0_9) :: (Value.int .u8 a0_10) :: (Value.int .u8 a0_11) :: (Value.int .u8 a0_12) :: (Value.int .u8 a0_13) :: (Value.int .u8 a0_14) :: (Value.int .u8 a0_15) :: (Value.slice a0_16.a a0_16.len a0_16.cap) :: (Value.slice a0_17.a a0_17.len a0_17.cap) :: (Value.int .i64 a0_18) :: (Value.int .i64 a0_19) :: (Value.int .i64 a0_20) :: (Value.int .i64 a0_21) :: (Value.int .i64 a0_22) :: (Value.int .i64 a0_23) :: (Value.int .i64 a0_24) :: (Value.int .i64 a0_25) :: (Value.int .i64 a0_26) :: (Value.int .i64 a0_27) :: (Value.int .i64 a0_28) :: (Value.int .i64 a0_29) :: (Value.int .i64 a0_30) :: (Value.int .i64 a0_31) :: (Value.int .i64 a0_32) :: (Value.int .i64 a0_33) :: (Value.int .i64 a0_34) :: (Value.slice a0_35.a a0_35.len a0_35.cap) :: [])⟩ 42) fun a3 w2 =>
 Ld (.int .u8) w2 (a3.add 0) fun x4 =>
 Ld (.int .u8) w2 (a3.add 1) fun x5 =>
 Ld (.int .u8) w2 (a3.add 2) fun x6 =>
 Ld (.int .u8) w2 (a3.add 3) fun x7 =>
 Ld (.int .u8) w2 (a3.add 4) fun x8 =>
 Ld (.int .u8) w2 (a3.add 5) fun x9 =>
 Ld (.int .u8) w2 (a3.add 6) fun x10 =>
 Ld (.int .u8) w2 (a3.add 7) fun x11 =>
 Ld (.int .u8) w2 (a3.add 8) fun x12 =>
 Ld (.int .u8) w2 (a3.add 9) fun x13 =>
 Ld (.int .u8) w2 (a3.add 10) fun x14 =>
 Ld (.int .u8) w2 (a3.add 11) fun x15 =>
 Ld (.int .u8) w2 (a3.add 12) fun x16 =>
 Ld (.int .u8) w2 (a3.add 13) fun x17 =>
 Ld (.int .u8) w2 (a3.add 14) fun x18 =>
 Ld (.int .u8) w2 (a3.add 15) fun x19 =>
 Ld .slice w2 (a3.add 16) fun x20 =>
 Ld .slice w2 (a3.add 17) fun x21 =>
 Ld (.int .i64) w2 (a3.add 18) fun x22 =>
 Ld (.int .i64) w2 (a3.add 19) fun x23 =>
 Ld (.int .i64) w2 (a3.add 20) fun x24 =>
 Ld (.int .i64) w2 (a3.add 21) fun x25 =>
 Ld (.int .i64) w2 (a3.add 22) fun x26 =>
 Ld (.int .i64) w2 (a3.add 23) fun x27 =>
 Ld (.int .i64) w2 (a3.add 24) fun x28 =>
 Ld (.int .i64) w2 (a3.add 25) fun x29 =>
 Ld (.int .i64) w2 (a3.add 26) fun x30 =>
 Ld (.int .i64) w2 (a3.add 27) fun x31 =>
 Ld (.int .i64) w2 (a3.add 28) fun x32 =>
 Ld (.int .i64) w2 (a3.add 29) fun x33 =>
 Ld (.int .i64) w2 (a3.add 30) fun x34 =>
 Ld (.int .i64) w2 (a3.add 31) fun x35 =>
 Ld (.int .i64) w2 (a3.add 32) fun x36 =>
 Ld (.int .i64) w2 (a3.add 33) fun x37 =>
 Ld (.int .i64) w2 (a3.add 34) fun x38 =>
 Ld .slice w2 (a3.add 35) fun x39 =>
 c_config_bounds x4 x5 x6 x7 x8 x9 x10 x11 x12 x13 x14 x15 x16 x17 x18 x19 x20 x21 x22 x23 x24 x25 x26 x27 x28 x29 x30 x31 x32 x33 x34 x35 x36 x37 x38 x39 w2 fun r40 w41 =>
 LoopP (S := Int × Unit) (fun s42 w43 next44 =>
 (bif (decide (s42.1 < (r40.len : Int))) then
 AtIx r40 3 s42.1 fun a45 =>
 Ld (.int .i64) w43 (a45.add 0) fun x46 =>
 Ld (.int .i64) w43 (a45.add 1) fun x47 =>
 Ld (.int .i64) w43 (a45.add 2) fun x48 =>
 Al w43 (.cells ⟨[(Value.int .i64 0), (Value.int .i64 0), (Value.int .i64 0)]⟩ 80) fun a50 w49 =>
 StN [(Value.int .i64 x46), (Value.int .i64 x47), (Value.int .i64 x48)] w49 a50 0 fun w51 =>
 Ld (.int .i64) w51 (a50.add 0) fun x52 =>
 Ld (.int .i64) w51 (a50.add 1) fun x53 =>
 Ld (.int .i64) w51 (a50.add 2) fun x54 =>
 c_config_bound_ok x52 x53 x54 w51 fun r55 w56 =>
 (bif (!r55) then
 K 1 w56
 else
 next44 ((IntKind.i64.wrap (s42.1 + 1)), ()) w56)
 else
 let J57 : Bool → World → Prop := fun j58 w59 =>
 ((bif j58 then
 K 1 w59
 else
 Ld (.int .u8) w59 (a3.add 0) fun x60 =>
 Ld (.int .u8) w59 (a3.add 1) fun x61 =>
 Ld (.int .u8) w59 (a3.add 2) fun x62 =>
 Ld (.int .u8) w59 (a3.add 3) fun x63 =>
 Ld (.int .u8) w59 (a3.add 4) fun x64 =>
 Ld (.int .u8) w59 (a3.add 5) fun x65 =>
 Ld (.int .u8) w59 (a3.add 6) fun x66 =>
 Ld (.int .u8) w59 (a3.add 7) fun x67 =>
 Ld (.int .u8) w59 (a3.add 8) fun x68 =>
 Ld (.int .u8) w59 (a3.add 9) fun x69 =>
 Ld (.int .u8) w59 (a3.add 10) fun x70 =>
 Ld (.int .u8) w59 (a3.add 11) fun x71 =>
 Ld (.int .u8) w59 (a3.add 12) fun x72 =>
 Ld (.int .u8) w59 (a3.add 13) fun x73 =>
 Ld (.int .u8) w59 (a3.add 14) fun x74 =>
 Ld (.int .u8) w59 (a3.add 15) fun x75 =>
 Ld .slice w59 (a3.add 16) fun x76 =>
 Ld .slice w59 (a3.add 17) fun x77 =>
 Ld (.int .i64) w59 (a3.add 18) fun x78 =>
 Ld (.int .i64) w59 (a3.add 19) fun x79 =>
 Ld (.int .i64) w59 (a3.add 20) fun x80 =>
 Ld (.int .i64) w59 (a3.add 21) fun x81 =>
 Ld (.int .i64) w59 (a3.add 22) fun x82 =>
 Ld (.int .i64) w59 (a3.add 23) fun x83 =>
 Ld (.int .i64) w59 (a3.add 24) fun x84 =>
 Ld (.int .i64) w59 (a3.add 25) fun x85 =>
 Ld (.int .i64) w59 (a3.add 26) fun x86 =>
 Ld (.int .i64) w59 (a3.add 27) fun x87 =>
 Ld (.int .i64) w59 (a3.add 28) fun x88 =>
 Ld (.int .i64) w59 (a3.add 29) fun x89 =>
 Ld (.int .i64) w59 (a3.add 30) fun x90 =>
 Ld (.int .i64) w59 (a3.add 31) fun x91 =>
 Ld (.int .i64) w59 (a3.add 32) fun x92 =>
 Ld (.int .i64) w59 (a3.add 33) fun x93 =>
 Ld (.int .i64) w59 (a3.add 34) fun x94 =>
 Ld .slice w59 (a3.add 35) fun x95 =>
 c_config_doubled x60 x61 x62 x63 x64 x65 x66 x67 x68 x69 x70 x71 x72 x73 x74 x75 x76 x77 x78 x79 x80 x81 x82 x83 x84 x85 x86 x87 x88 x89 x90 x91 x92 x93 x94 x95 w59 fun r96 w97 =>
 (bif r96 then
 K 9 w97
 else
 K 0 w97)))
 Ld (.int .i64) w43 (a3.add 28) fun x98 =>
 c_config_sizes x98 w43 fun r99 w100 =>
 (bif (!r99) then
 J57 true w100
 else
 Ld (.int .u8) w100 (a3.add 0) fun x101 =>
 Ld (.int .u8) w100 (a3.add 1) fun x102 =>
 Ld (.int .u8) w100 (a3.add 2) fun x103 =>
 Ld (.int .u8) w100 (a3.add 3) fun x104 =>
 Ld (.int .u8) w100 (a3.add 4) fun x105 =>
 Ld (.int .u8) w100 (a3.add 5) fun x106 =>
 Ld (.int .u8) w100 (a3.add 6) fun x107 =>
 Ld (.int .u8) w100 (a3.add 7) fun x108 =>
 Ld (.int .u8) w100 (a3.add 8) fun x109 =>
 Ld (.int .u8) w100 (a3.add 9) fun x110 =>
 Ld (.int .u8) w100 (a3.add 10) fun x111 =>
 Ld (.int .u8) w100 (a3.add 11) fun x112 =>
 Ld (.int .u8) w100 (a3.add 12) fun x113 =>
 Ld (.int .u8) w100 (a3.add 13) fun x114 =>
 Ld (.int .u8) w100 (a3.add 14) fun x115 =>
 Ld (.int .u8) w100 (a3.add 15) fun x116 =>
 Ld .slice w100 (a3.add 16) fun x117 =>
 Ld .slice w100 (a3.add 17) fun x118 =>
 Ld (.int .i64) w100 (a3.add 18) fun x119 =>
 Ld (.int .i64) w100 (a3.add 19) fun x120 =>
 Ld (.int .i64) w100 (a3.add 20) fun x121 =>
 Ld (.int .i64) w100 (a3.add 21) fun x122 =>
 Ld (.int .i64) w100 (a3.add 22) fun x123 =>
 Ld (.int .i64) w100 (a3.add 23) fun x124 =>
 Ld (.int .i64) w100 (a3.add 24) fun x125 =>
 Ld (.int .i64) w100 (a3.add 25) fun x126 =>
 Ld (.int .i64) w100 (a3.add 26) fun x127 =>
 Ld (.int .i64) w100 (a3.add 27) fun x128 =>
 Ld (.int .i64) w100 (a3.add 28) fun x129 =>
 Ld (.int .i64) w100 (a3.add 29) fun x130 =>
 Ld (.int .i64) w100 (a3.add 30) fun x131 =>
 Ld (.int .i64) w100 (a3.add 31) fun x132 =>
 Ld (.int .i64) w100 (a3.add 32) fun x133 =>
 Ld (.int .i64) w100 (a3.add 33) fun x134 =>
 Ld (.int .i64) w100 (a3.add 34) fun x135 =>
 Ld .slice w100 (a3.add 35) fun x136 =>
 c_config_parts x101 x102 x103 x104 x105 x106 x107 x108 x109 x110 x111 x112 x113 x114 x115 x116 x117 x118 x119 x120 x121 x122 x123 x124 x125 x126 x127 x128 x129 x130 x131 x132 x133 x134 x135 x136 w100 fun r137 w138 =>
 J57 (!r137) w138))) (0, ()) w41)
theorem e_config_Check (a0_0 : Int) (a0_1 : Int) (a0_2 : Int) (a0_3 : Int) (a0_4 : Int) (a0_5 : Int) (a0_6 : Int) (a0_7 : Int) (a0_8 : Int) (a0_9 : Int) (a0_10 : Int) (a0_11 : Int) (a0_12 : Int) (a0_13 : Int) (a0_14 : Int) (a0_15 : Int) (a0_16 : SliceV) (a0_17 : SliceV) (a0_18 : Int) (a0_19 : Int) (a0_20 : Int) (a0_21 : Int) (a0_22 : Int) (a0_23 : Int) (a0_24 : Int) (a0_25 : Int) (a0_26 : Int) (a0_27 : Int) (a0_28 : Int) (a0_29 : Int) (a0_30 : Int) (a0_31 : Int) (a0_32 : Int) (a0_33 : Int) (a0_34 : Int) (a0_35 : SliceV) (w : World) (K : Int → World → Prop) : den Try.prog 27 (bodyOf Try.f16) none (.seq .leaf (.seq (.seq .leaf (.blk (.loop [(8, (.int .i64))] (.seq .leaf (.seq (.cond .leaf .leaf) (.seq (.blk (.seq .leaf (.seq .leaf (.cond (.seq .leaf .leaf) .leaf)))) .leaf)))))) (.seq (.seq .leaf (.cond (.seq .leaf .leaf) .leaf)) (.seq (.seq .leaf (.cond (.seq .leaf .leaf) .leaf)) (.seq .leaf .leaf))))) (argEnv 0 [(Value.agg ⟨((Value.int .u8 a0_0) :: (Value.int .u8 a0_1) :: (Value.int .u8 a0_2) :: (Value.int .u8 a0_3) :: (Value.int .u8 a0_4) :: (Value.int .u8 a0_5) :: (Value.int .u8 a0_6) :: (Value.int .u8 a0_7) :: (Value.int .u8 a0_8) :: (Value.int .u8 a0_9) :: (Value.int .u8 a0_10) :: (Value.int .u8 a0_11) :: (Value.int .u8 a0_12) :: (Value.int .u8 a0_13) :: (Value.int .u8 a0_14) :: (Value.int .u8 a0_15) :: (Value.slice a0_16.a a0_16.len a0_16.cap) :: (Value.slice a0_17.a a0_17.len a0_17.cap) :: (Value.int .i64 a0_18) :: (Value.int .i64 a0_19) :: (Value.int .i64 a0_20) :: (Value.int .i64 a0_21) :: (Value.int .i64 a0_22) :: (Value.int .i64 a0_23) :: (Value.int .i64 a0_24) :: (Value.int .i64 a0_25) :: (Value.int .i64 a0_26) :: (Value.int .i64 a0_27) :: (Value.int .i64 a0_28) :: (Value.int .i64 a0_29) :: (Value.int .i64 a0_30) :: (Value.int .i64 a0_31) :: (Value.int .i64 a0_32) :: (Value.int .i64 a0_33) :: (Value.int .i64 a0_34) :: (Value.slice a0_35.a a0_35.len a0_35.cap) :: [])⟩)]) [] w (retK Try.prog [.tmp 2] [.one (.int .i64)] K) = s_config_Check a0_0 a0_1 a0_2 a0_3 a0_4 a0_5 a0_6 a0_7 a0_8 a0_9 a0_10 a0_11 a0_12 a0_13 a0_14 a0_15 a0_16 a0_17 a0_18 a0_19 a0_20 a0_21 a0_22 a0_23 a0_24 a0_25 a0_26 a0_27 a0_28 a0_29 a0_30 a0_31 a0_32 a0_33 a0_34 a0_35 w K := by kernel_rfl
theorem ok_config_Check {a0_0 a0_1 a0_2 a0_3 a0_4 a0_5 a0_6 a0_7 a0_8 a0_9 a0_10 a0_11 a0_12 a0_13 a0_14 a0_15 a0_16 a0_17 a0_18 a0_19 a0_20 a0_21 a0_22 a0_23 a0_24 a0_25 a0_26 a0_27 a0_28 a0_29 a0_30 a0_31 a0_32 a0_33 a0_34 a0_35 w K} (h : s_config_Check a0_0 a0_1 a0_2 a0_3 a0_4 a0_5 a0_6 a0_7 a0_8 a0_9 a0_10 a0_11 a0_12 a0_13 a0_14 a0_15 a0_16 a0_17 a0_18 a0_19 a0_20 a0_21 a0_22 a0_23 a0_24 a0_25 a0_26 a0_27 a0_28 a0_29 a0_30 a0_31 a0_32 a0_33 a0_34 a0_35 w K) : c_config_Check a0_0 a0_1 a0_2 a0_3 a0_4 a0_5 a0_6 a0_7 a0_8 a0_9 a0_10 a0_11 a0_12 a0_13 a0_14 a0_15 a0_16 a0_17 a0_18 a0_19 a0_20 a0_21 a0_22 a0_23 a0_24 a0_25 a0_26 a0_27 a0_28 a0_29 a0_30 a0_31 a0_32 a0_33 a0_34 a0_35 w K :=
  fn_sound pok Try.func16 (fn := Try.f16) (c := bodyOf Try.f16) (nt := 27) (by kernel_rfl) (by kernel_rfl) (rs := [.tmp 2]) (by kernel_rfl) [.one (.int .i64)] K (.seq .leaf (.seq (.seq .leaf (.blk (.loop [(8, (.int .i64))] (.seq .leaf (.seq (.cond .leaf .leaf) (.seq (.blk (.seq .leaf (.seq .leaf (.cond (.seq .leaf .leaf) .leaf)))) .leaf)))))) (.seq (.seq .leaf (.cond (.seq .leaf .leaf) .leaf)) (.seq (.seq .leaf (.cond (.seq .leaf .leaf) .leaf)) (.seq .leaf .leaf))))) [(Value.agg ⟨((Value.int .u8 a0_0) :: (Value.int .u8 a0_1) :: (Value.int .u8 a0_2) :: (Value.int .u8 a0_3) :: (Value.int .u8 a0_4) :: (Value.int .u8 a0_5) :: (Value.int .u8 a0_6) :: (Value.int .u8 a0_7) :: (Value.int .u8 a0_8) :: (Value.int .u8 a0_9) :: (Value.int .u8 a0_10) :: (Value.int .u8 a0_11) :: (Value.int .u8 a0_12) :: (Value.int .u8 a0_13) :: (Value.int .u8 a0_14) :: (Value.int .u8 a0_15) :: (Value.slice a0_16.a a0_16.len a0_16.cap) :: (Value.slice a0_17.a a0_17.len a0_17.cap) :: (Value.int .i64 a0_18) :: (Value.int .i64 a0_19) :: (Value.int .i64 a0_20) :: (Value.int .i64 a0_21) :: (Value.int .i64 a0_22) :: (Value.int .i64 a0_23) :: (Value.int .i64 a0_24) :: (Value.int .i64 a0_25) :: (Value.int .i64 a0_26) :: (Value.int .i64 a0_27) :: (Value.int .i64 a0_28) :: (Value.int .i64 a0_29) :: (Value.int .i64 a0_30) :: (Value.int .i64 a0_31) :: (Value.int .i64 a0_32) :: (Value.int .i64 a0_33) :: (Value.int .i64 a0_34) :: (Value.slice a0_35.a a0_35.len a0_35.cap) :: [])⟩)] (by kernel_rfl) w ((e_config_Check a0_0 a0_1 a0_2 a0_3 a0_4 a0_5 a0_6 a0_7 a0_8 a0_9 a0_10 a0_11 a0_12 a0_13 a0_14 a0_15 a0_16 a0_17 a0_18 a0_19 a0_20 a0_21 a0_22 a0_23 a0_24 a0_25 a0_26 a0_27 a0_28 a0_29 a0_30 a0_31 a0_32 a0_33 a0_34 a0_35 w K).mpr h)

/-- goosepond/goosepondref20.Check -/
def s_ref20_Check (a0_0 : Int) (a0_1 : Int) (a0_2 : Int) (a0_3 : Int) (a0_4 : Int) (a0_5 : Int) (a0_6 : Int) (a0_7 : Int) (a0_8 : Int) (a0_9 : Int) (a0_10 : Int) (a0_11 : Int) (a0_12 : Int) (a0_13 : Int) (a0_14 : Int) (a0_15 : Int) (a0_16 : SliceV) (a0_17 : SliceV) (a0_18 : Int) (a0_19 : Int) (a0_20 : Int) (a0_21 : Int) (a0_22 : Int) (a0_23 : Int) (a0_24 : Int) (a0_25 : Int) (a0_26 : Int) (a0_27 : Int) (a0_28 : Int) (a0_29 : Int) (a0_30 : Int) (a0_31 : Int) (a0_32 : Int) (a0_33 : Int) (a0_34 : Int) (a0_35 : SliceV) (w : World) (K : Int → World → Prop) : Prop :=
 (Al w (.cells ⟨((Value.int .u8 a0_0) :: (Value.int .u8 a0_1) :: (Value.int .u8 a0_2) :: (Value.int .u8 a0_3) :: (Value.int .u8 a0_4) :: (Value.int .u8 a0_5) :: (Value.int .u8 a0_6) :: (Value.int .u8 a0_7) :: (Value.int .u8 a0_8) :: (Value.int .u8 a0_9) :: (Value.int .u8 a0_10) :: (Value.int .u8 a0_11) :: (Value.int .u8 a0_12) :: (Value.int .u8 a0_13) :: (Value.int .u8 a0_14) :: (Value.int .u8 a0_15) :: (Value.slice a0_16.a a0_16.len a0_16.cap) :: (Value.slice a0_17.a a0_17.len a0_17.cap) :: (Value.int .i64 a0_18) :: (Value.int .i64 a0_19) :: (Value.int .i64 a0_20) :: (Value.int .i64 a0_21) :: (Value.int .i64 a0_22) :: (Value.int .i64 a0_23) :: (Value.int .i64 a0_24) :: (Value.int .i64 a0_25) :: (Value.int .i64 a0_26) :: (Value.int .i64 a0_27) :: (Value.int .i64 a0_28) :: (Value.int .i64 a0_29) :: (Value.int .i64 a0_30) :: (Value.int .i64 a0_31) :: (Value.int .i64 a0_32) :: (Value.int .i64 a0_33) :: (Value.int .i64 a0_34) :: (Value.slice a0_35.a a0_35.len a0_35.cap) :: [])⟩ 42) fun a3 w2 =>
 let J4 : Bool → World → Prop := fun j5 w6 =>
 ((bif j5 then
 K 1 w6
 else
 Ld (.int .u8) w6 (a3.add 0) fun x7 =>
 Ld (.int .u8) w6 (a3.add 1) fun x8 =>
 Ld (.int .u8) w6 (a3.add 2) fun x9 =>
 Ld (.int .u8) w6 (a3.add 3) fun x10 =>
 Ld (.int .u8) w6 (a3.add 4) fun x11 =>
 Ld (.int .u8) w6 (a3.add 5) fun x12 =>
 Ld (.int .u8) w6 (a3.add 6) fun x13 =>
 Ld (.int .u8) w6 (a3.add 7) fun x14 =>
 Ld (.int .u8) w6 (a3.add 8) fun x15 =>
 Ld (.int .u8) w6 (a3.add 9) fun x16 =>
 Ld (.int .u8) w6 (a3.add 10) fun x17 =>
 Ld (.int .u8) w6 (a3.add 11) fun x18 =>
 Ld (.int .u8) w6 (a3.add 12) fun x19 =>
 Ld (.int .u8) w6 (a3.add 13) fun x20 =>
 Ld (.int .u8) w6 (a3.add 14) fun x21 =>
 Ld (.int .u8) w6 (a3.add 15) fun x22 =>
 Ld .slice w6 (a3.add 16) fun x23 =>
 Ld .slice w6 (a3.add 17) fun x24 =>
 Ld (.int .i64) w6 (a3.add 18) fun x25 =>
 Ld (.int .i64) w6 (a3.add 19) fun x26 =>
 Ld (.int .i64) w6 (a3.add 20) fun x27 =>
 Ld (.int .i64) w6 (a3.add 21) fun x28 =>
 Ld (.int .i64) w6 (a3.add 22) fun x29 =>
 Ld (.int .i64) w6 (a3.add 23) fun x30 =>
 Ld (.int .i64) w6 (a3.add 24) fun x31 =>
 Ld (.int .i64) w6 (a3.add 25) fun x32 =>
 Ld (.int .i64) w6 (a3.add 26) fun x33 =>
 Ld (.int .i64) w6 (a3.add 27) fun x34 =>
 Ld (.int .i64) w6 (a3.add 28) fun x35 =>
 Ld (.int .i64) w6 (a3.add 29) fun x36 =>
 Ld (.int .i64) w6 (a3.add 30) fun x37 =>
 Ld (.int .i64) w6 (a3.add 31) fun x38 =>
 Ld (.int .i64) w6 (a3.add 32) fun x39 =>
 Ld (.int .i64) w6 (a3.add 33) fun x40 =>
 Ld (.int .i64) w6 (a3.add 34) fun x41 =>
 Ld .slice w6 (a3.add 35) fun x42 =>
 c_ref20_twice x7 x8 x9 x10 x11 x12 x13 x14 x15 x16 x17 x18 x19 x20 x21 x22 x23 x24 x25 x26 x27 x28 x29 x30 x31 x32 x33 x34 x35 x36 x37 x38 x39 x40 x41 x42 w6 fun r43 w44 =>
 (bif r43 then
 K 9 w44
 else
 K 0 w44)))
 Ld (.int .u8) w2 (a3.add 0) fun x45 =>
 Ld (.int .u8) w2 (a3.add 1) fun x46 =>
 Ld (.int .u8) w2 (a3.add 2) fun x47 =>
 Ld (.int .u8) w2 (a3.add 3) fun x48 =>
 Ld (.int .u8) w2 (a3.add 4) fun x49 =>
 Ld (.int .u8) w2 (a3.add 5) fun x50 =>
 Ld (.int .u8) w2 (a3.add 6) fun x51 =>
 Ld (.int .u8) w2 (a3.add 7) fun x52 =>
 Ld (.int .u8) w2 (a3.add 8) fun x53 =>
 Ld (.int .u8) w2 (a3.add 9) fun x54 =>
 Ld (.int .u8) w2 (a3.add 10) fun x55 =>
 Ld (.int .u8) w2 (a3.add 11) fun x56 =>
 Ld (.int .u8) w2 (a3.add 12) fun x57 =>
 Ld (.int .u8) w2 (a3.add 13) fun x58 =>
 Ld (.int .u8) w2 (a3.add 14) fun x59 =>
 Ld (.int .u8) w2 (a3.add 15) fun x60 =>
 Ld .slice w2 (a3.add 16) fun x61 =>
 Ld .slice w2 (a3.add 17) fun x62 =>
 Ld (.int .i64) w2 (a3.add 18) fun x63 =>
 Ld (.int .i64) w2 (a3.add 19) fun x64 =>
 Ld (.int .i64) w2 (a3.add 20) fun x65 =>
 Ld (.int .i64) w2 (a3.add 21) fun x66 =>
 Ld (.int .i64) w2 (a3.add 22) fun x67 =>
 Ld (.int .i64) w2 (a3.add 23) fun x68 =>
 Ld (.int .i64) w2 (a3.add 24) fun x69 =>
 Ld (.int .i64) w2 (a3.add 25) fun x70 =>
 Ld (.int .i64) w2 (a3.add 26) fun x71 =>
 Ld (.int .i64) w2 (a3.add 27) fun x72 =>
 Ld (.int .i64) w2 (a3.add 28) fun x73 =>
 Ld (.int .i64) w2 (a3.add 29) fun x74 =>
 Ld (.int .i64) w2 (a3.add 30) fun x75 =>
 Ld (.int .i64) w2 (a3.add 31) fun x76 =>
 Ld (.int .i64) w2 (a3.add 32) fun x77 =>
 Ld (.int .i64) w2 (a3.add 33) fun x78 =>
 Ld (.int .i64) w2 (a3.add 34) fun x79 =>
 Ld .slice w2 (a3.add 35) fun x80 =>
 c_ref20_numbers x45 x46 x47 x48 x49 x50 x51 x52 x53 x54 x55 x56 x57 x58 x59 x60 x61 x62 x63 x64 x65 x66 x67 x68 x69 x70 x71 x72 x73 x74 x75 x76 x77 x78 x79 x80 w2 fun r81 w82 =>
 (bif (!r81) then
 J4 true w82
 else
 Ld (.int .u8) w82 (a3.add 0) fun x83 =>
 Ld (.int .u8) w82 (a3.add 1) fun x84 =>
 Ld (.int .u8) w82 (a3.add 2) fun x85 =>
 Ld (.int .u8) w82 (a3.add 3) fun x86 =>
 Ld (.int .u8) w82 (a3.add 4) fun x87 =>
 Ld (.int .u8) w82 (a3.add 5) fun x88 =>
 Ld (.int .u8) w82 (a3.add 6) fun x89 =>
 Ld (.int .u8) w82 (a3.add 7) fun x90 =>
 Ld (.int .u8) w82 (a3.add 8) fun x91 =>
 Ld (.int .u8) w82 (a3.add 9) fun x92 =>
 Ld (.int .u8) w82 (a3.add 10) fun x93 =>
 Ld (.int .u8) w82 (a3.add 11) fun x94 =>
 Ld (.int .u8) w82 (a3.add 12) fun x95 =>
 Ld (.int .u8) w82 (a3.add 13) fun x96 =>
 Ld (.int .u8) w82 (a3.add 14) fun x97 =>
 Ld (.int .u8) w82 (a3.add 15) fun x98 =>
 Ld .slice w82 (a3.add 16) fun x99 =>
 Ld .slice w82 (a3.add 17) fun x100 =>
 Ld (.int .i64) w82 (a3.add 18) fun x101 =>
 Ld (.int .i64) w82 (a3.add 19) fun x102 =>
 Ld (.int .i64) w82 (a3.add 20) fun x103 =>
 Ld (.int .i64) w82 (a3.add 21) fun x104 =>
 Ld (.int .i64) w82 (a3.add 22) fun x105 =>
 Ld (.int .i64) w82 (a3.add 23) fun x106 =>
 Ld (.int .i64) w82 (a3.add 24) fun x107 =>
 Ld (.int .i64) w82 (a3.add 25) fun x108 =>
 Ld (.int .i64) w82 (a3.add 26) fun x109 =>
 Ld (.int .i64) w82 (a3.add 27) fun x110 =>
 Ld (.int .i64) w82 (a3.add 28) fun x111 =>
 Ld (.int .i64) w82 (a3.add 29) fun x112 =>
 Ld (.int .i64) w82 (a3.add 30) fun x113 =>
 Ld (.int .i64) w82 (a3.add 31) fun x114 =>
 Ld (.int .i64) w82 (a3.add 32) fun x115 =>
 Ld (.int .i64) w82 (a3.add 33) fun x116 =>
 Ld (.int .i64) w82 (a3.add 34) fun x117 =>
 Ld .slice w82 (a3.add 35) fun x118 =>
 c_ref20_lists x83 x84 x85 x86 x87 x88 x89 x90 x91 x92 x93 x94 x95 x96 x97 x98 x99 x100 x101 x102 x103 x104 x105 x106 x107 x108 x109 x110 x111 x112 x113 x114 x115 x116 x117 x118 w82 fun r119 w120 =>
 J4 (!r119) w120))
theorem e_ref20_Check (a0_0 : Int) (a0_1 : Int) (a0_2 : Int) (a0_3 : Int) (a0_4 : Int) (a0_5 : Int) (a0_6 : Int) (a0_7 : Int) (a0_8 : Int) (a0_9 : Int) (a0_10 : Int) (a0_11 : Int) (a0_12 : Int) (a0_13 : Int) (a0_14 : Int) (a0_15 : Int) (a0_16 : SliceV) (a0_17 : SliceV) (a0_18 : Int) (a0_19 : Int) (a0_20 : Int) (a0_21 : Int) (a0_22 : Int) (a0_23 : Int) (a0_24 : Int) (a0_25 : Int) (a0_26 : Int) (a0_27 : Int) (a0_28 : Int) (a0_29 : Int) (a0_30 : Int) (a0_31 : Int) (a0_32 : Int) (a0_33 : Int) (a0_34 : Int) (a0_35 : SliceV) (w : World) (K : Int → World → Prop) : den Try.prog 13 (bodyOf Try.f17) none (.seq .leaf (.seq (.seq .leaf (.cond (.seq .leaf .leaf) .leaf)) (.seq (.seq .leaf (.cond (.seq .leaf .leaf) .leaf)) (.seq .leaf .leaf)))) (argEnv 0 [(Value.agg ⟨((Value.int .u8 a0_0) :: (Value.int .u8 a0_1) :: (Value.int .u8 a0_2) :: (Value.int .u8 a0_3) :: (Value.int .u8 a0_4) :: (Value.int .u8 a0_5) :: (Value.int .u8 a0_6) :: (Value.int .u8 a0_7) :: (Value.int .u8 a0_8) :: (Value.int .u8 a0_9) :: (Value.int .u8 a0_10) :: (Value.int .u8 a0_11) :: (Value.int .u8 a0_12) :: (Value.int .u8 a0_13) :: (Value.int .u8 a0_14) :: (Value.int .u8 a0_15) :: (Value.slice a0_16.a a0_16.len a0_16.cap) :: (Value.slice a0_17.a a0_17.len a0_17.cap) :: (Value.int .i64 a0_18) :: (Value.int .i64 a0_19) :: (Value.int .i64 a0_20) :: (Value.int .i64 a0_21) :: (Value.int .i64 a0_22) :: (Value.int .i64 a0_23) :: (Value.int .i64 a0_24) :: (Value.int .i64 a0_25) :: (Value.int .i64 a0_26) :: (Value.int .i64 a0_27) :: (Value.int .i64 a0_28) :: (Value.int .i64 a0_29) :: (Value.int .i64 a0_30) :: (Value.int .i64 a0_31) :: (Value.int .i64 a0_32) :: (Value.int .i64 a0_33) :: (Value.int .i64 a0_34) :: (Value.slice a0_35.a a0_35.len a0_35.cap) :: [])⟩)]) [] w (retK Try.prog [.tmp 2] [.one (.int .i64)] K) = s_ref20_Check a0_0 a0_1 a0_2 a0_3 a0_4 a0_5 a0_6 a0_7 a0_8 a0_9 a0_10 a0_11 a0_12 a0_13 a0_14 a0_15 a0_16 a0_17 a0_18 a0_19 a0_20 a0_21 a0_22 a0_23 a0_24 a0_25 a0_26 a0_27 a0_28 a0_29 a0_30 a0_31 a0_32 a0_33 a0_34 a0_35 w K := by kernel_rfl
theorem ok_ref20_Check {a0_0 a0_1 a0_2 a0_3 a0_4 a0_5 a0_6 a0_7 a0_8 a0_9 a0_10 a0_11 a0_12 a0_13 a0_14 a0_15 a0_16 a0_17 a0_18 a0_19 a0_20 a0_21 a0_22 a0_23 a0_24 a0_25 a0_26 a0_27 a0_28 a0_29 a0_30 a0_31 a0_32 a0_33 a0_34 a0_35 w K} (h : s_ref20_Check a0_0 a0_1 a0_2 a0_3 a0_4 a0_5 a0_6 a0_7 a0_8 a0_9 a0_10 a0_11 a0_12 a0_13 a0_14 a0_15 a0_16 a0_17 a0_18 a0_19 a0_20 a0_21 a0_22 a0_23 a0_24 a0_25 a0_26 a0_27 a0_28 a0_29 a0_30 a0_31 a0_32 a0_33 a0_34 a0_35 w K) : c_ref20_Check a0_0 a0_1 a0_2 a0_3 a0_4 a0_5 a0_6 a0_7 a0_8 a0_9 a0_10 a0_11 a0_12 a0_13 a0_14 a0_15 a0_16 a0_17 a0_18 a0_19 a0_20 a0_21 a0_22 a0_23 a0_24 a0_25 a0_26 a0_27 a0_28 a0_29 a0_30 a0_31 a0_32 a0_33 a0_34 a0_35 w K :=
  fn_sound pok Try.func17 (fn := Try.f17) (c := bodyOf Try.f17) (nt := 13) (by kernel_rfl) (by kernel_rfl) (rs := [.tmp 2]) (by kernel_rfl) [.one (.int .i64)] K (.seq .leaf (.seq (.seq .leaf (.cond (.seq .leaf .leaf) .leaf)) (.seq (.seq .leaf (.cond (.seq .leaf .leaf) .leaf)) (.seq .leaf .leaf)))) [(Value.agg ⟨((Value.int .u8 a0_0) :: (Value.int .u8 a0_1) :: (Value.int .u8 a0_2) :: (Value.int .u8 a0_3) :: (Value.int .u8 a0_4) :: (Value.int .u8 a0_5) :: (Value.int .u8 a0_6) :: (Value.int .u8 a0_7) :: (Value.int .u8 a0_8) :: (Value.int .u8 a0_9) :: (Value.int .u8 a0_10) :: (Value.int .u8 a0_11) :: (Value.int .u8 a0_12) :: (Value.int .u8 a0_13) :: (Value.int .u8 a0_14) :: (Value.int .u8 a0_15) :: (Value.slice a0_16.a a0_16.len a0_16.cap) :: (Value.slice a0_17.a a0_17.len a0_17.cap) :: (Value.int .i64 a0_18) :: (Value.int .i64 a0_19) :: (Value.int .i64 a0_20) :: (Value.int .i64 a0_21) :: (Value.int .i64 a0_22) :: (Value.int .i64 a0_23) :: (Value.int .i64 a0_24) :: (Value.int .i64 a0_25) :: (Value.int .i64 a0_26) :: (Value.int .i64 a0_27) :: (Value.int .i64 a0_28) :: (Value.int .i64 a0_29) :: (Value.int .i64 a0_30) :: (Value.int .i64 a0_31) :: (Value.int .i64 a0_32) :: (Value.int .i64 a0_33) :: (Value.int .i64 a0_34) :: (Value.slice a0_35.a a0_35.len a0_35.cap) :: [])⟩)] (by kernel_rfl) w ((e_ref20_Check a0_0 a0_1 a0_2 a0_3 a0_4 a0_5 a0_6 a0_7 a0_8 a0_9 a0_10 a0_11 a0_12 a0_13 a0_14 a0_15 a0_16 a0_17 a0_18 a0_19 a0_20 a0_21 a0_22 a0_23 a0_24 a0_25 a0_26 a0_27 a0_28 a0_29 a0_30 a0_31 a0_32 a0_33 a0_34 a0_35 w K).mpr h)

/-- goosepond/config.bounds -/
def s_config_bounds (a0_0 : Int) (a0_1 : Int) (a0_2 : Int) (a0_3 : Int) (a0_4 : Int) (a0_5 : Int) (a0_6 : Int) (a0_7 : Int) (a0_8 : Int) (a0_9 : Int) (a0_10 : Int) (a0_11 : Int) (a0_12 : Int) (a0_13 : Int) (a0_14 : Int) (a0_15 : Int) (a0_16 : SliceV) (a0_17 : SliceV) (a0_18 : Int) (a0_19 : Int) (a0_20 : Int) (a0_21 : Int) (a0_22 : Int) (a0_23 : Int) (a0_24 : Int) (a0_25 : Int) (a0_26 : Int) (a0_27 : Int) (a0_28 : Int) (a0_29 : Int) (a0_30 : Int) (a0_31 : Int) (a0_32 : Int) (a0_33 : Int) (a0_34 : Int) (a0_35 : SliceV) (w : World) (K : SliceV → World → Prop) : Prop :=
 (Al w (.cells ⟨((Value.int .u8 a0_0) :: (Value.int .u8 a0_1) :: (Value.int .u8 a0_2) :: (Value.int .u8 a0_3) :: (Value.int .u8 a0_4) :: (Value.int .u8 a0_5) :: (Value.int .u8 a0_6) :: (Value.int .u8 a0_7) :: (Value.int .u8 a0_8) :: (Value.int .u8 a0_9) :: (Value.int .u8 a0_10) :: (Value.int .u8 a0_11) :: (Value.int .u8 a0_12) :: (Value.int .u8 a0_13) :: (Value.int .u8 a0_14) :: (Value.int .u8 a0_15) :: (Value.slice a0_16.a a0_16.len a0_16.cap) :: (Value.slice a0_17.a a0_17.len a0_17.cap) :: (Value.int .i64 a0_18) :: (Value.int .i64 a0_19) :: (Value.int .i64 a0_20) :: (Value.int .i64 a0_21) :: (Value.int .i64 a0_22) :: (Value.int .i64 a0_23) :: (Value.int .i64 a0_24) :: (Value.int .i64 a0_25) :: (Value.int .i64 a0_26) :: (Value.int .i64 a0_27) :: (Value.int .i64 a0_28) :: (Value.int .i64 a0_29) :: (Value.int .i64 a0_30) :: (Value.int .i64 a0_31) :: (Value.int .i64 a0_32) :: (Value.int .i64 a0_33) :: (Value.int .i64 a0_34) :: (Value.slice a0_35.a a0_35.len a0_35.cap) :: [])⟩ 42) fun a3 w2 =>
 Ld .slice w2 (a3.add 16) fun x4 =>
 Ld .slice w2 (a3.add 17) fun x5 =>
 Ld .slice w2 (a3.add 35) fun x6 =>
 Ld (.int .i64) w2 (a3.add 21) fun x7 =>
 Ld (.int .i64) w2 (a3.add 18) fun x8 =>
 Ld (.int .i64) w2 (a3.add 19) fun x9 =>
 Ld (.int .i64) w2 (a3.add 18) fun x10 =>
 Ld (.int .i64) w2 (a3.add 20) fun x11 =>
 Ld (.int .i64) w2 (a3.add 21) fun x12 =>
 Ld (.int .i64) w2 (a3.add 22) fun x13 =>
 Ld (.int .i64) w2 (a3.add 23) fun x14 =>
 Ld (.int .i64) w2 (a3.add 24) fun x15 =>
 Ld (.int .i64) w2 (a3.add 25) fun x16 =>
 Ld (.int .i64) w2 (a3.add 26) fun x17 =>
 Ld (.int .i64) w2 (a3.add 27) fun x18 =>
 Ld (.int .i64) w2 (a3.add 29) fun x19 =>
 Ld (.int .i64) w2 (a3.add 30) fun x20 =>
 Ld (.int .i64) w2 (a3.add 31) fun x21 =>
 Ld (.int .i64) w2 (a3.add 32) fun x22 =>
 Ld (.int .i64) w2 (a3.add 33) fun x23 =>
 Ld (.int .i64) w2 (a3.add 34) fun x24 =>
 Al w2 (.cells ⟨((Value.int .i64 (x4.len : Int)) :: (Value.int .i64 1) :: (Value.int .i64 64) :: (Value.int .i64 (x5.len : Int)) :: (Value.int .i64 1) :: (Value.int .i64 16) :: (Value.int .i64 (x6.len : Int)) :: (Value.int .i64 0) :: (Value.int .i64 (if x7 < 64 then x7 else 64)) :: (Value.int .i64 x8) :: (Value.int .i64 1) :: (Value.int .i64 65535) :: (Value.int .i64 x9) :: (Value.int .i64 x10) :: (Value.int .i64 65535) :: (Value.int .i64 x11) :: (Value.int .i64 1) :: (Value.int .i64 4096) :: (Value.int .i64 x12) :: (Value.int .i64 1) :: (Value.int .i64 4096) :: (Value.int .i64 x13) :: (Value.int .i64 1) :: (Value.int .i64 4096) :: (Value.int .i64 x14) :: (Value.int .i64 0) :: (Value.int .i64 4096) :: (Value.int .i64 x15) :: (Value.int .i64 0) :: (Value.int .i64 67108864) :: (Value.int .i64 x16) :: (Value.int .i64 1280) :: (Value.int .i64 65535) :: (Value.int .i64 x17) :: (Value.int .i64 1280) :: (Value.int .i64 65535) :: (Value.int .i64 x18) :: (Value.int .i64 1) :: (Value.int .i64 255) :: (Value.int .i64 x19) :: (Value.int .i64 0) :: (Value.int .i64 2) :: (Value.int .i64 x20) :: (Value.int .i64 120) :: (Value.int .i64 1048576) :: (Value.int .i64 x21) :: (Value.int .i64 7440) :: (Value.int .i64 1048576) :: (Value.int .i64 x22) :: (Value.int .i64 240) :: (Value.int .i64 1048576) :: (Value.int .i64 x23) :: (Value.int .i64 60) :: (Value.int .i64 1048576) :: (Value.int .i64 x24) :: (Value.int .i64 1) :: (Value.int .i64 1048576) :: [])⟩ 80) fun a26 w25 =>
 K ⟨(some a26), 19, 19⟩ w25)
theorem e_config_bounds (a0_0 : Int) (a0_1 : Int) (a0_2 : Int) (a0_3 : Int) (a0_4 : Int) (a0_5 : Int) (a0_6 : Int) (a0_7 : Int) (a0_8 : Int) (a0_9 : Int) (a0_10 : Int) (a0_11 : Int) (a0_12 : Int) (a0_13 : Int) (a0_14 : Int) (a0_15 : Int) (a0_16 : SliceV) (a0_17 : SliceV) (a0_18 : Int) (a0_19 : Int) (a0_20 : Int) (a0_21 : Int) (a0_22 : Int) (a0_23 : Int) (a0_24 : Int) (a0_25 : Int) (a0_26 : Int) (a0_27 : Int) (a0_28 : Int) (a0_29 : Int) (a0_30 : Int) (a0_31 : Int) (a0_32 : Int) (a0_33 : Int) (a0_34 : Int) (a0_35 : SliceV) (w : World) (K : SliceV → World → Prop) : den Try.prog 69 (bodyOf Try.f37) none (.seq .leaf (.seq .leaf .leaf)) (argEnv 0 [(Value.agg ⟨((Value.int .u8 a0_0) :: (Value.int .u8 a0_1) :: (Value.int .u8 a0_2) :: (Value.int .u8 a0_3) :: (Value.int .u8 a0_4) :: (Value.int .u8 a0_5) :: (Value.int .u8 a0_6) :: (Value.int .u8 a0_7) :: (Value.int .u8 a0_8) :: (Value.int .u8 a0_9) :: (Value.int .u8 a0_10) :: (Value.int .u8 a0_11) :: (Value.int .u8 a0_12) :: (Value.int .u8 a0_13) :: (Value.int .u8 a0_14) :: (Value.int .u8 a0_15) :: (Value.slice a0_16.a a0_16.len a0_16.cap) :: (Value.slice a0_17.a a0_17.len a0_17.cap) :: (Value.int .i64 a0_18) :: (Value.int .i64 a0_19) :: (Value.int .i64 a0_20) :: (Value.int .i64 a0_21) :: (Value.int .i64 a0_22) :: (Value.int .i64 a0_23) :: (Value.int .i64 a0_24) :: (Value.int .i64 a0_25) :: (Value.int .i64 a0_26) :: (Value.int .i64 a0_27) :: (Value.int .i64 a0_28) :: (Value.int .i64 a0_29) :: (Value.int .i64 a0_30) :: (Value.int .i64 a0_31) :: (Value.int .i64 a0_32) :: (Value.int .i64 a0_33) :: (Value.int .i64 a0_34) :: (Value.slice a0_35.a a0_35.len a0_35.cap) :: [])⟩)]) [] w (retK Try.prog [.tmp 2] [.one .slice] K) = s_config_bounds a0_0 a0_1 a0_2 a0_3 a0_4 a0_5 a0_6 a0_7 a0_8 a0_9 a0_10 a0_11 a0_12 a0_13 a0_14 a0_15 a0_16 a0_17 a0_18 a0_19 a0_20 a0_21 a0_22 a0_23 a0_24 a0_25 a0_26 a0_27 a0_28 a0_29 a0_30 a0_31 a0_32 a0_33 a0_34 a0_35 w K := by kernel_rfl
theorem ok_config_bounds {a0_0 a0_1 a0_2 a0_3 a0_4 a0_5 a0_6 a0_7 a0_8 a0_9 a0_10 a0_11 a0_12 a0_13 a0_14 a0_15 a0_16 a0_17 a0_18 a0_19 a0_20 a0_21 a0_22 a0_23 a0_24 a0_25 a0_26 a0_27 a0_28 a0_29 a0_30 a0_31 a0_32 a0_33 a0_34 a0_35 w K} (h : s_config_bounds a0_0 a0_1 a0_2 a0_3 a0_4 a0_5 a0_6 a0_7 a0_8 a0_9 a0_10 a0_11 a0_12 a0_13 a0_14 a0_15 a0_16 a0_17 a0_18 a0_19 a0_20 a0_21 a0_22 a0_23 a0_24 a0_25 a0_26 a0_27 a0_28 a0_29 a0_30 a0_31 a0_32 a0_33 a0_34 a0_35 w K) : c_config_bounds a0_0 a0_1 a0_2 a0_3 a0_4 a0_5 a0_6 a0_7 a0_8 a0_9 a0_10 a0_11 a0_12 a0_13 a0_14 a0_15 a0_16 a0_17 a0_18 a0_19 a0_20 a0_21 a0_22 a0_23 a0_24 a0_25 a0_26 a0_27 a0_28 a0_29 a0_30 a0_31 a0_32 a0_33 a0_34 a0_35 w K :=
  fn_sound pok Try.func37 (fn := Try.f37) (c := bodyOf Try.f37) (nt := 69) (by kernel_rfl) (by kernel_rfl) (rs := [.tmp 2]) (by kernel_rfl) [.one .slice] K (.seq .leaf (.seq .leaf .leaf)) [(Value.agg ⟨((Value.int .u8 a0_0) :: (Value.int .u8 a0_1) :: (Value.int .u8 a0_2) :: (Value.int .u8 a0_3) :: (Value.int .u8 a0_4) :: (Value.int .u8 a0_5) :: (Value.int .u8 a0_6) :: (Value.int .u8 a0_7) :: (Value.int .u8 a0_8) :: (Value.int .u8 a0_9) :: (Value.int .u8 a0_10) :: (Value.int .u8 a0_11) :: (Value.int .u8 a0_12) :: (Value.int .u8 a0_13) :: (Value.int .u8 a0_14) :: (Value.int .u8 a0_15) :: (Value.slice a0_16.a a0_16.len a0_16.cap) :: (Value.slice a0_17.a a0_17.len a0_17.cap) :: (Value.int .i64 a0_18) :: (Value.int .i64 a0_19) :: (Value.int .i64 a0_20) :: (Value.int .i64 a0_21) :: (Value.int .i64 a0_22) :: (Value.int .i64 a0_23) :: (Value.int .i64 a0_24) :: (Value.int .i64 a0_25) :: (Value.int .i64 a0_26) :: (Value.int .i64 a0_27) :: (Value.int .i64 a0_28) :: (Value.int .i64 a0_29) :: (Value.int .i64 a0_30) :: (Value.int .i64 a0_31) :: (Value.int .i64 a0_32) :: (Value.int .i64 a0_33) :: (Value.int .i64 a0_34) :: (Value.slice a0_35.a a0_35.len a0_35.cap) :: [])⟩)] (by kernel_rfl) w ((e_config_bounds a0_0 a0_1 a0_2 a0_3 a0_4 a0_5 a0_6 a0_7 a0_8 a0_9 a0_10 a0_11 a0_12 a0_13 a0_14 a0_15 a0_16 a0_17 a0_18 a0_19 a0_20 a0_21 a0_22 a0_23 a0_24 a0_25 a0_26 a0_27 a0_28 a0_29 a0_30 a0_31 a0_32 a0_33 a0_34 a0_35 w K).mpr h)

/-- (goosepond/config.bound).ok -/
def s_config_bound_ok (a0_0 : Int) (a0_1 : Int) (a0_2 : Int) (w : World) (K : Bool → World → Prop) : Prop :=
 (Al w (.cells ⟨[(Value.int .i64 a0_0), (Value.int .i64 a0_1), (Value.int .i64 a0_2)]⟩ 80) fun a3 w2 =>
 let J4 : Bool → Prop := fun j5 =>
 (K j5 w2)
 Ld (.int .i64) w2 (a3.add 1) fun x6 =>
 Ld (.int .i64) w2 a3 fun x7 =>
 (bif (decide (x6 ≤ x7)) then
 Ld (.int .i64) w2 a3 fun x8 =>
 Ld (.int .i64) w2 (a3.add 2) fun x9 =>
 J4 (decide (x8 ≤ x9))
 else
 J4 false))
theorem e_config_bound_ok (a0_0 : Int) (a0_1 : Int) (a0_2 : Int) (w : World) (K : Bool → World → Prop) : den Try.prog 15 (bodyOf Try.f38) none (.seq .leaf (.seq .leaf .leaf)) (argEnv 0 [(Value.agg ⟨[(Value.int .i64 a0_0), (Value.int .i64 a0_1), (Value.int .i64 a0_2)]⟩)]) [] w (retK Try.prog [.tmp 2] [.one .bool] K) = s_config_bound_ok a0_0 a0_1 a0_2 w K := by kernel_rfl
theorem ok_config_bound_ok {a0_0 a0_1 a0_2 w K} (h : s_config_bound_ok a0_0 a0_1 a0_2 w K) : c_config_bound_ok a0_0 a0_1 a0_2 w K :=
  fn_sound pok Try.func38 (fn := Try.f38) (c := bodyOf Try.f38) (nt := 15) (by kernel_rfl) (by kernel_rfl) (rs := [.tmp 2]) (by kernel_rfl) [.one .bool] K (.seq .leaf (.seq .leaf .leaf)) [(Value.agg ⟨[(Value.int .i64 a0_0), (Value.int .i64 a0_1), (Value.int .i64 a0_2)]⟩)] (by kernel_rfl) w ((e_config_bound_ok a0_0 a0_1 a0_2 w K).mpr h)

/-- goosepond/config.sizes -/
def s_config_sizes (a0 : Int) (w : World) (K : Bool → World → Prop) : Prop :=
 (let J2 : Bool → World → Prop := fun j3 w4 =>
 (K j3 w4)
 (bif (a0 == 0) then
 J2 true w
 else
 c_config_bound_ok a0 536 65535 w fun r5 w6 =>
 J2 r5 w6))
theorem e_config_sizes (a0 : Int) (w : World) (K : Bool → World → Prop) : den Try.prog 10 (bodyOf Try.f39) none (.seq .leaf (.seq .leaf .leaf)) (argEnv 0 [(Value.int .i64 a0)]) [] w (retK Try.prog [.tmp 2] [.one .bool] K) = s_config_sizes a0 w K := by kernel_rfl
theorem ok_config_sizes {a0 w K} (h : s_config_sizes a0 w K) : c_config_sizes a0 w K :=
  fn_sound pok Try.func39 (fn := Try.f39) (c := bodyOf Try.f39) (nt := 10) (by kernel_rfl) (by kernel_rfl) (rs := [.tmp 2]) (by kernel_rfl) [.one .bool] K (.seq .leaf (.seq .leaf .leaf)) [(Value.int .i64 a0)] (by kernel_rfl) w ((e_config_sizes a0 w K).mpr h)

/-- goosepond/config.parts -/
def s_config_parts (a0_0 : Int) (a0_1 : Int) (a0_2 : Int) (a0_3 : Int) (a0_4 : Int) (a0_5 : Int) (a0_6 : Int) (a0_7 : Int) (a0_8 : Int) (a0_9 : Int) (a0_10 : Int) (a0_11 : Int) (a0_12 : Int) (a0_13 : Int) (a0_14 : Int) (a0_15 : Int) (a0_16 : SliceV) (a0_17 : SliceV) (a0_18 : Int) (a0_19 : Int) (a0_20 : Int) (a0_21 : Int) (a0_22 : Int) (a0_23 : Int) (a0_24 : Int) (a0_25 : Int) (a0_26 : Int) (a0_27 : Int) (a0_28 : Int) (a0_29 : Int) (a0_30 : Int) (a0_31 : Int) (a0_32 : Int) (a0_33 : Int) (a0_34 : Int) (a0_35 : SliceV) (w : World) (K : Bool → World → Prop) : Prop :=
 (Al w (.cells ⟨((Value.int .u8 a0_0) :: (Value.int .u8 a0_1) :: (Value.int .u8 a0_2) :: (Value.int .u8 a0_3) :: (Value.int .u8 a0_4) :: (Value.int .u8 a0_5) :: (Value.int .u8 a0_6) :: (Value.int .u8 a0_7) :: (Value.int .u8 a0_8) :: (Value.int .u8 a0_9) :: (Value.int .u8 a0_10) :: (Value.int .u8 a0_11) :: (Value.int .u8 a0_12) :: (Value.int .u8 a0_13) :: (Value.int .u8 a0_14) :: (Value.int .u8 a0_15) :: (Value.slice a0_16.a a0_16.len a0_16.cap) :: (Value.slice a0_17.a a0_17.len a0_17.cap) :: (Value.int .i64 a0_18) :: (Value.int .i64 a0_19) :: (Value.int .i64 a0_20) :: (Value.int .i64 a0_21) :: (Value.int .i64 a0_22) :: (Value.int .i64 a0_23) :: (Value.int .i64 a0_24) :: (Value.int .i64 a0_25) :: (Value.int .i64 a0_26) :: (Value.int .i64 a0_27) :: (Value.int .i64 a0_28) :: (Value.int .i64 a0_29) :: (Value.int .i64 a0_30) :: (Value.int .i64 a0_31) :: (Value.int .i64 a0_32) :: (Value.int .i64 a0_33) :: (Value.int .i64 a0_34) :: (Value.slice a0_35.a a0_35.len a0_35.cap) :: [])⟩ 42) fun a3 w2 =>
 let J4 : Bool → World → Prop := fun j5 w6 =>
 ((bif j5 then
 K false w6
 else
 let J7 : Bool → World → Prop := fun j8 w9 =>
 ((bif j8 then
 K false w9
 else
 K true w9))
 Ld .slice w6 (a3.add 17) fun x10 =>
 c_slices_ContainsFunc_int_int x10 (Value.func (.func 70) #[] #[]) w6 fun r11 w12 =>
 (bif r11 then
 J7 r11 w12
 else
 Ld .slice w12 (a3.add 35) fun x13 =>
 c_slices_ContainsFunc_api_Static_api_Static x13 (Value.func (.func 71) #[] #[(Value.pointer (some a3))]) w12 fun r14 w15 =>
 J7 r14 w15)))
 Ld (.int .u8) w2 (a3.add 0) fun x16 =>
 Ld (.int .u8) w2 (a3.add 1) fun x17 =>
 Ld (.int .u8) w2 (a3.add 2) fun x18 =>
 Ld (.int .u8) w2 (a3.add 3) fun x19 =>
 Ld (.int .u8) w2 (a3.add 4) fun x20 =>
 Ld (.int .u8) w2 (a3.add 5) fun x21 =>
 Ld (.int .u8) w2 (a3.add 6) fun x22 =>
 Ld (.int .u8) w2 (a3.add 7) fun x23 =>
 Ld (.int .u8) w2 (a3.add 8) fun x24 =>
 Ld (.int .u8) w2 (a3.add 9) fun x25 =>
 Ld (.int .u8) w2 (a3.add 10) fun x26 =>
 Ld (.int .u8) w2 (a3.add 11) fun x27 =>
 Ld (.int .u8) w2 (a3.add 12) fun x28 =>
 Ld (.int .u8) w2 (a3.add 13) fun x29 =>
 Ld (.int .u8) w2 (a3.add 14) fun x30 =>
 Ld (.int .u8) w2 (a3.add 15) fun x31 =>
 c_six_Host x16 x17 x18 x19 x20 x21 x22 x23 x24 x25 x26 x27 x28 x29 x30 x31 w2 fun r32 w33 =>
 (bif (!r32) then
 J4 (!r32) w33
 else
 Ld .slice w33 (a3.add 16) fun x34 =>
 c_slices_ContainsFunc_api_Six_api_Six x34 (Value.func (.func 68) #[] #[]) w33 fun r35 w36 =>
 J4 r35 w36))
theorem e_config_parts (a0_0 : Int) (a0_1 : Int) (a0_2 : Int) (a0_3 : Int) (a0_4 : Int) (a0_5 : Int) (a0_6 : Int) (a0_7 : Int) (a0_8 : Int) (a0_9 : Int) (a0_10 : Int) (a0_11 : Int) (a0_12 : Int) (a0_13 : Int) (a0_14 : Int) (a0_15 : Int) (a0_16 : SliceV) (a0_17 : SliceV) (a0_18 : Int) (a0_19 : Int) (a0_20 : Int) (a0_21 : Int) (a0_22 : Int) (a0_23 : Int) (a0_24 : Int) (a0_25 : Int) (a0_26 : Int) (a0_27 : Int) (a0_28 : Int) (a0_29 : Int) (a0_30 : Int) (a0_31 : Int) (a0_32 : Int) (a0_33 : Int) (a0_34 : Int) (a0_35 : SliceV) (w : World) (K : Bool → World → Prop) : den Try.prog 25 (bodyOf Try.f40) none (.seq .leaf (.seq .leaf (.seq .leaf (.seq .leaf (.seq (.blk (.seq (.seq .leaf (.cond .leaf .leaf)) (.cond (.seq .leaf .leaf) (.seq (.seq .leaf (.cond .leaf .leaf)) (.cond (.seq .leaf .leaf) .leaf))))) (.seq .leaf .leaf)))))) (argEnv 0 [(Value.agg ⟨((Value.int .u8 a0_0) :: (Value.int .u8 a0_1) :: (Value.int .u8 a0_2) :: (Value.int .u8 a0_3) :: (Value.int .u8 a0_4) :: (Value.int .u8 a0_5) :: (Value.int .u8 a0_6) :: (Value.int .u8 a0_7) :: (Value.int .u8 a0_8) :: (Value.int .u8 a0_9) :: (Value.int .u8 a0_10) :: (Value.int .u8 a0_11) :: (Value.int .u8 a0_12) :: (Value.int .u8 a0_13) :: (Value.int .u8 a0_14) :: (Value.int .u8 a0_15) :: (Value.slice a0_16.a a0_16.len a0_16.cap) :: (Value.slice a0_17.a a0_17.len a0_17.cap) :: (Value.int .i64 a0_18) :: (Value.int .i64 a0_19) :: (Value.int .i64 a0_20) :: (Value.int .i64 a0_21) :: (Value.int .i64 a0_22) :: (Value.int .i64 a0_23) :: (Value.int .i64 a0_24) :: (Value.int .i64 a0_25) :: (Value.int .i64 a0_26) :: (Value.int .i64 a0_27) :: (Value.int .i64 a0_28) :: (Value.int .i64 a0_29) :: (Value.int .i64 a0_30) :: (Value.int .i64 a0_31) :: (Value.int .i64 a0_32) :: (Value.int .i64 a0_33) :: (Value.int .i64 a0_34) :: (Value.slice a0_35.a a0_35.len a0_35.cap) :: [])⟩)]) [] w (retK Try.prog [.tmp 2] [.one .bool] K) = s_config_parts a0_0 a0_1 a0_2 a0_3 a0_4 a0_5 a0_6 a0_7 a0_8 a0_9 a0_10 a0_11 a0_12 a0_13 a0_14 a0_15 a0_16 a0_17 a0_18 a0_19 a0_20 a0_21 a0_22 a0_23 a0_24 a0_25 a0_26 a0_27 a0_28 a0_29 a0_30 a0_31 a0_32 a0_33 a0_34 a0_35 w K := by kernel_rfl
theorem ok_config_parts {a0_0 a0_1 a0_2 a0_3 a0_4 a0_5 a0_6 a0_7 a0_8 a0_9 a0_10 a0_11 a0_12 a0_13 a0_14 a0_15 a0_16 a0_17 a0_18 a0_19 a0_20 a0_21 a0_22 a0_23 a0_24 a0_25 a0_26 a0_27 a0_28 a0_29 a0_30 a0_31 a0_32 a0_33 a0_34 a0_35 w K} (h : s_config_parts a0_0 a0_1 a0_2 a0_3 a0_4 a0_5 a0_6 a0_7 a0_8 a0_9 a0_10 a0_11 a0_12 a0_13 a0_14 a0_15 a0_16 a0_17 a0_18 a0_19 a0_20 a0_21 a0_22 a0_23 a0_24 a0_25 a0_26 a0_27 a0_28 a0_29 a0_30 a0_31 a0_32 a0_33 a0_34 a0_35 w K) : c_config_parts a0_0 a0_1 a0_2 a0_3 a0_4 a0_5 a0_6 a0_7 a0_8 a0_9 a0_10 a0_11 a0_12 a0_13 a0_14 a0_15 a0_16 a0_17 a0_18 a0_19 a0_20 a0_21 a0_22 a0_23 a0_24 a0_25 a0_26 a0_27 a0_28 a0_29 a0_30 a0_31 a0_32 a0_33 a0_34 a0_35 w K :=
  fn_sound pok Try.func40 (fn := Try.f40) (c := bodyOf Try.f40) (nt := 25) (by kernel_rfl) (by kernel_rfl) (rs := [.tmp 2]) (by kernel_rfl) [.one .bool] K (.seq .leaf (.seq .leaf (.seq .leaf (.seq .leaf (.seq (.blk (.seq (.seq .leaf (.cond .leaf .leaf)) (.cond (.seq .leaf .leaf) (.seq (.seq .leaf (.cond .leaf .leaf)) (.cond (.seq .leaf .leaf) .leaf))))) (.seq .leaf .leaf)))))) [(Value.agg ⟨((Value.int .u8 a0_0) :: (Value.int .u8 a0_1) :: (Value.int .u8 a0_2) :: (Value.int .u8 a0_3) :: (Value.int .u8 a0_4) :: (Value.int .u8 a0_5) :: (Value.int .u8 a0_6) :: (Value.int .u8 a0_7) :: (Value.int .u8 a0_8) :: (Value.int .u8 a0_9) :: (Value.int .u8 a0_10) :: (Value.int .u8 a0_11) :: (Value.int .u8 a0_12) :: (Value.int .u8 a0_13) :: (Value.int .u8 a0_14) :: (Value.int .u8 a0_15) :: (Value.slice a0_16.a a0_16.len a0_16.cap) :: (Value.slice a0_17.a a0_17.len a0_17.cap) :: (Value.int .i64 a0_18) :: (Value.int .i64 a0_19) :: (Value.int .i64 a0_20) :: (Value.int .i64 a0_21) :: (Value.int .i64 a0_22) :: (Value.int .i64 a0_23) :: (Value.int .i64 a0_24) :: (Value.int .i64 a0_25) :: (Value.int .i64 a0_26) :: (Value.int .i64 a0_27) :: (Value.int .i64 a0_28) :: (Value.int .i64 a0_29) :: (Value.int .i64 a0_30) :: (Value.int .i64 a0_31) :: (Value.int .i64 a0_32) :: (Value.int .i64 a0_33) :: (Value.int .i64 a0_34) :: (Value.slice a0_35.a a0_35.len a0_35.cap) :: [])⟩)] (by kernel_rfl) w ((e_config_parts a0_0 a0_1 a0_2 a0_3 a0_4 a0_5 a0_6 a0_7 a0_8 a0_9 a0_10 a0_11 a0_12 a0_13 a0_14 a0_15 a0_16 a0_17 a0_18 a0_19 a0_20 a0_21 a0_22 a0_23 a0_24 a0_25 a0_26 a0_27 a0_28 a0_29 a0_30 a0_31 a0_32 a0_33 a0_34 a0_35 w K).mpr h)

/-- goosepond/config.doubled -/
def s_config_doubled (a0_0 : Int) (a0_1 : Int) (a0_2 : Int) (a0_3 : Int) (a0_4 : Int) (a0_5 : Int) (a0_6 : Int) (a0_7 : Int) (a0_8 : Int) (a0_9 : Int) (a0_10 : Int) (a0_11 : Int) (a0_12 : Int) (a0_13 : Int) (a0_14 : Int) (a0_15 : Int) (a0_16 : SliceV) (a0_17 : SliceV) (a0_18 : Int) (a0_19 : Int) (a0_20 : Int) (a0_21 : Int) (a0_22 : Int) (a0_23 : Int) (a0_24 : Int) (a0_25 : Int) (a0_26 : Int) (a0_27 : Int) (a0_28 : Int) (a0_29 : Int) (a0_30 : Int) (a0_31 : Int) (a0_32 : Int) (a0_33 : Int) (a0_34 : Int) (a0_35 : SliceV) (w : World) (K : Bool → World → Prop) : Prop :=
 (Al w (.cells ⟨((Value.int .u8 a0_0) :: (Value.int .u8 a0_1) :: (Value.int .u8 a0_2) :: (Value.int .u8 a0_3) :: (Value.int .u8 a0_4) :: (Value.int .u8 a0_5) :: (Value.int .u8 a0_6) :: (Value.int .u8 a0_7) :: (Value.int .u8 a0_8) :: (Value.int .u8 a0_9) :: (Value.int .u8 a0_10) :: (Value.int .u8 a0_11) :: (Value.int .u8 a0_12) :: (Value.int .u8 a0_13) :: (Value.int .u8 a0_14) :: (Value.int .u8 a0_15) :: (Value.slice a0_16.a a0_16.len a0_16.cap) :: (Value.slice a0_17.a a0_17.len a0_17.cap) :: (Value.int .i64 a0_18) :: (Value.int .i64 a0_19) :: (Value.int .i64 a0_20) :: (Value.int .i64 a0_21) :: (Value.int .i64 a0_22) :: (Value.int .i64 a0_23) :: (Value.int .i64 a0_24) :: (Value.int .i64 a0_25) :: (Value.int .i64 a0_26) :: (Value.int .i64 a0_27) :: (Value.int .i64 a0_28) :: (Value.int .i64 a0_29) :: (Value.int .i64 a0_30) :: (Value.int .i64 a0_31) :: (Value.int .i64 a0_32) :: (Value.int .i64 a0_33) :: (Value.int .i64 a0_34) :: (Value.slice a0_35.a a0_35.len a0_35.cap) :: [])⟩ 42) fun a3 w2 =>
 let J4 : SliceV → World → Prop := fun j5 w6 =>
 (let J7 : Bool → World → Prop := fun j8 w9 =>
 ((bif j8 then
 K true w9
 else
 Ld .slice w9 (a3.add 16) fun x10 =>
 MkSl 3 1 8 [(Value.int .i64 0)] (x10.len : Int) (x10.len : Int) w9 fun s11 w12 =>
 Ld .slice w12 (a3.add 35) fun x13 =>
 LoopP (S := Int × Unit) (fun s14 w15 next16 =>
 (bif (decide (s14.1 < (x13.len : Int))) then
 AtIx x13 7 s14.1 fun a17 =>
 Ld (.int .i64) w15 (a17.add 0) fun x18 =>
 Ld (.int .i64) w15 (a17.add 1) fun x19 =>
 Ld (.int .i64) w15 (a17.add 2) fun x20 =>
 Ld (.int .i64) w15 (a17.add 3) fun x21 =>
 Ld (.int .i64) w15 (a17.add 4) fun x22 =>
 Ld (.int .i64) w15 (a17.add 5) fun x23 =>
 Ld (.int .i64) w15 (a17.add 6) fun x24 =>
 Al w15 (.cells ⟨[(Value.int .i64 0), (Value.int .i64 0), (Value.int .i64 0), (Value.int .i64 0), (Value.int .i64 0), (Value.int .i64 0), (Value.int .i64 0)]⟩ 112) fun a26 w25 =>
 StN [(Value.int .i64 x18), (Value.int .i64 x19), (Value.int .i64 x20), (Value.int .i64 x21), (Value.int .i64 x22), (Value.int .i64 x23), (Value.int .i64 x24)] w25 a26 0 fun w27 =>
 Ld (.int .i64) w27 a26 fun x28 =>
 AtIx s11 1 x28 fun a29 =>
 Ld (.int .i64) w27 a29 fun x30 =>
 AtIx s11 1 x28 fun a31 =>
 St w27 a31 (Value.int .i64 (IntKind.i64.wrap (x30 + 1))) fun w32 =>
 next16 ((IntKind.i64.wrap (s14.1 + 1)), ()) w32
 else
 c_slices_ContainsFunc_int_int s11 (Value.func (.func 89) #[] #[(Value.pointer (some a3))]) w15 fun r33 w34 =>
 K r33 w34)) (0, ()) w12))
 c_config_each_api_Six_api_Six j5 (Value.func (.func 81) #[] #[]) w6 fun r35 w36 =>
 c_config_twice_api_Six r35 w36 fun r37 w38 =>
 (bif r37 then
 J7 true w38
 else
 Ld .slice w38 (a3.add 17) fun x39 =>
 c_config_each_int_int x39 (Value.func (.func 84) #[] #[]) w38 fun r40 w41 =>
 c_config_twice_int r40 w41 fun r42 w43 =>
 (bif r42 then
 J7 true w43
 else
 Ld .slice w43 (a3.add 35) fun x44 =>
 c_config_each_api_Static_api_Inner x44 (Value.func (.func 77) #[] #[]) w43 fun r45 w46 =>
 c_config_twice_api_Inner r45 w46 fun r47 w48 =>
 (bif r47 then
 J7 true w48
 else
 Ld .slice w48 (a3.add 35) fun x49 =>
 c_config_each_api_Static_api_Outer x49 (Value.func (.func 78) #[] #[]) w48 fun r50 w51 =>
 c_config_twice_api_Outer r50 w51 fun r52 w53 =>
 J7 r52 w53))))
 Ld .slice w2.drew (a3.add 16) fun x54 =>
 Ld (.int .u8) w2.drew (a3.add 0) fun x55 =>
 Ld (.int .u8) w2.drew (a3.add 1) fun x56 =>
 Ld (.int .u8) w2.drew (a3.add 2) fun x57 =>
 Ld (.int .u8) w2.drew (a3.add 3) fun x58 =>
 Ld (.int .u8) w2.drew (a3.add 4) fun x59 =>
 Ld (.int .u8) w2.drew (a3.add 5) fun x60 =>
 Ld (.int .u8) w2.drew (a3.add 6) fun x61 =>
 Ld (.int .u8) w2.drew (a3.add 7) fun x62 =>
 Ld (.int .u8) w2.drew (a3.add 8) fun x63 =>
 Ld (.int .u8) w2.drew (a3.add 9) fun x64 =>
 Ld (.int .u8) w2.drew (a3.add 10) fun x65 =>
 Ld (.int .u8) w2.drew (a3.add 11) fun x66 =>
 Ld (.int .u8) w2.drew (a3.add 12) fun x67 =>
 Ld (.int .u8) w2.drew (a3.add 13) fun x68 =>
 Ld (.int .u8) w2.drew (a3.add 14) fun x69 =>
 Ld (.int .u8) w2.drew (a3.add 15) fun x70 =>
 (c_slices_Clone_api_Six_api_Six x54 w2.drew fun r71 w72 =>
 w72.cell? (a3.add 0) = some (Value.int .u8 x55) ∧
 w72.cell? (a3.add 1) = some (Value.int .u8 x56) ∧
 w72.cell? (a3.add 2) = some (Value.int .u8 x57) ∧
 w72.cell? (a3.add 3) = some (Value.int .u8 x58) ∧
 w72.cell? (a3.add 4) = some (Value.int .u8 x59) ∧
 w72.cell? (a3.add 5) = some (Value.int .u8 x60) ∧
 w72.cell? (a3.add 6) = some (Value.int .u8 x61) ∧
 w72.cell? (a3.add 7) = some (Value.int .u8 x62) ∧
 w72.cell? (a3.add 8) = some (Value.int .u8 x63) ∧
 w72.cell? (a3.add 9) = some (Value.int .u8 x64) ∧
 w72.cell? (a3.add 10) = some (Value.int .u8 x65) ∧
 w72.cell? (a3.add 11) = some (Value.int .u8 x66) ∧
 w72.cell? (a3.add 12) = some (Value.int .u8 x67) ∧
 w72.cell? (a3.add 13) = some (Value.int .u8 x68) ∧
 w72.cell? (a3.add 14) = some (Value.int .u8 x69) ∧
 w72.cell? (a3.add 15) = some (Value.int .u8 x70) ∧
 Al w72 (.cells ⟨[(Value.int .u8 x55), (Value.int .u8 x56), (Value.int .u8 x57), (Value.int .u8 x58), (Value.int .u8 x59), (Value.int .u8 x60), (Value.int .u8 x61), (Value.int .u8 x62), (Value.int .u8 x63), (Value.int .u8 x64), (Value.int .u8 x65), (Value.int .u8 x66), (Value.int .u8 x67), (Value.int .u8 x68), (Value.int .u8 x69), (Value.int .u8 x70)]⟩ 38) fun a74 w73 =>
 w73.cell? (a3.add 16) = some (Value.slice x54.a x54.len x54.cap) ∧
 AppSl 38 16 16 [(Value.int .u8 0), (Value.int .u8 0), (Value.int .u8 0), (Value.int .u8 0), (Value.int .u8 0), (Value.int .u8 0), (Value.int .u8 0), (Value.int .u8 0), (Value.int .u8 0), (Value.int .u8 0), (Value.int .u8 0), (Value.int .u8 0), (Value.int .u8 0), (Value.int .u8 0), (Value.int .u8 0), (Value.int .u8 0)] r71 ⟨(some a74), 1, 1⟩ w73 fun s75 w76 =>
 J4 s75 w76) ∧
 (Al w2.drew (.cells ⟨[(Value.int .u8 x55), (Value.int .u8 x56), (Value.int .u8 x57), (Value.int .u8 x58), (Value.int .u8 x59), (Value.int .u8 x60), (Value.int .u8 x61), (Value.int .u8 x62), (Value.int .u8 x63), (Value.int .u8 x64), (Value.int .u8 x65), (Value.int .u8 x66), (Value.int .u8 x67), (Value.int .u8 x68), (Value.int .u8 x69), (Value.int .u8 x70)]⟩ 38) fun a78 w77 =>
 w77.cell? (a3.add 16) = some (Value.slice x54.a x54.len x54.cap) ∧
 c_slices_Clone_api_Six_api_Six x54 w77 fun r79 w80 =>
 w80.cell? (a3.add 0) = some (Value.int .u8 x55) ∧
 w80.cell? (a3.add 1) = some (Value.int .u8 x56) ∧
 w80.cell? (a3.add 2) = some (Value.int .u8 x57) ∧
 w80.cell? (a3.add 3) = some (Value.int .u8 x58) ∧
 w80.cell? (a3.add 4) = some (Value.int .u8 x59) ∧
 w80.cell? (a3.add 5) = some (Value.int .u8 x60) ∧
 w80.cell? (a3.add 6) = some (Value.int .u8 x61) ∧
 w80.cell? (a3.add 7) = some (Value.int .u8 x62) ∧
 w80.cell? (a3.add 8) = some (Value.int .u8 x63) ∧
 w80.cell? (a3.add 9) = some (Value.int .u8 x64) ∧
 w80.cell? (a3.add 10) = some (Value.int .u8 x65) ∧
 w80.cell? (a3.add 11) = some (Value.int .u8 x66) ∧
 w80.cell? (a3.add 12) = some (Value.int .u8 x67) ∧
 w80.cell? (a3.add 13) = some (Value.int .u8 x68) ∧
 w80.cell? (a3.add 14) = some (Value.int .u8 x69) ∧
 w80.cell? (a3.add 15) = some (Value.int .u8 x70) ∧
 AppSl 38 16 16 [(Value.int .u8 0), (Value.int .u8 0), (Value.int .u8 0), (Value.int .u8 0), (Value.int .u8 0), (Value.int .u8 0), (Value.int .u8 0), (Value.int .u8 0), (Value.int .u8 0), (Value.int .u8 0), (Value.int .u8 0), (Value.int .u8 0), (Value.int .u8 0), (Value.int .u8 0), (Value.int .u8 0), (Value.int .u8 0)] r79 ⟨(some a78), 1, 1⟩ w80 fun s81 w82 =>
 J4 s81 w82))
theorem e_config_doubled (a0_0 : Int) (a0_1 : Int) (a0_2 : Int) (a0_3 : Int) (a0_4 : Int) (a0_5 : Int) (a0_6 : Int) (a0_7 : Int) (a0_8 : Int) (a0_9 : Int) (a0_10 : Int) (a0_11 : Int) (a0_12 : Int) (a0_13 : Int) (a0_14 : Int) (a0_15 : Int) (a0_16 : SliceV) (a0_17 : SliceV) (a0_18 : Int) (a0_19 : Int) (a0_20 : Int) (a0_21 : Int) (a0_22 : Int) (a0_23 : Int) (a0_24 : Int) (a0_25 : Int) (a0_26 : Int) (a0_27 : Int) (a0_28 : Int) (a0_29 : Int) (a0_30 : Int) (a0_31 : Int) (a0_32 : Int) (a0_33 : Int) (a0_34 : Int) (a0_35 : SliceV) (w : World) (K : Bool → World → Prop) : den Try.prog 62 (bodyOf Try.f41) none (.seq .leaf (.seq .leaf (.seq .leaf (.seq .leaf (.seq (.seq .leaf (.cond (.seq .leaf .leaf) .leaf)) (.seq .leaf (.seq (.seq .leaf (.blk (.loop [(46, (.int .i64))] (.seq .leaf (.seq (.cond .leaf .leaf) (.seq (.blk (.seq .leaf .leaf)) .leaf)))))) (.seq .leaf .leaf)))))))) (argEnv 0 [(Value.agg ⟨((Value.int .u8 a0_0) :: (Value.int .u8 a0_1) :: (Value.int .u8 a0_2) :: (Value.int .u8 a0_3) :: (Value.int .u8 a0_4) :: (Value.int .u8 a0_5) :: (Value.int .u8 a0_6) :: (Value.int .u8 a0_7) :: (Value.int .u8 a0_8) :: (Value.int .u8 a0_9) :: (Value.int .u8 a0_10) :: (Value.int .u8 a0_11) :: (Value.int .u8 a0_12) :: (Value.int .u8 a0_13) :: (Value.int .u8 a0_14) :: (Value.int .u8 a0_15) :: (Value.slice a0_16.a a0_16.len a0_16.cap) :: (Value.slice a0_17.a a0_17.len a0_17.cap) :: (Value.int .i64 a0_18) :: (Value.int .i64 a0_19) :: (Value.int .i64 a0_20) :: (Value.int .i64 a0_21) :: (Value.int .i64 a0_22) :: (Value.int .i64 a0_23) :: (Value.int .i64 a0_24) :: (Value.int .i64 a0_25) :: (Value.int .i64 a0_26) :: (Value.int .i64 a0_27) :: (Value.int .i64 a0_28) :: (Value.int .i64 a0_29) :: (Value.int .i64 a0_30) :: (Value.int .i64 a0_31) :: (Value.int .i64 a0_32) :: (Value.int .i64 a0_33) :: (Value.int .i64 a0_34) :: (Value.slice a0_35.a a0_35.len a0_35.cap) :: [])⟩)]) [] w (retK Try.prog [.tmp 2] [.one .bool] K) = s_config_doubled a0_0 a0_1 a0_2 a0_3 a0_4 a0_5 a0_6 a0_7 a0_8 a0_9 a0_10 a0_11 a0_12 a0_13 a0_14 a0_15 a0_16 a0_17 a0_18 a0_19 a0_20 a0_21 a0_22 a0_23 a0_24 a0_25 a0_26 a0_27 a0_28 a0_29 a0_30 a0_31 a0_32 a0_33 a0_34 a0_35 w K := by kernel_rfl
theorem ok_config_doubled {a0_0 a0_1 a0_2 a0_3 a0_4 a0_5 a0_6 a0_7 a0_8 a0_9 a0_10 a0_11 a0_12 a0_13 a0_14 a0_15 a0_16 a0_17 a0_18 a0_19 a0_20 a0_21 a0_22 a0_23 a0_24 a0_25 a0_26 a0_27 a0_28 a0_29 a0_30 a0_31 a0_32 a0_33 a0_34 a0_35 w K} (h : s_config_doubled a0_0 a0_1 a0_2 a0_3 a0_4 a0_5 a0_6 a0_7 a0_8 a0_9 a0_10 a0_11 a0_12 a0_13 a0_14 a0_15 a0_16 a0_17 a0_18 a0_19 a0_20 a0_21 a0_22 a0_23 a0_24 a0_25 a0_26 a0_27 a0_28 a0_29 a0_30 a0_31 a0_32 a0_33 a0_34 a0_35 w K) : c_config_doubled a0_0 a0_1 a0_2 a0_3 a0_4 a0_5 a0_6 a0_7 a0_8 a0_9 a0_10 a0_11 a0_12 a0_13 a0_14 a0_15 a0_16 a0_17 a0_18 a0_19 a0_20 a0_21 a0_22 a0_23 a0_24 a0_25 a0_26 a0_27 a0_28 a0_29 a0_30 a0_31 a0_32 a0_33 a0_34 a0_35 w K :=
  fn_sound pok Try.func41 (fn := Try.f41) (c := bodyOf Try.f41) (nt := 62) (by kernel_rfl) (by kernel_rfl) (rs := [.tmp 2]) (by kernel_rfl) [.one .bool] K (.seq .leaf (.seq .leaf (.seq .leaf (.seq .leaf (.seq (.seq .leaf (.cond (.seq .leaf .leaf) .leaf)) (.seq .leaf (.seq (.seq .leaf (.blk (.loop [(46, (.int .i64))] (.seq .leaf (.seq (.cond .leaf .leaf) (.seq (.blk (.seq .leaf .leaf)) .leaf)))))) (.seq .leaf .leaf)))))))) [(Value.agg ⟨((Value.int .u8 a0_0) :: (Value.int .u8 a0_1) :: (Value.int .u8 a0_2) :: (Value.int .u8 a0_3) :: (Value.int .u8 a0_4) :: (Value.int .u8 a0_5) :: (Value.int .u8 a0_6) :: (Value.int .u8 a0_7) :: (Value.int .u8 a0_8) :: (Value.int .u8 a0_9) :: (Value.int .u8 a0_10) :: (Value.int .u8 a0_11) :: (Value.int .u8 a0_12) :: (Value.int .u8 a0_13) :: (Value.int .u8 a0_14) :: (Value.int .u8 a0_15) :: (Value.slice a0_16.a a0_16.len a0_16.cap) :: (Value.slice a0_17.a a0_17.len a0_17.cap) :: (Value.int .i64 a0_18) :: (Value.int .i64 a0_19) :: (Value.int .i64 a0_20) :: (Value.int .i64 a0_21) :: (Value.int .i64 a0_22) :: (Value.int .i64 a0_23) :: (Value.int .i64 a0_24) :: (Value.int .i64 a0_25) :: (Value.int .i64 a0_26) :: (Value.int .i64 a0_27) :: (Value.int .i64 a0_28) :: (Value.int .i64 a0_29) :: (Value.int .i64 a0_30) :: (Value.int .i64 a0_31) :: (Value.int .i64 a0_32) :: (Value.int .i64 a0_33) :: (Value.int .i64 a0_34) :: (Value.slice a0_35.a a0_35.len a0_35.cap) :: [])⟩)] (by kernel_rfl) w ((e_config_doubled a0_0 a0_1 a0_2 a0_3 a0_4 a0_5 a0_6 a0_7 a0_8 a0_9 a0_10 a0_11 a0_12 a0_13 a0_14 a0_15 a0_16 a0_17 a0_18 a0_19 a0_20 a0_21 a0_22 a0_23 a0_24 a0_25 a0_26 a0_27 a0_28 a0_29 a0_30 a0_31 a0_32 a0_33 a0_34 a0_35 w K).mpr h)

/-- goosepond/goosepondref20.numbers -/
def s_ref20_numbers (a0_0 : Int) (a0_1 : Int) (a0_2 : Int) (a0_3 : Int) (a0_4 : Int) (a0_5 : Int) (a0_6 : Int) (a0_7 : Int) (a0_8 : Int) (a0_9 : Int) (a0_10 : Int) (a0_11 : Int) (a0_12 : Int) (a0_13 : Int) (a0_14 : Int) (a0_15 : Int) (a0_16 : SliceV) (a0_17 : SliceV) (a0_18 : Int) (a0_19 : Int) (a0_20 : Int) (a0_21 : Int) (a0_22 : Int) (a0_23 : Int) (a0_24 : Int) (a0_25 : Int) (a0_26 : Int) (a0_27 : Int) (a0_28 : Int) (a0_29 : Int) (a0_30 : Int) (a0_31 : Int) (a0_32 : Int) (a0_33 : Int) (a0_34 : Int) (a0_35 : SliceV) (w : World) (K : Bool → World → Prop) : Prop :=
 (Al w (.cells ⟨((Value.int .u8 a0_0) :: (Value.int .u8 a0_1) :: (Value.int .u8 a0_2) :: (Value.int .u8 a0_3) :: (Value.int .u8 a0_4) :: (Value.int .u8 a0_5) :: (Value.int .u8 a0_6) :: (Value.int .u8 a0_7) :: (Value.int .u8 a0_8) :: (Value.int .u8 a0_9) :: (Value.int .u8 a0_10) :: (Value.int .u8 a0_11) :: (Value.int .u8 a0_12) :: (Value.int .u8 a0_13) :: (Value.int .u8 a0_14) :: (Value.int .u8 a0_15) :: (Value.slice a0_16.a a0_16.len a0_16.cap) :: (Value.slice a0_17.a a0_17.len a0_17.cap) :: (Value.int .i64 a0_18) :: (Value.int .i64 a0_19) :: (Value.int .i64 a0_20) :: (Value.int .i64 a0_21) :: (Value.int .i64 a0_22) :: (Value.int .i64 a0_23) :: (Value.int .i64 a0_24) :: (Value.int .i64 a0_25) :: (Value.int .i64 a0_26) :: (Value.int .i64 a0_27) :: (Value.int .i64 a0_28) :: (Value.int .i64 a0_29) :: (Value.int .i64 a0_30) :: (Value.int .i64 a0_31) :: (Value.int .i64 a0_32) :: (Value.int .i64 a0_33) :: (Value.int .i64 a0_34) :: (Value.slice a0_35.a a0_35.len a0_35.cap) :: [])⟩ 42) fun a3 w2 =>
 let J4 : Bool → World → Prop := fun j5 w6 =>
 (let J7 : Bool → World → Prop := fun j8 w9 =>
 (let J10 : Bool → World → Prop := fun j11 w12 =>
 (let J13 : Bool → World → Prop := fun j14 w15 =>
 (K j14 w15)
 (bif j5 then
 (bif j8 then
 (bif j11 then
 Ld (.int .i64) w12 (a3.add 18) fun x16 =>
 c_ref20_in x16 1 65535 w12 fun r17 w18 =>
 (bif r17 then
 Ld (.int .i64) w18 (a3.add 19) fun x19 =>
 Ld (.int .i64) w18 (a3.add 18) fun x20 =>
 c_ref20_in x19 x20 65535 w18 fun r21 w22 =>
 J13 r21 w22
 else
 J13 false w18)
 else
 J13 false w12)
 else
 J13 false w12)
 else
 J13 false w12))
 Ld (.int .i64) w9 (a3.add 30) fun x23 =>
 c_ref20_in x23 120 1048576 w9 fun r24 w25 =>
 (bif r24 then
 Ld (.int .i64) w25 (a3.add 31) fun x26 =>
 c_ref20_in x26 7440 1048576 w25 fun r27 w28 =>
 (bif r27 then
 Ld (.int .i64) w28 (a3.add 32) fun x29 =>
 c_ref20_in x29 240 1048576 w28 fun r30 w31 =>
 (bif r30 then
 Ld (.int .i64) w31 (a3.add 33) fun x32 =>
 c_ref20_in x32 60 1048576 w31 fun r33 w34 =>
 (bif r33 then
 Ld (.int .i64) w34 (a3.add 34) fun x35 =>
 c_ref20_in x35 1 1048576 w34 fun r36 w37 =>
 J10 r36 w37
 else
 J10 false w34)
 else
 J10 false w31)
 else
 J10 false w28)
 else
 J10 false w25))
 Ld (.int .i64) w6 (a3.add 25) fun x38 =>
 c_ref20_in x38 1280 65535 w6 fun r39 w40 =>
 (bif r39 then
 Ld (.int .i64) w40 (a3.add 26) fun x41 =>
 c_ref20_in x41 1280 65535 w40 fun r42 w43 =>
 (bif r42 then
 Ld (.int .i64) w43 (a3.add 27) fun x44 =>
 c_ref20_in x44 1 255 w43 fun r45 w46 =>
 (bif r45 then
 Ld (.int .i64) w46 (a3.add 28) fun x47 =>
 (bif (x47 == 0) then
 Ld (.int .i64) w46 (a3.add 29) fun x48 =>
 c_ref20_in x48 0 2 w46 fun r49 w50 =>
 J7 r49 w50
 else
 Ld (.int .i64) w46 (a3.add 28) fun x51 =>
 c_ref20_in x51 536 65535 w46 fun r52 w53 =>
 (bif r52 then
 Ld (.int .i64) w53 (a3.add 29) fun x54 =>
 c_ref20_in x54 0 2 w53 fun r55 w56 =>
 J7 r55 w56
 else
 J7 false w53))
 else
 J7 false w46)
 else
 J7 false w43)
 else
 J7 false w40))
 Ld (.int .i64) w2 (a3.add 20) fun x57 =>
 c_ref20_in x57 1 4096 w2 fun r58 w59 =>
 (bif r58 then
 Ld (.int .i64) w59 (a3.add 21) fun x60 =>
 c_ref20_in x60 1 4096 w59 fun r61 w62 =>
 (bif r61 then
 Ld (.int .i64) w62 (a3.add 22) fun x63 =>
 c_ref20_in x63 1 4096 w62 fun r64 w65 =>
 (bif r64 then
 Ld (.int .i64) w65 (a3.add 23) fun x66 =>
 c_ref20_in x66 0 4096 w65 fun r67 w68 =>
 (bif r67 then
 Ld (.int .i64) w68 (a3.add 24) fun x69 =>
 c_ref20_in x69 0 67108864 w68 fun r70 w71 =>
 J4 r70 w71
 else
 J4 false w68)
 else
 J4 false w65)
 else
 J4 false w62)
 else
 J4 false w59))
theorem e_ref20_numbers (a0_0 : Int) (a0_1 : Int) (a0_2 : Int) (a0_3 : Int) (a0_4 : Int) (a0_5 : Int) (a0_6 : Int) (a0_7 : Int) (a0_8 : Int) (a0_9 : Int) (a0_10 : Int) (a0_11 : Int) (a0_12 : Int) (a0_13 : Int) (a0_14 : Int) (a0_15 : Int) (a0_16 : SliceV) (a0_17 : SliceV) (a0_18 : Int) (a0_19 : Int) (a0_20 : Int) (a0_21 : Int) (a0_22 : Int) (a0_23 : Int) (a0_24 : Int) (a0_25 : Int) (a0_26 : Int) (a0_27 : Int) (a0_28 : Int) (a0_29 : Int) (a0_30 : Int) (a0_31 : Int) (a0_32 : Int) (a0_33 : Int) (a0_34 : Int) (a0_35 : SliceV) (w : World) (K : Bool → World → Prop) : den Try.prog 99 (bodyOf Try.f42) none (.seq .leaf (.seq .leaf (.seq .leaf (.seq .leaf (.seq .leaf .leaf))))) (argEnv 0 [(Value.agg ⟨((Value.int .u8 a0_0) :: (Value.int .u8 a0_1) :: (Value.int .u8 a0_2) :: (Value.int .u8 a0_3) :: (Value.int .u8 a0_4) :: (Value.int .u8 a0_5) :: (Value.int .u8 a0_6) :: (Value.int .u8 a0_7) :: (Value.int .u8 a0_8) :: (Value.int .u8 a0_9) :: (Value.int .u8 a0_10) :: (Value.int .u8 a0_11) :: (Value.int .u8 a0_12) :: (Value.int .u8 a0_13) :: (Value.int .u8 a0_14) :: (Value.int .u8 a0_15) :: (Value.slice a0_16.a a0_16.len a0_16.cap) :: (Value.slice a0_17.a a0_17.len a0_17.cap) :: (Value.int .i64 a0_18) :: (Value.int .i64 a0_19) :: (Value.int .i64 a0_20) :: (Value.int .i64 a0_21) :: (Value.int .i64 a0_22) :: (Value.int .i64 a0_23) :: (Value.int .i64 a0_24) :: (Value.int .i64 a0_25) :: (Value.int .i64 a0_26) :: (Value.int .i64 a0_27) :: (Value.int .i64 a0_28) :: (Value.int .i64 a0_29) :: (Value.int .i64 a0_30) :: (Value.int .i64 a0_31) :: (Value.int .i64 a0_32) :: (Value.int .i64 a0_33) :: (Value.int .i64 a0_34) :: (Value.slice a0_35.a a0_35.len a0_35.cap) :: [])⟩)]) [] w (retK Try.prog [.tmp 2] [.one .bool] K) = s_ref20_numbers a0_0 a0_1 a0_2 a0_3 a0_4 a0_5 a0_6 a0_7 a0_8 a0_9 a0_10 a0_11 a0_12 a0_13 a0_14 a0_15 a0_16 a0_17 a0_18 a0_19 a0_20 a0_21 a0_22 a0_23 a0_24 a0_25 a0_26 a0_27 a0_28 a0_29 a0_30 a0_31 a0_32 a0_33 a0_34 a0_35 w K := by kernel_rfl
theorem ok_ref20_numbers {a0_0 a0_1 a0_2 a0_3 a0_4 a0_5 a0_6 a0_7 a0_8 a0_9 a0_10 a0_11 a0_12 a0_13 a0_14 a0_15 a0_16 a0_17 a0_18 a0_19 a0_20 a0_21 a0_22 a0_23 a0_24 a0_25 a0_26 a0_27 a0_28 a0_29 a0_30 a0_31 a0_32 a0_33 a0_34 a0_35 w K} (h : s_ref20_numbers a0_0 a0_1 a0_2 a0_3 a0_4 a0_5 a0_6 a0_7 a0_8 a0_9 a0_10 a0_11 a0_12 a0_13 a0_14 a0_15 a0_16 a0_17 a0_18 a0_19 a0_20 a0_21 a0_22 a0_23 a0_24 a0_25 a0_26 a0_27 a0_28 a0_29 a0_30 a0_31 a0_32 a0_33 a0_34 a0_35 w K) : c_ref20_numbers a0_0 a0_1 a0_2 a0_3 a0_4 a0_5 a0_6 a0_7 a0_8 a0_9 a0_10 a0_11 a0_12 a0_13 a0_14 a0_15 a0_16 a0_17 a0_18 a0_19 a0_20 a0_21 a0_22 a0_23 a0_24 a0_25 a0_26 a0_27 a0_28 a0_29 a0_30 a0_31 a0_32 a0_33 a0_34 a0_35 w K :=
  fn_sound pok Try.func42 (fn := Try.f42) (c := bodyOf Try.f42) (nt := 99) (by kernel_rfl) (by kernel_rfl) (rs := [.tmp 2]) (by kernel_rfl) [.one .bool] K (.seq .leaf (.seq .leaf (.seq .leaf (.seq .leaf (.seq .leaf .leaf))))) [(Value.agg ⟨((Value.int .u8 a0_0) :: (Value.int .u8 a0_1) :: (Value.int .u8 a0_2) :: (Value.int .u8 a0_3) :: (Value.int .u8 a0_4) :: (Value.int .u8 a0_5) :: (Value.int .u8 a0_6) :: (Value.int .u8 a0_7) :: (Value.int .u8 a0_8) :: (Value.int .u8 a0_9) :: (Value.int .u8 a0_10) :: (Value.int .u8 a0_11) :: (Value.int .u8 a0_12) :: (Value.int .u8 a0_13) :: (Value.int .u8 a0_14) :: (Value.int .u8 a0_15) :: (Value.slice a0_16.a a0_16.len a0_16.cap) :: (Value.slice a0_17.a a0_17.len a0_17.cap) :: (Value.int .i64 a0_18) :: (Value.int .i64 a0_19) :: (Value.int .i64 a0_20) :: (Value.int .i64 a0_21) :: (Value.int .i64 a0_22) :: (Value.int .i64 a0_23) :: (Value.int .i64 a0_24) :: (Value.int .i64 a0_25) :: (Value.int .i64 a0_26) :: (Value.int .i64 a0_27) :: (Value.int .i64 a0_28) :: (Value.int .i64 a0_29) :: (Value.int .i64 a0_30) :: (Value.int .i64 a0_31) :: (Value.int .i64 a0_32) :: (Value.int .i64 a0_33) :: (Value.int .i64 a0_34) :: (Value.slice a0_35.a a0_35.len a0_35.cap) :: [])⟩)] (by kernel_rfl) w ((e_ref20_numbers a0_0 a0_1 a0_2 a0_3 a0_4 a0_5 a0_6 a0_7 a0_8 a0_9 a0_10 a0_11 a0_12 a0_13 a0_14 a0_15 a0_16 a0_17 a0_18 a0_19 a0_20 a0_21 a0_22 a0_23 a0_24 a0_25 a0_26 a0_27 a0_28 a0_29 a0_30 a0_31 a0_32 a0_33 a0_34 a0_35 w K).mpr h)

/-- goosepond/goosepondref20.lists -/
def s_ref20_lists (a0_0 : Int) (a0_1 : Int) (a0_2 : Int) (a0_3 : Int) (a0_4 : Int) (a0_5 : Int) (a0_6 : Int) (a0_7 : Int) (a0_8 : Int) (a0_9 : Int) (a0_10 : Int) (a0_11 : Int) (a0_12 : Int) (a0_13 : Int) (a0_14 : Int) (a0_15 : Int) (a0_16 : SliceV) (a0_17 : SliceV) (a0_18 : Int) (a0_19 : Int) (a0_20 : Int) (a0_21 : Int) (a0_22 : Int) (a0_23 : Int) (a0_24 : Int) (a0_25 : Int) (a0_26 : Int) (a0_27 : Int) (a0_28 : Int) (a0_29 : Int) (a0_30 : Int) (a0_31 : Int) (a0_32 : Int) (a0_33 : Int) (a0_34 : Int) (a0_35 : SliceV) (w : World) (K : Bool → World → Prop) : Prop :=
 (Al w (.cells ⟨((Value.int .u8 a0_0) :: (Value.int .u8 a0_1) :: (Value.int .u8 a0_2) :: (Value.int .u8 a0_3) :: (Value.int .u8 a0_4) :: (Value.int .u8 a0_5) :: (Value.int .u8 a0_6) :: (Value.int .u8 a0_7) :: (Value.int .u8 a0_8) :: (Value.int .u8 a0_9) :: (Value.int .u8 a0_10) :: (Value.int .u8 a0_11) :: (Value.int .u8 a0_12) :: (Value.int .u8 a0_13) :: (Value.int .u8 a0_14) :: (Value.int .u8 a0_15) :: (Value.slice a0_16.a a0_16.len a0_16.cap) :: (Value.slice a0_17.a a0_17.len a0_17.cap) :: (Value.int .i64 a0_18) :: (Value.int .i64 a0_19) :: (Value.int .i64 a0_20) :: (Value.int .i64 a0_21) :: (Value.int .i64 a0_22) :: (Value.int .i64 a0_23) :: (Value.int .i64 a0_24) :: (Value.int .i64 a0_25) :: (Value.int .i64 a0_26) :: (Value.int .i64 a0_27) :: (Value.int .i64 a0_28) :: (Value.int .i64 a0_29) :: (Value.int .i64 a0_30) :: (Value.int .i64 a0_31) :: (Value.int .i64 a0_32) :: (Value.int .i64 a0_33) :: (Value.int .i64 a0_34) :: (Value.slice a0_35.a a0_35.len a0_35.cap) :: [])⟩ 42) fun a3 w2 =>
 let J4 : Bool → World → Prop := fun j5 w6 =>
 ((bif j5 then
 K false w6
 else
 LoopP (S := Int × Unit) (fun s7 w8 next9 =>
 Ld .slice w8 (a3.add 16) fun x10 =>
 (bif (decide (s7.1 < (x10.len : Int))) then
 Ld .slice w8 (a3.add 16) fun x11 =>
 AtIx x11 16 s7.1 fun a12 =>
 Ld (.int .u8) w8 (a12.add 0) fun x13 =>
 Ld (.int .u8) w8 (a12.add 1) fun x14 =>
 Ld (.int .u8) w8 (a12.add 2) fun x15 =>
 Ld (.int .u8) w8 (a12.add 3) fun x16 =>
 Ld (.int .u8) w8 (a12.add 4) fun x17 =>
 Ld (.int .u8) w8 (a12.add 5) fun x18 =>
 Ld (.int .u8) w8 (a12.add 6) fun x19 =>
 Ld (.int .u8) w8 (a12.add 7) fun x20 =>
 Ld (.int .u8) w8 (a12.add 8) fun x21 =>
 Ld (.int .u8) w8 (a12.add 9) fun x22 =>
 Ld (.int .u8) w8 (a12.add 10) fun x23 =>
 Ld (.int .u8) w8 (a12.add 11) fun x24 =>
 Ld (.int .u8) w8 (a12.add 12) fun x25 =>
 Ld (.int .u8) w8 (a12.add 13) fun x26 =>
 Ld (.int .u8) w8 (a12.add 14) fun x27 =>
 Ld (.int .u8) w8 (a12.add 15) fun x28 =>
 c_ref04_Host x13 x14 x15 x16 x17 x18 x19 x20 x21 x22 x23 x24 x25 x26 x27 x28 w8 fun r29 w30 =>
 (bif (!r29) then
 K false w30
 else
 next9 ((IntKind.i64.wrap (s7.1 + 1)), ()) w30)
 else
 LoopP (S := Int × Unit) (fun s31 w32 next33 =>
 Ld .slice w32 (a3.add 17) fun x34 =>
 (bif (decide (s31.1 < (x34.len : Int))) then
 Ld .slice w32 (a3.add 17) fun x35 =>
 AtIx x35 1 s31.1 fun a36 =>
 Ld (.int .i64) w32 a36 fun x37 =>
 c_ref03_Host x37 w32 fun r38 w39 =>
 (bif (!r38) then
 K false w39
 else
 next33 ((IntKind.i64.wrap (s31.1 + 1)), ()) w39)
 else
 LoopP (S := Int × Unit) (fun s40 w41 next42 =>
 Ld .slice w41 (a3.add 35) fun x43 =>
 (bif (decide (s40.1 < (x43.len : Int))) then
 Ld (.int .u8) w41.drew (a3.add 0) fun x44 =>
 Ld (.int .u8) w41.drew (a3.add 1) fun x45 =>
 Ld (.int .u8) w41.drew (a3.add 2) fun x46 =>
 Ld (.int .u8) w41.drew (a3.add 3) fun x47 =>
 Ld (.int .u8) w41.drew (a3.add 4) fun x48 =>
 Ld (.int .u8) w41.drew (a3.add 5) fun x49 =>
 Ld (.int .u8) w41.drew (a3.add 6) fun x50 =>
 Ld (.int .u8) w41.drew (a3.add 7) fun x51 =>
 Ld (.int .u8) w41.drew (a3.add 8) fun x52 =>
 Ld (.int .u8) w41.drew (a3.add 9) fun x53 =>
 Ld (.int .u8) w41.drew (a3.add 10) fun x54 =>
 Ld (.int .u8) w41.drew (a3.add 11) fun x55 =>
 Ld (.int .u8) w41.drew (a3.add 12) fun x56 =>
 Ld (.int .u8) w41.drew (a3.add 13) fun x57 =>
 Ld (.int .u8) w41.drew (a3.add 14) fun x58 =>
 Ld (.int .u8) w41.drew (a3.add 15) fun x59 =>
 Ld .slice w41.drew (a3.add 16) fun x60 =>
 Ld .slice w41.drew (a3.add 17) fun x61 =>
 Ld (.int .i64) w41.drew (a3.add 18) fun x62 =>
 Ld (.int .i64) w41.drew (a3.add 19) fun x63 =>
 Ld (.int .i64) w41.drew (a3.add 20) fun x64 =>
 Ld (.int .i64) w41.drew (a3.add 21) fun x65 =>
 Ld (.int .i64) w41.drew (a3.add 22) fun x66 =>
 Ld (.int .i64) w41.drew (a3.add 23) fun x67 =>
 Ld (.int .i64) w41.drew (a3.add 24) fun x68 =>
 Ld (.int .i64) w41.drew (a3.add 25) fun x69 =>
 Ld (.int .i64) w41.drew (a3.add 26) fun x70 =>
 Ld (.int .i64) w41.drew (a3.add 27) fun x71 =>
 Ld (.int .i64) w41.drew (a3.add 28) fun x72 =>
 Ld (.int .i64) w41.drew (a3.add 29) fun x73 =>
 Ld (.int .i64) w41.drew (a3.add 30) fun x74 =>
 Ld (.int .i64) w41.drew (a3.add 31) fun x75 =>
 Ld (.int .i64) w41.drew (a3.add 32) fun x76 =>
 Ld (.int .i64) w41.drew (a3.add 33) fun x77 =>
 Ld (.int .i64) w41.drew (a3.add 34) fun x78 =>
 Ld .slice w41.drew (a3.add 35) fun x79 =>
 Ld .slice w41.drew (a3.add 35) fun x80 =>
 AtIx x80 7 s40.1 fun a81 =>
 Ld (.int .i64) w41.drew (a81.add 0) fun x82 =>
 Ld (.int .i64) w41.drew (a81.add 1) fun x83 =>
 Ld (.int .i64) w41.drew (a81.add 2) fun x84 =>
 Ld (.int .i64) w41.drew (a81.add 3) fun x85 =>
 Ld (.int .i64) w41.drew (a81.add 4) fun x86 =>
 Ld (.int .i64) w41.drew (a81.add 5) fun x87 =>
 Ld (.int .i64) w41.drew (a81.add 6) fun x88 =>
 c_ref20_static x44 x45 x46 x47 x48 x49 x50 x51 x52 x53 x54 x55 x56 x57 x58 x59 x60 x61 x62 x63 x64 x65 x66 x67 x68 x69 x70 x71 x72 x73 x74 x75 x76 x77 x78 x79 x82 x83 x84 x85 x86 x87 x88 w41.drew fun r89 w90 =>
 (bif (!r89) then
 K false w90
 else
 next42 ((IntKind.i64.wrap (s40.1 + 1)), ()) w90)
 else
 K true w41)) (0, ()) w32)) (0, ()) w8)) (0, ()) w6))
 Ld (.int .u8) w2 (a3.add 0) fun x91 =>
 Ld (.int .u8) w2 (a3.add 1) fun x92 =>
 Ld (.int .u8) w2 (a3.add 2) fun x93 =>
 Ld (.int .u8) w2 (a3.add 3) fun x94 =>
 Ld (.int .u8) w2 (a3.add 4) fun x95 =>
 Ld (.int .u8) w2 (a3.add 5) fun x96 =>
 Ld (.int .u8) w2 (a3.add 6) fun x97 =>
 Ld (.int .u8) w2 (a3.add 7) fun x98 =>
 Ld (.int .u8) w2 (a3.add 8) fun x99 =>
 Ld (.int .u8) w2 (a3.add 9) fun x100 =>
 Ld (.int .u8) w2 (a3.add 10) fun x101 =>
 Ld (.int .u8) w2 (a3.add 11) fun x102 =>
 Ld (.int .u8) w2 (a3.add 12) fun x103 =>
 Ld (.int .u8) w2 (a3.add 13) fun x104 =>
 Ld (.int .u8) w2 (a3.add 14) fun x105 =>
 Ld (.int .u8) w2 (a3.add 15) fun x106 =>
 c_ref04_Host x91 x92 x93 x94 x95 x96 x97 x98 x99 x100 x101 x102 x103 x104 x105 x106 w2 fun r107 w108 =>
 (bif (!r107) then
 J4 true w108
 else
 Ld .slice w108 (a3.add 16) fun x109 =>
 c_ref20_in (x109.len : Int) 1 64 w108 fun r110 w111 =>
 (bif (!r110) then
 J4 true w111
 else
 Ld .slice w111 (a3.add 17) fun x112 =>
 c_ref20_in (x112.len : Int) 1 16 w111 fun r113 w114 =>
 (bif (!r113) then
 J4 true w114
 else
 Ld .slice w114 (a3.add 35) fun x115 =>
 (bif (decide ((x115.len : Int) > 64)) then
 J4 true w114
 else
 Ld .slice w114 (a3.add 35) fun x116 =>
 Ld (.int .i64) w114 (a3.add 21) fun x117 =>
 J4 (decide ((x116.len : Int) > x117)) w114)))))
theorem e_ref20_lists (a0_0 : Int) (a0_1 : Int) (a0_2 : Int) (a0_3 : Int) (a0_4 : Int) (a0_5 : Int) (a0_6 : Int) (a0_7 : Int) (a0_8 : Int) (a0_9 : Int) (a0_10 : Int) (a0_11 : Int) (a0_12 : Int) (a0_13 : Int) (a0_14 : Int) (a0_15 : Int) (a0_16 : SliceV) (a0_17 : SliceV) (a0_18 : Int) (a0_19 : Int) (a0_20 : Int) (a0_21 : Int) (a0_22 : Int) (a0_23 : Int) (a0_24 : Int) (a0_25 : Int) (a0_26 : Int) (a0_27 : Int) (a0_28 : Int) (a0_29 : Int) (a0_30 : Int) (a0_31 : Int) (a0_32 : Int) (a0_33 : Int) (a0_34 : Int) (a0_35 : SliceV) (w : World) (K : Bool → World → Prop) : den Try.prog 81 (bodyOf Try.f43) none (.seq .leaf (.seq (.seq .leaf (.cond (.seq .leaf .leaf) .leaf)) (.seq (.seq .leaf (.blk (.loop [(3, (.int .i64))] (.seq (.seq .leaf (.cond .leaf .leaf)) (.seq (.blk (.seq .leaf (.cond (.seq .leaf .leaf) .leaf))) .leaf))))) (.seq (.seq .leaf (.blk (.loop [(4, (.int .i64))] (.seq (.seq .leaf (.cond .leaf .leaf)) (.seq (.blk (.seq .leaf (.cond (.seq .leaf .leaf) .leaf))) .leaf))))) (.seq (.seq .leaf (.blk (.loop [(5, (.int .i64))] (.seq (.seq .leaf (.cond .leaf .leaf)) (.seq (.blk (.seq .leaf (.cond (.seq .leaf .leaf) .leaf))) .leaf))))) (.seq .leaf .leaf)))))) (argEnv 0 [(Value.agg ⟨((Value.int .u8 a0_0) :: (Value.int .u8 a0_1) :: (Value.int .u8 a0_2) :: (Value.int .u8 a0_3) :: (Value.int .u8 a0_4) :: (Value.int .u8 a0_5) :: (Value.int .u8 a0_6) :: (Value.int .u8 a0_7) :: (Value.int .u8 a0_8) :: (Value.int .u8 a0_9) :: (Value.int .u8 a0_10) :: (Value.int .u8 a0_11) :: (Value.int .u8 a0_12) :: (Value.int .u8 a0_13) :: (Value.int .u8 a0_14) :: (Value.int .u8 a0_15) :: (Value.slice a0_16.a a0_16.len a0_16.cap) :: (Value.slice a0_17.a a0_17.len a0_17.cap) :: (Value.int .i64 a0_18) :: (Value.int .i64 a0_19) :: (Value.int .i64 a0_20) :: (Value.int .i64 a0_21) :: (Value.int .i64 a0_22) :: (Value.int .i64 a0_23) :: (Value.int .i64 a0_24) :: (Value.int .i64 a0_25) :: (Value.int .i64 a0_26) :: (Value.int .i64 a0_27) :: (Value.int .i64 a0_28) :: (Value.int .i64 a0_29) :: (Value.int .i64 a0_30) :: (Value.int .i64 a0_31) :: (Value.int .i64 a0_32) :: (Value.int .i64 a0_33) :: (Value.int .i64 a0_34) :: (Value.slice a0_35.a a0_35.len a0_35.cap) :: [])⟩)]) [] w (retK Try.prog [.tmp 2] [.one .bool] K) = s_ref20_lists a0_0 a0_1 a0_2 a0_3 a0_4 a0_5 a0_6 a0_7 a0_8 a0_9 a0_10 a0_11 a0_12 a0_13 a0_14 a0_15 a0_16 a0_17 a0_18 a0_19 a0_20 a0_21 a0_22 a0_23 a0_24 a0_25 a0_26 a0_27 a0_28 a0_29 a0_30 a0_31 a0_32 a0_33 a0_34 a0_35 w K := by kernel_rfl
theorem ok_ref20_lists {a0_0 a0_1 a0_2 a0_3 a0_4 a0_5 a0_6 a0_7 a0_8 a0_9 a0_10 a0_11 a0_12 a0_13 a0_14 a0_15 a0_16 a0_17 a0_18 a0_19 a0_20 a0_21 a0_22 a0_23 a0_24 a0_25 a0_26 a0_27 a0_28 a0_29 a0_30 a0_31 a0_32 a0_33 a0_34 a0_35 w K} (h : s_ref20_lists a0_0 a0_1 a0_2 a0_3 a0_4 a0_5 a0_6 a0_7 a0_8 a0_9 a0_10 a0_11 a0_12 a0_13 a0_14 a0_15 a0_16 a0_17 a0_18 a0_19 a0_20 a0_21 a0_22 a0_23 a0_24 a0_25 a0_26 a0_27 a0_28 a0_29 a0_30 a0_31 a0_32 a0_33 a0_34 a0_35 w K) : c_ref20_lists a0_0 a0_1 a0_2 a0_3 a0_4 a0_5 a0_6 a0_7 a0_8 a0_9 a0_10 a0_11 a0_12 a0_13 a0_14 a0_15 a0_16 a0_17 a0_18 a0_19 a0_20 a0_21 a0_22 a0_23 a0_24 a0_25 a0_26 a0_27 a0_28 a0_29 a0_30 a0_31 a0_32 a0_33 a0_34 a0_35 w K :=
  fn_sound pok Try.func43 (fn := Try.f43) (c := bodyOf Try.f43) (nt := 81) (by kernel_rfl) (by kernel_rfl) (rs := [.tmp 2]) (by kernel_rfl) [.one .bool] K (.seq .leaf (.seq (.seq .leaf (.cond (.seq .leaf .leaf) .leaf)) (.seq (.seq .leaf (.blk (.loop [(3, (.int .i64))] (.seq (.seq .leaf (.cond .leaf .leaf)) (.seq (.blk (.seq .leaf (.cond (.seq .leaf .leaf) .leaf))) .leaf))))) (.seq (.seq .leaf (.blk (.loop [(4, (.int .i64))] (.seq (.seq .leaf (.cond .leaf .leaf)) (.seq (.blk (.seq .leaf (.cond (.seq .leaf .leaf) .leaf))) .leaf))))) (.seq (.seq .leaf (.blk (.loop [(5, (.int .i64))] (.seq (.seq .leaf (.cond .leaf .leaf)) (.seq (.blk (.seq .leaf (.cond (.seq .leaf .leaf) .leaf))) .leaf))))) (.seq .leaf .leaf)))))) [(Value.agg ⟨((Value.int .u8 a0_0) :: (Value.int .u8 a0_1) :: (Value.int .u8 a0_2) :: (Value.int .u8 a0_3) :: (Value.int .u8 a0_4) :: (Value.int .u8 a0_5) :: (Value.int .u8 a0_6) :: (Value.int .u8 a0_7) :: (Value.int .u8 a0_8) :: (Value.int .u8 a0_9) :: (Value.int .u8 a0_10) :: (Value.int .u8 a0_11) :: (Value.int .u8 a0_12) :: (Value.int .u8 a0_13) :: (Value.int .u8 a0_14) :: (Value.int .u8 a0_15) :: (Value.slice a0_16.a a0_16.len a0_16.cap) :: (Value.slice a0_17.a a0_17.len a0_17.cap) :: (Value.int .i64 a0_18) :: (Value.int .i64 a0_19) :: (Value.int .i64 a0_20) :: (Value.int .i64 a0_21) :: (Value.int .i64 a0_22) :: (Value.int .i64 a0_23) :: (Value.int .i64 a0_24) :: (Value.int .i64 a0_25) :: (Value.int .i64 a0_26) :: (Value.int .i64 a0_27) :: (Value.int .i64 a0_28) :: (Value.int .i64 a0_29) :: (Value.int .i64 a0_30) :: (Value.int .i64 a0_31) :: (Value.int .i64 a0_32) :: (Value.int .i64 a0_33) :: (Value.int .i64 a0_34) :: (Value.slice a0_35.a a0_35.len a0_35.cap) :: [])⟩)] (by kernel_rfl) w ((e_ref20_lists a0_0 a0_1 a0_2 a0_3 a0_4 a0_5 a0_6 a0_7 a0_8 a0_9 a0_10 a0_11 a0_12 a0_13 a0_14 a0_15 a0_16 a0_17 a0_18 a0_19 a0_20 a0_21 a0_22 a0_23 a0_24 a0_25 a0_26 a0_27 a0_28 a0_29 a0_30 a0_31 a0_32 a0_33 a0_34 a0_35 w K).mpr h)

/-- goosepond/goosepondref20.twice -/
def s_ref20_twice (a0_0 : Int) (a0_1 : Int) (a0_2 : Int) (a0_3 : Int) (a0_4 : Int) (a0_5 : Int) (a0_6 : Int) (a0_7 : Int) (a0_8 : Int) (a0_9 : Int) (a0_10 : Int) (a0_11 : Int) (a0_12 : Int) (a0_13 : Int) (a0_14 : Int) (a0_15 : Int) (a0_16 : SliceV) (a0_17 : SliceV) (a0_18 : Int) (a0_19 : Int) (a0_20 : Int) (a0_21 : Int) (a0_22 : Int) (a0_23 : Int) (a0_24 : Int) (a0_25 : Int) (a0_26 : Int) (a0_27 : Int) (a0_28 : Int) (a0_29 : Int) (a0_30 : Int) (a0_31 : Int) (a0_32 : Int) (a0_33 : Int) (a0_34 : Int) (a0_35 : SliceV) (w : World) (K : Bool → World → Prop) : Prop :=
 (Al w (.cells ⟨((Value.int .u8 a0_0) :: (Value.int .u8 a0_1) :: (Value.int .u8 a0_2) :: (Value.int .u8 a0_3) :: (Value.int .u8 a0_4) :: (Value.int .u8 a0_5) :: (Value.int .u8 a0_6) :: (Value.int .u8 a0_7) :: (Value.int .u8 a0_8) :: (Value.int .u8 a0_9) :: (Value.int .u8 a0_10) :: (Value.int .u8 a0_11) :: (Value.int .u8 a0_12) :: (Value.int .u8 a0_13) :: (Value.int .u8 a0_14) :: (Value.int .u8 a0_15) :: (Value.slice a0_16.a a0_16.len a0_16.cap) :: (Value.slice a0_17.a a0_17.len a0_17.cap) :: (Value.int .i64 a0_18) :: (Value.int .i64 a0_19) :: (Value.int .i64 a0_20) :: (Value.int .i64 a0_21) :: (Value.int .i64 a0_22) :: (Value.int .i64 a0_23) :: (Value.int .i64 a0_24) :: (Value.int .i64 a0_25) :: (Value.int .i64 a0_26) :: (Value.int .i64 a0_27) :: (Value.int .i64 a0_28) :: (Value.int .i64 a0_29) :: (Value.int .i64 a0_30) :: (Value.int .i64 a0_31) :: (Value.int .i64 a0_32) :: (Value.int .i64 a0_33) :: (Value.int .i64 a0_34) :: (Value.slice a0_35.a a0_35.len a0_35.cap) :: [])⟩ 42) fun a3 w2 =>
 LoopP (S := Int × Unit) (fun s4 w5 next6 =>
 Ld .slice w5 (a3.add 16) fun x7 =>
 (bif (decide (s4.1 < (x7.len : Int))) then
 LoopP (S := Int × Unit) (fun s8 w9 next10 =>
 (bif (decide (s8.1 < s4.1)) then
 Ld .slice w9.drew (a3.add 16) fun x11 =>
 AtIx x11 16 s8.1 fun a12 =>
 Ld (.int .u8) w9.drew (a12.add 0) fun x13 =>
 Ld (.int .u8) w9.drew (a12.add 1) fun x14 =>
 Ld (.int .u8) w9.drew (a12.add 2) fun x15 =>
 Ld (.int .u8) w9.drew (a12.add 3) fun x16 =>
 Ld (.int .u8) w9.drew (a12.add 4) fun x17 =>
 Ld (.int .u8) w9.drew (a12.add 5) fun x18 =>
 Ld (.int .u8) w9.drew (a12.add 6) fun x19 =>
 Ld (.int .u8) w9.drew (a12.add 7) fun x20 =>
 Ld (.int .u8) w9.drew (a12.add 8) fun x21 =>
 Ld (.int .u8) w9.drew (a12.add 9) fun x22 =>
 Ld (.int .u8) w9.drew (a12.add 10) fun x23 =>
 Ld (.int .u8) w9.drew (a12.add 11) fun x24 =>
 Ld (.int .u8) w9.drew (a12.add 12) fun x25 =>
 Ld (.int .u8) w9.drew (a12.add 13) fun x26 =>
 Ld (.int .u8) w9.drew (a12.add 14) fun x27 =>
 Ld (.int .u8) w9.drew (a12.add 15) fun x28 =>
 Ld .slice w9.drew (a3.add 16) fun x29 =>
 AtIx x29 16 s4.1 fun a30 =>
 Ld (.int .u8) w9.drew (a30.add 0) fun x31 =>
 Ld (.int .u8) w9.drew (a30.add 1) fun x32 =>
 Ld (.int .u8) w9.drew (a30.add 2) fun x33 =>
 Ld (.int .u8) w9.drew (a30.add 3) fun x34 =>
 Ld (.int .u8) w9.drew (a30.add 4) fun x35 =>
 Ld (.int .u8) w9.drew (a30.add 5) fun x36 =>
 Ld (.int .u8) w9.drew (a30.add 6) fun x37 =>
 Ld (.int .u8) w9.drew (a30.add 7) fun x38 =>
 Ld (.int .u8) w9.drew (a30.add 8) fun x39 =>
 Ld (.int .u8) w9.drew (a30.add 9) fun x40 =>
 Ld (.int .u8) w9.drew (a30.add 10) fun x41 =>
 Ld (.int .u8) w9.drew (a30.add 11) fun x42 =>
 Ld (.int .u8) w9.drew (a30.add 12) fun x43 =>
 Ld (.int .u8) w9.drew (a30.add 13) fun x44 =>
 Ld (.int .u8) w9.drew (a30.add 14) fun x45 =>
 Ld (.int .u8) w9.drew (a30.add 15) fun x46 =>
 (bif ((x13 == x31) && ((x14 == x32) && ((x15 == x33) && ((x16 == x34) && ((x17 == x35) && ((x18 == x36) && ((x19 == x37) && ((x20 == x38) && ((x21 == x39) && ((x22 == x40) && ((x23 == x41) && ((x24 == x42) && ((x25 == x43) && ((x26 == x44) && ((x27 == x45) && ((x28 == x46) && true)))))))))))))))) then
 K true w9.drew
 else
 next10 ((IntKind.i64.wrap (s8.1 + 1)), ()) w9.drew)
 else
 Ld .slice w9.drew (a3.add 16) fun x47 =>
 AtIx x47 16 s4.1 fun a48 =>
 Ld (.int .u8) w9.drew (a48.add 0) fun x49 =>
 Ld (.int .u8) w9.drew (a48.add 1) fun x50 =>
 Ld (.int .u8) w9.drew (a48.add 2) fun x51 =>
 Ld (.int .u8) w9.drew (a48.add 3) fun x52 =>
 Ld (.int .u8) w9.drew (a48.add 4) fun x53 =>
 Ld (.int .u8) w9.drew (a48.add 5) fun x54 =>
 Ld (.int .u8) w9.drew (a48.add 6) fun x55 =>
 Ld (.int .u8) w9.drew (a48.add 7) fun x56 =>
 Ld (.int .u8) w9.drew (a48.add 8) fun x57 =>
 Ld (.int .u8) w9.drew (a48.add 9) fun x58 =>
 Ld (.int .u8) w9.drew (a48.add 10) fun x59 =>
 Ld (.int .u8) w9.drew (a48.add 11) fun x60 =>
 Ld (.int .u8) w9.drew (a48.add 12) fun x61 =>
 Ld (.int .u8) w9.drew (a48.add 13) fun x62 =>
 Ld (.int .u8) w9.drew (a48.add 14) fun x63 =>
 Ld (.int .u8) w9.drew (a48.add 15) fun x64 =>
 Ld (.int .u8) w9.drew (a3.add 0) fun x65 =>
 Ld (.int .u8) w9.drew (a3.add 1) fun x66 =>
 Ld (.int .u8) w9.drew (a3.add 2) fun x67 =>
 Ld (.int .u8) w9.drew (a3.add 3) fun x68 =>
 Ld (.int .u8) w9.drew (a3.add 4) fun x69 =>
 Ld (.int .u8) w9.drew (a3.add 5) fun x70 =>
 Ld (.int .u8) w9.drew (a3.add 6) fun x71 =>
 Ld (.int .u8) w9.drew (a3.add 7) fun x72 =>
 Ld (.int .u8) w9.drew (a3.add 8) fun x73 =>
 Ld (.int .u8) w9.drew (a3.add 9) fun x74 =>
 Ld (.int .u8) w9.drew (a3.add 10) fun x75 =>
 Ld (.int .u8) w9.drew (a3.add 11) fun x76 =>
 Ld (.int .u8) w9.drew (a3.add 12) fun x77 =>
 Ld (.int .u8) w9.drew (a3.add 13) fun x78 =>
 Ld (.int .u8) w9.drew (a3.add 14) fun x79 =>
 Ld (.int .u8) w9.drew (a3.add 15) fun x80 =>
 (bif ((x49 == x65) && ((x50 == x66) && ((x51 == x67) && ((x52 == x68) && ((x53 == x69) && ((x54 == x70) && ((x55 == x71) && ((x56 == x72) && ((x57 == x73) && ((x58 == x74) && ((x59 == x75) && ((x60 == x76) && ((x61 == x77) && ((x62 == x78) && ((x63 == x79) && ((x64 == x80) && true)))))))))))))))) then
 K true w9.drew
 else
 next6 ((IntKind.i64.wrap (s4.1 + 1)), ()) w9.drew))) (0, ()) w5
 else
 LoopP (S := Int × Unit) (fun s81 w82 next83 =>
 Ld .slice w82 (a3.add 17) fun x84 =>
 (bif (decide (s81.1 < (x84.len : Int))) then
 LoopP (S := Int × Unit) (fun s85 w86 next87 =>
 (bif (decide (s85.1 < s81.1)) then
 Ld .slice w86.drew (a3.add 17) fun x88 =>
 AtIx x88 1 s85.1 fun a89 =>
 Ld (.int .i64) w86.drew a89 fun x90 =>
 Ld .slice w86.drew (a3.add 17) fun x91 =>
 AtIx x91 1 s81.1 fun a92 =>
 Ld (.int .i64) w86.drew a92 fun x93 =>
 (bif (x90 == x93) then
 K true w86.drew
 else
 next87 ((IntKind.i64.wrap (s85.1 + 1)), ()) w86.drew)
 else
 next83 ((IntKind.i64.wrap (s81.1 + 1)), ()) w86)) (0, ()) w82
 else
 LoopP (S := Int × Unit) (fun s94 w95 next96 =>
 Ld .slice w95 (a3.add 35) fun x97 =>
 (bif (decide (s94.1 < (x97.len : Int))) then
 LoopP (S := Int × Int × Unit) (fun s98 w99 next100 =>
 (bif (decide (s98.2.1 < s94.1)) then
 let J101 : Int → World → Prop := fun j102 w103 =>
 (next100 (j102, (IntKind.i64.wrap (s98.2.1 + 1)), ()) w103)
 let J104 : Bool → World → Prop := fun j105 w106 =>
 ((bif j105 then
 K true w106
 else
 Ld .slice w106.drew (a3.add 35) fun x107 =>
 AtIx x107 7 s98.2.1 fun a108 =>
 Ld (.int .i64) w106.drew a108 fun x109 =>
 Ld .slice w106.drew (a3.add 35) fun x110 =>
 AtIx x110 7 s94.1 fun a111 =>
 Ld (.int .i64) w106.drew a111 fun x112 =>
 (bif (x109 == x112) then
 J101 (IntKind.i64.wrap (s98.1 + 1)) w106.drew
 else
 J101 s98.1 w106.drew)))
 Ld .slice w99.drew (a3.add 35) fun x113 =>
 AtIx x113 7 s98.2.1 fun a114 =>
 Ld (.int .i64) w99.drew (a114.add 0) fun x115 =>
 Ld (.int .i64) w99.drew (a114.add 1) fun x116 =>
 Ld (.int .i64) w99.drew (a114.add 2) fun x117 =>
 Ld (.int .i64) w99.drew (a114.add 3) fun x118 =>
 Ld .slice w99.drew (a3.add 35) fun x119 =>
 AtIx x119 7 s94.1 fun a120 =>
 Ld (.int .i64) w99.drew (a120.add 0) fun x121 =>
 Ld (.int .i64) w99.drew (a120.add 1) fun x122 =>
 Ld (.int .i64) w99.drew (a120.add 2) fun x123 =>
 Ld (.int .i64) w99.drew (a120.add 3) fun x124 =>
 (bif ((x115 == x121) && ((x116 == x122) && ((x117 == x123) && ((x118 == x124) && true)))) then
 J104 true w99.drew
 else
 Ld .slice w99.drew (a3.add 35) fun x125 =>
 AtIx x125 7 s98.2.1 fun a126 =>
 Ld (.int .i64) w99.drew ((a126.add 4).add 0) fun x127 =>
 Ld (.int .i64) w99.drew ((a126.add 4).add 1) fun x128 =>
 Ld (.int .i64) w99.drew ((a126.add 4).add 2) fun x129 =>
 Ld .slice w99.drew (a3.add 35) fun x130 =>
 AtIx x130 7 s94.1 fun a131 =>
 Ld (.int .i64) w99.drew ((a131.add 4).add 0) fun x132 =>
 Ld (.int .i64) w99.drew ((a131.add 4).add 1) fun x133 =>
 Ld (.int .i64) w99.drew ((a131.add 4).add 2) fun x134 =>
 J104 ((x127 == x132) && ((x128 == x133) && ((x129 == x134) && true))) w99.drew)
 else
 Ld (.int .i64) w99 (a3.add 20) fun x135 =>
 (bif (decide (s98.1 > x135)) then
 K true w99
 else
 next96 ((IntKind.i64.wrap (s94.1 + 1)), ()) w99))) (1, 0, ()) w95
 else
 K false w95)) (0, ()) w82)) (0, ()) w5)) (0, ()) w2)
theorem e_ref20_twice (a0_0 : Int) (a0_1 : Int) (a0_2 : Int) (a0_3 : Int) (a0_4 : Int) (a0_5 : Int) (a0_6 : Int) (a0_7 : Int) (a0_8 : Int) (a0_9 : Int) (a0_10 : Int) (a0_11 : Int) (a0_12 : Int) (a0_13 : Int) (a0_14 : Int) (a0_15 : Int) (a0_16 : SliceV) (a0_17 : SliceV) (a0_18 : Int) (a0_19 : Int) (a0_20 : Int) (a0_21 : Int) (a0_22 : Int) (a0_23 : Int) (a0_24 : Int) (a0_25 : Int) (a0_26 : Int) (a0_27 : Int) (a0_28 : Int) (a0_29 : Int) (a0_30 : Int) (a0_31 : Int) (a0_32 : Int) (a0_33 : Int) (a0_34 : Int) (a0_35 : SliceV) (w : World) (K : Bool → World → Prop) : den Try.prog 125 (bodyOf Try.f44) none (.seq .leaf (.seq (.seq .leaf (.blk (.loop [(3, (.int .i64))] (.seq (.seq .leaf (.cond .leaf .leaf)) (.seq (.blk (.seq (.seq .leaf (.blk (.loop [(4, (.int .i64))] (.seq (.seq .leaf (.cond .leaf .leaf)) (.seq (.blk (.seq .leaf (.cond (.seq .leaf .leaf) .leaf))) .leaf))))) (.seq .leaf (.cond (.seq .leaf .leaf) .leaf)))) .leaf))))) (.seq (.seq .leaf (.blk (.loop [(5, (.int .i64))] (.seq (.seq .leaf (.cond .leaf .leaf)) (.seq (.blk (.seq .leaf (.blk (.loop [(6, (.int .i64))] (.seq (.seq .leaf (.cond .leaf .leaf)) (.seq (.blk (.seq .leaf (.cond (.seq .leaf .leaf) .leaf))) .leaf)))))) .leaf))))) (.seq (.seq .leaf (.blk (.loop [(7, (.int .i64))] (.seq (.seq .leaf (.cond .leaf .leaf)) (.seq (.blk (.seq .leaf (.seq (.seq .leaf (.blk (.loop [(8, (.int .i64)), (9, (.int .i64))] (.seq (.seq .leaf (.cond .leaf .leaf)) (.seq (.blk (.seq (.seq .leaf (.cond (.seq .leaf .leaf) .leaf)) (.seq .leaf (.cond .leaf .leaf)))) .leaf))))) (.seq .leaf (.cond (.seq .leaf .leaf) .leaf))))) .leaf))))) (.seq .leaf .leaf))))) (argEnv 0 [(Value.agg ⟨((Value.int .u8 a0_0) :: (Value.int .u8 a0_1) :: (Value.int .u8 a0_2) :: (Value.int .u8 a0_3) :: (Value.int .u8 a0_4) :: (Value.int .u8 a0_5) :: (Value.int .u8 a0_6) :: (Value.int .u8 a0_7) :: (Value.int .u8 a0_8) :: (Value.int .u8 a0_9) :: (Value.int .u8 a0_10) :: (Value.int .u8 a0_11) :: (Value.int .u8 a0_12) :: (Value.int .u8 a0_13) :: (Value.int .u8 a0_14) :: (Value.int .u8 a0_15) :: (Value.slice a0_16.a a0_16.len a0_16.cap) :: (Value.slice a0_17.a a0_17.len a0_17.cap) :: (Value.int .i64 a0_18) :: (Value.int .i64 a0_19) :: (Value.int .i64 a0_20) :: (Value.int .i64 a0_21) :: (Value.int .i64 a0_22) :: (Value.int .i64 a0_23) :: (Value.int .i64 a0_24) :: (Value.int .i64 a0_25) :: (Value.int .i64 a0_26) :: (Value.int .i64 a0_27) :: (Value.int .i64 a0_28) :: (Value.int .i64 a0_29) :: (Value.int .i64 a0_30) :: (Value.int .i64 a0_31) :: (Value.int .i64 a0_32) :: (Value.int .i64 a0_33) :: (Value.int .i64 a0_34) :: (Value.slice a0_35.a a0_35.len a0_35.cap) :: [])⟩)]) [] w (retK Try.prog [.tmp 2] [.one .bool] K) = s_ref20_twice a0_0 a0_1 a0_2 a0_3 a0_4 a0_5 a0_6 a0_7 a0_8 a0_9 a0_10 a0_11 a0_12 a0_13 a0_14 a0_15 a0_16 a0_17 a0_18 a0_19 a0_20 a0_21 a0_22 a0_23 a0_24 a0_25 a0_26 a0_27 a0_28 a0_29 a0_30 a0_31 a0_32 a0_33 a0_34 a0_35 w K := by kernel_rfl
theorem ok_ref20_twice {a0_0 a0_1 a0_2 a0_3 a0_4 a0_5 a0_6 a0_7 a0_8 a0_9 a0_10 a0_11 a0_12 a0_13 a0_14 a0_15 a0_16 a0_17 a0_18 a0_19 a0_20 a0_21 a0_22 a0_23 a0_24 a0_25 a0_26 a0_27 a0_28 a0_29 a0_30 a0_31 a0_32 a0_33 a0_34 a0_35 w K} (h : s_ref20_twice a0_0 a0_1 a0_2 a0_3 a0_4 a0_5 a0_6 a0_7 a0_8 a0_9 a0_10 a0_11 a0_12 a0_13 a0_14 a0_15 a0_16 a0_17 a0_18 a0_19 a0_20 a0_21 a0_22 a0_23 a0_24 a0_25 a0_26 a0_27 a0_28 a0_29 a0_30 a0_31 a0_32 a0_33 a0_34 a0_35 w K) : c_ref20_twice a0_0 a0_1 a0_2 a0_3 a0_4 a0_5 a0_6 a0_7 a0_8 a0_9 a0_10 a0_11 a0_12 a0_13 a0_14 a0_15 a0_16 a0_17 a0_18 a0_19 a0_20 a0_21 a0_22 a0_23 a0_24 a0_25 a0_26 a0_27 a0_28 a0_29 a0_30 a0_31 a0_32 a0_33 a0_34 a0_35 w K :=
  fn_sound pok Try.func44 (fn := Try.f44) (c := bodyOf Try.f44) (nt := 125) (by kernel_rfl) (by kernel_rfl) (rs := [.tmp 2]) (by kernel_rfl) [.one .bool] K (.seq .leaf (.seq (.seq .leaf (.blk (.loop [(3, (.int .i64))] (.seq (.seq .leaf (.cond .leaf .leaf)) (.seq (.blk (.seq (.seq .leaf (.blk (.loop [(4, (.int .i64))] (.seq (.seq .leaf (.cond .leaf .leaf)) (.seq (.blk (.seq .leaf (.cond (.seq .leaf .leaf) .leaf))) .leaf))))) (.seq .leaf (.cond (.seq .leaf .leaf) .leaf)))) .leaf))))) (.seq (.seq .leaf (.blk (.loop [(5, (.int .i64))] (.seq (.seq .leaf (.cond .leaf .leaf)) (.seq (.blk (.seq .leaf (.blk (.loop [(6, (.int .i64))] (.seq (.seq .leaf (.cond .leaf .leaf)) (.seq (.blk (.seq .leaf (.cond (.seq .leaf .leaf) .leaf))) .leaf)))))) .leaf))))) (.seq (.seq .leaf (.blk (.loop [(7, (.int .i64))] (.seq (.seq .leaf (.cond .leaf .leaf)) (.seq (.blk (.seq .leaf (.seq (.seq .leaf (.blk (.loop [(8, (.int .i64)), (9, (.int .i64))] (.seq (.seq .leaf (.cond .leaf .leaf)) (.seq (.blk (.seq (.seq .leaf (.cond (.seq .leaf .leaf) .leaf)) (.seq .leaf (.cond .leaf .leaf)))) .leaf))))) (.seq .leaf (.cond (.seq .leaf .leaf) .leaf))))) .leaf))))) (.seq .leaf .leaf))))) [(Value.agg ⟨((Value.int .u8 a0_0) :: (Value.int .u8 a0_1) :: (Value.int .u8 a0_2) :: (Value.int .u8 a0_3) :: (Value.int .u8 a0_4) :: (Value.int .u8 a0_5) :: (Value.int .u8 a0_6) :: (Value.int .u8 a0_7) :: (Value.int .u8 a0_8) :: (Value.int .u8 a0_9) :: (Value.int .u8 a0_10) :: (Value.int .u8 a0_11) :: (Value.int .u8 a0_12) :: (Value.int .u8 a0_13) :: (Value.int .u8 a0_14) :: (Value.int .u8 a0_15) :: (Value.slice a0_16.a a0_16.len a0_16.cap) :: (Value.slice a0_17.a a0_17.len a0_17.cap) :: (Value.int .i64 a0_18) :: (Value.int .i64 a0_19) :: (Value.int .i64 a0_20) :: (Value.int .i64 a0_21) :: (Value.int .i64 a0_22) :: (Value.int .i64 a0_23) :: (Value.int .i64 a0_24) :: (Value.int .i64 a0_25) :: (Value.int .i64 a0_26) :: (Value.int .i64 a0_27) :: (Value.int .i64 a0_28) :: (Value.int .i64 a0_29) :: (Value.int .i64 a0_30) :: (Value.int .i64 a0_31) :: (Value.int .i64 a0_32) :: (Value.int .i64 a0_33) :: (Value.int .i64 a0_34) :: (Value.slice a0_35.a a0_35.len a0_35.cap) :: [])⟩)] (by kernel_rfl) w ((e_ref20_twice a0_0 a0_1 a0_2 a0_3 a0_4 a0_5 a0_6 a0_7 a0_8 a0_9 a0_10 a0_11 a0_12 a0_13 a0_14 a0_15 a0_16 a0_17 a0_18 a0_19 a0_20 a0_21 a0_22 a0_23 a0_24 a0_25 a0_26 a0_27 a0_28 a0_29 a0_30 a0_31 a0_32 a0_33 a0_34 a0_35 w K).mpr h)

/-- goosepond/six.Of -/
def s_six_Of (a0 : SliceV) (w : World) (K : Int → Int → Int → Int → Int → Int → Int → Int → Int → Int → Int → Int → Int → Int → Int → Int → World → Prop) : Prop :=
 (Al w (.cells ⟨[(Value.int .u8 0), (Value.int .u8 0), (Value.int .u8 0), (Value.int .u8 0), (Value.int .u8 0), (Value.int .u8 0), (Value.int .u8 0), (Value.int .u8 0), (Value.int .u8 0), (Value.int .u8 0), (Value.int .u8 0), (Value.int .u8 0), (Value.int .u8 0), (Value.int .u8 0), (Value.int .u8 0), (Value.int .u8 0)]⟩ 38) fun a3 w2 =>
 Al w2 (.cells ⟨[(Value.int .u8 0), (Value.int .u8 0), (Value.int .u8 0), (Value.int .u8 0), (Value.int .u8 0), (Value.int .u8 0), (Value.int .u8 0), (Value.int .u8 0), (Value.int .u8 0), (Value.int .u8 0), (Value.int .u8 0), (Value.int .u8 0), (Value.int .u8 0), (Value.int .u8 0), (Value.int .u8 0), (Value.int .u8 0)]⟩ 38) fun a5 w4 =>
 let J6 : World → Prop := fun w7 =>
 (Ld (.int .u8) w7 (a5.add 0) fun x8 =>
 Ld (.int .u8) w7 (a5.add 1) fun x9 =>
 Ld (.int .u8) w7 (a5.add 2) fun x10 =>
 Ld (.int .u8) w7 (a5.add 3) fun x11 =>
 Ld (.int .u8) w7 (a5.add 4) fun x12 =>
 Ld (.int .u8) w7 (a5.add 5) fun x13 =>
 Ld (.int .u8) w7 (a5.add 6) fun x14 =>
 Ld (.int .u8) w7 (a5.add 7) fun x15 =>
 Ld (.int .u8) w7 (a5.add 8) fun x16 =>
 Ld (.int .u8) w7 (a5.add 9) fun x17 =>
 Ld (.int .u8) w7 (a5.add 10) fun x18 =>
 Ld (.int .u8) w7 (a5.add 11) fun x19 =>
 Ld (.int .u8) w7 (a5.add 12) fun x20 =>
 Ld (.int .u8) w7 (a5.add 13) fun x21 =>
 Ld (.int .u8) w7 (a5.add 14) fun x22 =>
 Ld (.int .u8) w7 (a5.add 15) fun x23 =>
 StN [(Value.int .u8 x8), (Value.int .u8 x9), (Value.int .u8 x10), (Value.int .u8 x11), (Value.int .u8 x12), (Value.int .u8 x13), (Value.int .u8 x14), (Value.int .u8 x15), (Value.int .u8 x16), (Value.int .u8 x17), (Value.int .u8 x18), (Value.int .u8 x19), (Value.int .u8 x20), (Value.int .u8 x21), (Value.int .u8 x22), (Value.int .u8 x23)] w7 a3 0 fun w24 =>
 Ld (.int .u8) w24 (a3.add 0) fun y25 =>
 Ld (.int .u8) w24 (a3.add 1) fun y26 =>
 Ld (.int .u8) w24 (a3.add 2) fun y27 =>
 Ld (.int .u8) w24 (a3.add 3) fun y28 =>
 Ld (.int .u8) w24 (a3.add 4) fun y29 =>
 Ld (.int .u8) w24 (a3.add 5) fun y30 =>
 Ld (.int .u8) w24 (a3.add 6) fun y31 =>
 Ld (.int .u8) w24 (a3.add 7) fun y32 =>
 Ld (.int .u8) w24 (a3.add 8) fun y33 =>
 Ld (.int .u8) w24 (a3.add 9) fun y34 =>
 Ld (.int .u8) w24 (a3.add 10) fun y35 =>
 Ld (.int .u8) w24 (a3.add 11) fun y36 =>
 Ld (.int .u8) w24 (a3.add 12) fun y37 =>
 Ld (.int .u8) w24 (a3.add 13) fun y38 =>
 Ld (.int .u8) w24 (a3.add 14) fun y39 =>
 Ld (.int .u8) w24 (a3.add 15) fun y40 =>
 K y25 y26 y27 y28 y29 y30 y31 y32 y33 y34 y35 y36 y37 y38 y39 y40 w24)
 LoopP (S := Int × Unit) (fun s41 w42 next43 =>
 (bif (decide (s41.1 < (a0.len : Int))) then
 AtIx a0 1 s41.1 fun a44 =>
 Ld (.int .i64) w42 a44 fun x45 =>
 (bif (s41.1 == 8) then
 J6 w42
 else
 0 ≤ (8 : Int) ∧
 (0 : Int) ≤ (IntKind.i64.wrap (2 * s41.1)) ∧ (IntKind.i64.wrap (2 * s41.1)) < (16 : Int) ∧
 St w42 (a5.add (Int.toNat (IntKind.i64.wrap (2 * s41.1)) * 1)) (Value.int .u8 (IntKind.u8.wrap (shrI .i64 x45 8))) fun w46 =>
 (0 : Int) ≤ (IntKind.i64.wrap ((IntKind.i64.wrap (2 * s41.1)) + 1)) ∧ (IntKind.i64.wrap ((IntKind.i64.wrap (2 * s41.1)) + 1)) < (16 : Int) ∧
 St w46 (a5.add (Int.toNat (IntKind.i64.wrap ((IntKind.i64.wrap (2 * s41.1)) + 1)) * 1)) (Value.int .u8 (IntKind.u8.wrap x45)) fun w47 =>
 next43 ((IntKind.i64.wrap (s41.1 + 1)), ()) w47)
 else
 J6 w42)) (0, ()) w4)
theorem e_six_Of (a0 : SliceV) (w : World) (K : Int → Int → Int → Int → Int → Int → Int → Int → Int → Int → Int → Int → Int → Int → Int → Int → World → Prop) : den Try.prog 29 (bodyOf Try.f46) none (.seq .leaf (.seq .leaf (.seq (.seq .leaf (.blk (.loop [(8, (.int .i64))] (.seq .leaf (.seq (.cond .leaf .leaf) (.seq (.blk (.seq .leaf (.seq (.seq .leaf (.cond .leaf .leaf)) .leaf))) .leaf)))))) (.seq .leaf .leaf)))) (argEnv 0 [(Value.slice a0.a a0.len a0.cap)]) [] w (retK Try.prog [.cell 2 38] [.agg [(.int .u8), (.int .u8), (.int .u8), (.int .u8), (.int .u8), (.int .u8), (.int .u8), (.int .u8), (.int .u8), (.int .u8), (.int .u8), (.int .u8), (.int .u8), (.int .u8), (.int .u8), (.int .u8)]] K) = s_six_Of a0 w K := by kernel_rfl
theorem ok_six_Of {a0 w K} (h : s_six_Of a0 w K) : c_six_Of a0 w K :=
  fn_sound pok Try.func46 (fn := Try.f46) (c := bodyOf Try.f46) (nt := 29) (by kernel_rfl) (by kernel_rfl) (rs := [.cell 2 38]) (by kernel_rfl) [.agg [(.int .u8), (.int .u8), (.int .u8), (.int .u8), (.int .u8), (.int .u8), (.int .u8), (.int .u8), (.int .u8), (.int .u8), (.int .u8), (.int .u8), (.int .u8), (.int .u8), (.int .u8), (.int .u8)]] K (.seq .leaf (.seq .leaf (.seq (.seq .leaf (.blk (.loop [(8, (.int .i64))] (.seq .leaf (.seq (.cond .leaf .leaf) (.seq (.blk (.seq .leaf (.seq (.seq .leaf (.cond .leaf .leaf)) .leaf))) .leaf)))))) (.seq .leaf .leaf)))) [(Value.slice a0.a a0.len a0.cap)] (by kernel_rfl) w ((e_six_Of a0 w K).mpr h)

/-- goosepond/goosepondref04.Of -/
def s_ref04_Of (a0 : SliceV) (w : World) (K : Int → Int → Int → Int → Int → Int → Int → Int → Int → Int → Int → Int → Int → Int → Int → Int → World → Prop) : Prop :=
 (Al w (.cells ⟨[(Value.int .u8 0), (Value.int .u8 0), (Value.int .u8 0), (Value.int .u8 0), (Value.int .u8 0), (Value.int .u8 0), (Value.int .u8 0), (Value.int .u8 0), (Value.int .u8 0), (Value.int .u8 0), (Value.int .u8 0), (Value.int .u8 0), (Value.int .u8 0), (Value.int .u8 0), (Value.int .u8 0), (Value.int .u8 0)]⟩ 38) fun a3 w2 =>
 Al w2 (.cells ⟨[(Value.int .u8 0), (Value.int .u8 0), (Value.int .u8 0), (Value.int .u8 0), (Value.int .u8 0), (Value.int .u8 0), (Value.int .u8 0), (Value.int .u8 0), (Value.int .u8 0), (Value.int .u8 0), (Value.int .u8 0), (Value.int .u8 0), (Value.int .u8 0), (Value.int .u8 0), (Value.int .u8 0), (Value.int .u8 0)]⟩ 38) fun a5 w4 =>
 LoopP (S := Int × Unit) (fun s6 w7 next8 =>
 let J9 : Bool → Prop := fun j10 =>
 ((bif j10 then
 AtIx a0 1 s6.1 fun a11 =>
 Ld (.int .i64) w7 a11 fun x12 =>
 (65536 : Int) ≠ 0 ∧
 (65536 : Int) ≠ 0 ∧
 (256 : Int) ≠ 0 ∧
 (256 : Int) ≠ 0 ∧
 (0 : Int) ≤ (IntKind.i64.wrap (2 * s6.1)) ∧ (IntKind.i64.wrap (2 * s6.1)) < (16 : Int) ∧
 St w7 (a5.add (Int.toNat (IntKind.i64.wrap (2 * s6.1)) * 1)) (Value.int .u8 (IntKind.u8.wrap (IntKind.i64.wrap (Int.tdiv (Int.tmod (IntKind.i64.wrap ((Int.tmod x12 65536) + 65536)) 65536) 256)))) fun w13 =>
 (0 : Int) ≤ (IntKind.i64.wrap ((IntKind.i64.wrap (2 * s6.1)) + 1)) ∧ (IntKind.i64.wrap ((IntKind.i64.wrap (2 * s6.1)) + 1)) < (16 : Int) ∧
 St w13 (a5.add (Int.toNat (IntKind.i64.wrap ((IntKind.i64.wrap (2 * s6.1)) + 1)) * 1)) (Value.int .u8 (IntKind.u8.wrap (Int.tmod (Int.tmod (IntKind.i64.wrap ((Int.tmod x12 65536) + 65536)) 65536) 256))) fun w14 =>
 next8 ((IntKind.i64.wrap (s6.1 + 1)), ()) w14
 else
 Ld (.int .u8) w7 (a5.add 0) fun x15 =>
 Ld (.int .u8) w7 (a5.add 1) fun x16 =>
 Ld (.int .u8) w7 (a5.add 2) fun x17 =>
 Ld (.int .u8) w7 (a5.add 3) fun x18 =>
 Ld (.int .u8) w7 (a5.add 4) fun x19 =>
 Ld (.int .u8) w7 (a5.add 5) fun x20 =>
 Ld (.int .u8) w7 (a5.add 6) fun x21 =>
 Ld (.int .u8) w7 (a5.add 7) fun x22 =>
 Ld (.int .u8) w7 (a5.add 8) fun x23 =>
 Ld (.int .u8) w7 (a5.add 9) fun x24 =>
 Ld (.int .u8) w7 (a5.add 10) fun x25 =>
 Ld (.int .u8) w7 (a5.add 11) fun x26 =>
 Ld (.int .u8) w7 (a5.add 12) fun x27 =>
 Ld (.int .u8) w7 (a5.add 13) fun x28 =>
 Ld (.int .u8) w7 (a5.add 14) fun x29 =>
 Ld (.int .u8) w7 (a5.add 15) fun x30 =>
 StN [(Value.int .u8 x15), (Value.int .u8 x16), (Value.int .u8 x17), (Value.int .u8 x18), (Value.int .u8 x19), (Value.int .u8 x20), (Value.int .u8 x21), (Value.int .u8 x22), (Value.int .u8 x23), (Value.int .u8 x24), (Value.int .u8 x25), (Value.int .u8 x26), (Value.int .u8 x27), (Value.int .u8 x28), (Value.int .u8 x29), (Value.int .u8 x30)] w7 a3 0 fun w31 =>
 Ld (.int .u8) w31 (a3.add 0) fun y32 =>
 Ld (.int .u8) w31 (a3.add 1) fun y33 =>
 Ld (.int .u8) w31 (a3.add 2) fun y34 =>
 Ld (.int .u8) w31 (a3.add 3) fun y35 =>
 Ld (.int .u8) w31 (a3.add 4) fun y36 =>
 Ld (.int .u8) w31 (a3.add 5) fun y37 =>
 Ld (.int .u8) w31 (a3.add 6) fun y38 =>
 Ld (.int .u8) w31 (a3.add 7) fun y39 =>
 Ld (.int .u8) w31 (a3.add 8) fun y40 =>
 Ld (.int .u8) w31 (a3.add 9) fun y41 =>
 Ld (.int .u8) w31 (a3.add 10) fun y42 =>
 Ld (.int .u8) w31 (a3.add 11) fun y43 =>
 Ld (.int .u8) w31 (a3.add 12) fun y44 =>
 Ld (.int .u8) w31 (a3.add 13) fun y45 =>
 Ld (.int .u8) w31 (a3.add 14) fun y46 =>
 Ld (.int .u8) w31 (a3.add 15) fun y47 =>
 K y32 y33 y34 y35 y36 y37 y38 y39 y40 y41 y42 y43 y44 y45 y46 y47 w31))
 (bif (decide (s6.1 < (a0.len : Int))) then
 J9 (decide (s6.1 < 8))
 else
 J9 false)) (0, ()) w4)
theorem e_ref04_Of (a0 : SliceV) (w : World) (K : Int → Int → Int → Int → Int → Int → Int → Int → Int → Int → Int → Int → Int → Int → Int → Int → World → Prop) : den Try.prog 37 (bodyOf Try.f47) none (.seq .leaf (.seq .leaf (.seq (.seq .leaf (.blk (.loop [(4, (.int .i64))] (.seq (.seq .leaf (.cond .leaf .leaf)) (.seq (.blk (.seq .leaf .leaf)) .leaf))))) (.seq .leaf .leaf)))) (argEnv 0 [(Value.slice a0.a a0.len a0.cap)]) [] w (retK Try.prog [.cell 2 38] [.agg [(.int .u8), (.int .u8), (.int .u8), (.int .u8), (.int .u8), (.int .u8), (.int .u8), (.int .u8), (.int .u8), (.int .u8), (.int .u8), (.int .u8), (.int .u8), (.int .u8), (.int .u8), (.int .u8)]] K) = s_ref04_Of a0 w K := by kernel_rfl
theorem ok_ref04_Of {a0 w K} (h : s_ref04_Of a0 w K) : c_ref04_Of a0 w K :=
  fn_sound pok Try.func47 (fn := Try.f47) (c := bodyOf Try.f47) (nt := 37) (by kernel_rfl) (by kernel_rfl) (rs := [.cell 2 38]) (by kernel_rfl) [.agg [(.int .u8), (.int .u8), (.int .u8), (.int .u8), (.int .u8), (.int .u8), (.int .u8), (.int .u8), (.int .u8), (.int .u8), (.int .u8), (.int .u8), (.int .u8), (.int .u8), (.int .u8), (.int .u8)]] K (.seq .leaf (.seq .leaf (.seq (.seq .leaf (.blk (.loop [(4, (.int .i64))] (.seq (.seq .leaf (.cond .leaf .leaf)) (.seq (.blk (.seq .leaf .leaf)) .leaf))))) (.seq .leaf .leaf)))) [(Value.slice a0.a a0.len a0.cap)] (by kernel_rfl) w ((e_ref04_Of a0 w K).mpr h)

/-- goosepond/config.parts$1 -/
def s_config_parts_1 (a0_0 : Int) (a0_1 : Int) (a0_2 : Int) (a0_3 : Int) (a0_4 : Int) (a0_5 : Int) (a0_6 : Int) (a0_7 : Int) (a0_8 : Int) (a0_9 : Int) (a0_10 : Int) (a0_11 : Int) (a0_12 : Int) (a0_13 : Int) (a0_14 : Int) (a0_15 : Int) (w : World) (K : Bool → World → Prop) : Prop :=
 (Al w (.cells ⟨[(Value.int .u8 a0_0), (Value.int .u8 a0_1), (Value.int .u8 a0_2), (Value.int .u8 a0_3), (Value.int .u8 a0_4), (Value.int .u8 a0_5), (Value.int .u8 a0_6), (Value.int .u8 a0_7), (Value.int .u8 a0_8), (Value.int .u8 a0_9), (Value.int .u8 a0_10), (Value.int .u8 a0_11), (Value.int .u8 a0_12), (Value.int .u8 a0_13), (Value.int .u8 a0_14), (Value.int .u8 a0_15)]⟩ 38) fun a3 w2 =>
 Ld (.int .u8) w2 (a3.add 0) fun x4 =>
 Ld (.int .u8) w2 (a3.add 1) fun x5 =>
 Ld (.int .u8) w2 (a3.add 2) fun x6 =>
 Ld (.int .u8) w2 (a3.add 3) fun x7 =>
 Ld (.int .u8) w2 (a3.add 4) fun x8 =>
 Ld (.int .u8) w2 (a3.add 5) fun x9 =>
 Ld (.int .u8) w2 (a3.add 6) fun x10 =>
 Ld (.int .u8) w2 (a3.add 7) fun x11 =>
 Ld (.int .u8) w2 (a3.add 8) fun x12 =>
 Ld (.int .u8) w2 (a3.add 9) fun x13 =>
 Ld (.int .u8) w2 (a3.add 10) fun x14 =>
 Ld (.int .u8) w2 (a3.add 11) fun x15 =>
 Ld (.int .u8) w2 (a3.add 12) fun x16 =>
 Ld (.int .u8) w2 (a3.add 13) fun x17 =>
 Ld (.int .u8) w2 (a3.add 14) fun x18 =>
 Ld (.int .u8) w2 (a3.add 15) fun x19 =>
 c_six_Host x4 x5 x6 x7 x8 x9 x10 x11 x12 x13 x14 x15 x16 x17 x18 x19 w2 fun r20 w21 =>
 K (!r20) w21)
theorem e_config_parts_1 (a0_0 : Int) (a0_1 : Int) (a0_2 : Int) (a0_3 : Int) (a0_4 : Int) (a0_5 : Int) (a0_6 : Int) (a0_7 : Int) (a0_8 : Int) (a0_9 : Int) (a0_10 : Int) (a0_11 : Int) (a0_12 : Int) (a0_13 : Int) (a0_14 : Int) (a0_15 : Int) (w : World) (K : Bool → World → Prop) : den Try.prog 6 (bodyOf Try.f68) none (.seq .leaf (.seq .leaf .leaf)) (argEnv 0 [(Value.agg ⟨[(Value.int .u8 a0_0), (Value.int .u8 a0_1), (Value.int .u8 a0_2), (Value.int .u8 a0_3), (Value.int .u8 a0_4), (Value.int .u8 a0_5), (Value.int .u8 a0_6), (Value.int .u8 a0_7), (Value.int .u8 a0_8), (Value.int .u8 a0_9), (Value.int .u8 a0_10), (Value.int .u8 a0_11), (Value.int .u8 a0_12), (Value.int .u8 a0_13), (Value.int .u8 a0_14), (Value.int .u8 a0_15)]⟩)]) [] w (retK Try.prog [.tmp 2] [.one .bool] K) = s_config_parts_1 a0_0 a0_1 a0_2 a0_3 a0_4 a0_5 a0_6 a0_7 a0_8 a0_9 a0_10 a0_11 a0_12 a0_13 a0_14 a0_15 w K := by kernel_rfl
theorem ok_config_parts_1 {a0_0 a0_1 a0_2 a0_3 a0_4 a0_5 a0_6 a0_7 a0_8 a0_9 a0_10 a0_11 a0_12 a0_13 a0_14 a0_15 w K} (h : s_config_parts_1 a0_0 a0_1 a0_2 a0_3 a0_4 a0_5 a0_6 a0_7 a0_8 a0_9 a0_10 a0_11 a0_12 a0_13 a0_14 a0_15 w K) : c_config_parts_1 a0_0 a0_1 a0_2 a0_3 a0_4 a0_5 a0_6 a0_7 a0_8 a0_9 a0_10 a0_11 a0_12 a0_13 a0_14 a0_15 w K :=
  fn_sound pok Try.func68 (fn := Try.f68) (c := bodyOf Try.f68) (nt := 6) (by kernel_rfl) (by kernel_rfl) (rs := [.tmp 2]) (by kernel_rfl) [.one .bool] K (.seq .leaf (.seq .leaf .leaf)) [(Value.agg ⟨[(Value.int .u8 a0_0), (Value.int .u8 a0_1), (Value.int .u8 a0_2), (Value.int .u8 a0_3), (Value.int .u8 a0_4), (Value.int .u8 a0_5), (Value.int .u8 a0_6), (Value.int .u8 a0_7), (Value.int .u8 a0_8), (Value.int .u8 a0_9), (Value.int .u8 a0_10), (Value.int .u8 a0_11), (Value.int .u8 a0_12), (Value.int .u8 a0_13), (Value.int .u8 a0_14), (Value.int .u8 a0_15)]⟩)] (by kernel_rfl) w ((e_config_parts_1 a0_0 a0_1 a0_2 a0_3 a0_4 a0_5 a0_6 a0_7 a0_8 a0_9 a0_10 a0_11 a0_12 a0_13 a0_14 a0_15 w K).mpr h)

/-- goosepond/six.Host -/
def s_six_Host (a0_0 : Int) (a0_1 : Int) (a0_2 : Int) (a0_3 : Int) (a0_4 : Int) (a0_5 : Int) (a0_6 : Int) (a0_7 : Int) (a0_8 : Int) (a0_9 : Int) (a0_10 : Int) (a0_11 : Int) (a0_12 : Int) (a0_13 : Int) (a0_14 : Int) (a0_15 : Int) (w : World) (K : Bool → World → Prop) : Prop :=
 (Al w (.cells ⟨[(Value.int .u8 a0_0), (Value.int .u8 a0_1), (Value.int .u8 a0_2), (Value.int .u8 a0_3), (Value.int .u8 a0_4), (Value.int .u8 a0_5), (Value.int .u8 a0_6), (Value.int .u8 a0_7), (Value.int .u8 a0_8), (Value.int .u8 a0_9), (Value.int .u8 a0_10), (Value.int .u8 a0_11), (Value.int .u8 a0_12), (Value.int .u8 a0_13), (Value.int .u8 a0_14), (Value.int .u8 a0_15)]⟩ 38) fun a3 w2 =>
 Al w2 (.cells ⟨[(Value.int .u8 0), (Value.int .u8 0), (Value.int .u8 0), (Value.int .u8 0), (Value.int .u8 0), (Value.int .u8 0), (Value.int .u8 0), (Value.int .u8 0), (Value.int .u8 0), (Value.int .u8 0), (Value.int .u8 0), (Value.int .u8 0), (Value.int .u8 0), (Value.int .u8 0), (Value.int .u8 0), (Value.int .u8 0)]⟩ 38) fun a5 w4 =>
 let J6 : Bool → Prop := fun j7 =>
 (K j7 w4)
 Ld (.int .u8) w4 (a3.add 0) fun x8 =>
 Ld (.int .u8) w4 (a3.add 1) fun x9 =>
 Ld (.int .u8) w4 (a3.add 2) fun x10 =>
 Ld (.int .u8) w4 (a3.add 3) fun x11 =>
 Ld (.int .u8) w4 (a3.add 4) fun x12 =>
 Ld (.int .u8) w4 (a3.add 5) fun x13 =>
 Ld (.int .u8) w4 (a3.add 6) fun x14 =>
 Ld (.int .u8) w4 (a3.add 7) fun x15 =>
 Ld (.int .u8) w4 (a3.add 8) fun x16 =>
 Ld (.int .u8) w4 (a3.add 9) fun x17 =>
 Ld (.int .u8) w4 (a3.add 10) fun x18 =>
 Ld (.int .u8) w4 (a3.add 11) fun x19 =>
 Ld (.int .u8) w4 (a3.add 12) fun x20 =>
 Ld (.int .u8) w4 (a3.add 13) fun x21 =>
 Ld (.int .u8) w4 (a3.add 14) fun x22 =>
 Ld (.int .u8) w4 (a3.add 15) fun x23 =>
 Ld (.int .u8) w4 (a5.add 0) fun x24 =>
 Ld (.int .u8) w4 (a5.add 1) fun x25 =>
 Ld (.int .u8) w4 (a5.add 2) fun x26 =>
 Ld (.int .u8) w4 (a5.add 3) fun x27 =>
 Ld (.int .u8) w4 (a5.add 4) fun x28 =>
 Ld (.int .u8) w4 (a5.add 5) fun x29 =>
 Ld (.int .u8) w4 (a5.add 6) fun x30 =>
 Ld (.int .u8) w4 (a5.add 7) fun x31 =>
 Ld (.int .u8) w4 (a5.add 8) fun x32 =>
 Ld (.int .u8) w4 (a5.add 9) fun x33 =>
 Ld (.int .u8) w4 (a5.add 10) fun x34 =>
 Ld (.int .u8) w4 (a5.add 11) fun x35 =>
 Ld (.int .u8) w4 (a5.add 12) fun x36 =>
 Ld (.int .u8) w4 (a5.add 13) fun x37 =>
 Ld (.int .u8) w4 (a5.add 14) fun x38 =>
 Ld (.int .u8) w4 (a5.add 15) fun x39 =>
 (bif (!((x8 == x24) && ((x9 == x25) && ((x10 == x26) && ((x11 == x27) && ((x12 == x28) && ((x13 == x29) && ((x14 == x30) && ((x15 == x31) && ((x16 == x32) && ((x17 == x33) && ((x18 == x34) && ((x19 == x35) && ((x20 == x36) && ((x21 == x37) && ((x22 == x38) && ((x23 == x39) && true))))))))))))))))) then
 (0 : Int) ≤ 0 ∧ 0 < (16 : Int) ∧
 Ld (.int .u8) w4 (a3.add (Int.toNat 0 * 1)) fun x40 =>
 J6 (x40 != 255)
 else
 J6 false))
theorem e_six_Host (a0_0 : Int) (a0_1 : Int) (a0_2 : Int) (a0_3 : Int) (a0_4 : Int) (a0_5 : Int) (a0_6 : Int) (a0_7 : Int) (a0_8 : Int) (a0_9 : Int) (a0_10 : Int) (a0_11 : Int) (a0_12 : Int) (a0_13 : Int) (a0_14 : Int) (a0_15 : Int) (w : World) (K : Bool → World → Prop) : den Try.prog 12 (bodyOf Try.f69) none (.seq .leaf (.seq .leaf (.seq .leaf .leaf))) (argEnv 0 [(Value.agg ⟨[(Value.int .u8 a0_0), (Value.int .u8 a0_1), (Value.int .u8 a0_2), (Value.int .u8 a0_3), (Value.int .u8 a0_4), (Value.int .u8 a0_5), (Value.int .u8 a0_6), (Value.int .u8 a0_7), (Value.int .u8 a0_8), (Value.int .u8 a0_9), (Value.int .u8 a0_10), (Value.int .u8 a0_11), (Value.int .u8 a0_12), (Value.int .u8 a0_13), (Value.int .u8 a0_14), (Value.int .u8 a0_15)]⟩)]) [] w (retK Try.prog [.tmp 2] [.one .bool] K) = s_six_Host a0_0 a0_1 a0_2 a0_3 a0_4 a0_5 a0_6 a0_7 a0_8 a0_9 a0_10 a0_11 a0_12 a0_13 a0_14 a0_15 w K := by kernel_rfl
theorem ok_six_Host {a0_0 a0_1 a0_2 a0_3 a0_4 a0_5 a0_6 a0_7 a0_8 a0_9 a0_10 a0_11 a0_12 a0_13 a0_14 a0_15 w K} (h : s_six_Host a0_0 a0_1 a0_2 a0_3 a0_4 a0_5 a0_6 a0_7 a0_8 a0_9 a0_10 a0_11 a0_12 a0_13 a0_14 a0_15 w K) : c_six_Host a0_0 a0_1 a0_2 a0_3 a0_4 a0_5 a0_6 a0_7 a0_8 a0_9 a0_10 a0_11 a0_12 a0_13 a0_14 a0_15 w K :=
  fn_sound pok Try.func69 (fn := Try.f69) (c := bodyOf Try.f69) (nt := 12) (by kernel_rfl) (by kernel_rfl) (rs := [.tmp 2]) (by kernel_rfl) [.one .bool] K (.seq .leaf (.seq .leaf (.seq .leaf .leaf))) [(Value.agg ⟨[(Value.int .u8 a0_0), (Value.int .u8 a0_1), (Value.int .u8 a0_2), (Value.int .u8 a0_3), (Value.int .u8 a0_4), (Value.int .u8 a0_5), (Value.int .u8 a0_6), (Value.int .u8 a0_7), (Value.int .u8 a0_8), (Value.int .u8 a0_9), (Value.int .u8 a0_10), (Value.int .u8 a0_11), (Value.int .u8 a0_12), (Value.int .u8 a0_13), (Value.int .u8 a0_14), (Value.int .u8 a0_15)]⟩)] (by kernel_rfl) w ((e_six_Host a0_0 a0_1 a0_2 a0_3 a0_4 a0_5 a0_6 a0_7 a0_8 a0_9 a0_10 a0_11 a0_12 a0_13 a0_14 a0_15 w K).mpr h)

/-- goosepond/config.parts$2 -/
def s_config_parts_2 (a0 : Int) (w : World) (K : Bool → World → Prop) : Prop :=
 (c_four_Host a0 w fun r2 w3 =>
 K (!r2) w3)
theorem e_config_parts_2 (a0 : Int) (w : World) (K : Bool → World → Prop) : den Try.prog 6 (bodyOf Try.f70) none (.seq .leaf (.seq .leaf .leaf)) (argEnv 0 [(Value.int .i64 a0)]) [] w (retK Try.prog [.tmp 2] [.one .bool] K) = s_config_parts_2 a0 w K := by kernel_rfl
theorem ok_config_parts_2 {a0 w K} (h : s_config_parts_2 a0 w K) : c_config_parts_2 a0 w K :=
  fn_sound pok Try.func70 (fn := Try.f70) (c := bodyOf Try.f70) (nt := 6) (by kernel_rfl) (by kernel_rfl) (rs := [.tmp 2]) (by kernel_rfl) [.one .bool] K (.seq .leaf (.seq .leaf .leaf)) [(Value.int .i64 a0)] (by kernel_rfl) w ((e_config_parts_2 a0 w K).mpr h)

/-- goosepond/config.parts$3 -/
def s_config_parts_3 (a0_0 : Int) (a0_1 : Int) (a0_2 : Int) (a0_3 : Int) (a0_4 : Int) (a0_5 : Int) (a0_6 : Int) (f0 : Addr) (w : World) (K : Bool → World → Prop) : Prop :=
 (Al w (.cells ⟨[(Value.int .i64 a0_0), (Value.int .i64 a0_1), (Value.int .i64 a0_2), (Value.int .i64 a0_3), (Value.int .i64 a0_4), (Value.int .i64 a0_5), (Value.int .i64 a0_6)]⟩ 112) fun a3 w2 =>
 Ld (.int .u8) w2 (f0.add 0) fun x4 =>
 Ld (.int .u8) w2 (f0.add 1) fun x5 =>
 Ld (.int .u8) w2 (f0.add 2) fun x6 =>
 Ld (.int .u8) w2 (f0.add 3) fun x7 =>
 Ld (.int .u8) w2 (f0.add 4) fun x8 =>
 Ld (.int .u8) w2 (f0.add 5) fun x9 =>
 Ld (.int .u8) w2 (f0.add 6) fun x10 =>
 Ld (.int .u8) w2 (f0.add 7) fun x11 =>
 Ld (.int .u8) w2 (f0.add 8) fun x12 =>
 Ld (.int .u8) w2 (f0.add 9) fun x13 =>
 Ld (.int .u8) w2 (f0.add 10) fun x14 =>
 Ld (.int .u8) w2 (f0.add 11) fun x15 =>
 Ld (.int .u8) w2 (f0.add 12) fun x16 =>
 Ld (.int .u8) w2 (f0.add 13) fun x17 =>
 Ld (.int .u8) w2 (f0.add 14) fun x18 =>
 Ld (.int .u8) w2 (f0.add 15) fun x19 =>
 Ld .slice w2 (f0.add 16) fun x20 =>
 Ld .slice w2 (f0.add 17) fun x21 =>
 Ld (.int .i64) w2 (f0.add 18) fun x22 =>
 Ld (.int .i64) w2 (f0.add 19) fun x23 =>
 Ld (.int .i64) w2 (f0.add 20) fun x24 =>
 Ld (.int .i64) w2 (f0.add 21) fun x25 =>
 Ld (.int .i64) w2 (f0.add 22) fun x26 =>
 Ld (.int .i64) w2 (f0.add 23) fun x27 =>
 Ld (.int .i64) w2 (f0.add 24) fun x28 =>
 Ld (.int .i64) w2 (f0.add 25) fun x29 =>
 Ld (.int .i64) w2 (f0.add 26) fun x30 =>
 Ld (.int .i64) w2 (f0.add 27) fun x31 =>
 Ld (.int .i64) w2 (f0.add 28) fun x32 =>
 Ld (.int .i64) w2 (f0.add 29) fun x33 =>
 Ld (.int .i64) w2 (f0.add 30) fun x34 =>
 Ld (.int .i64) w2 (f0.add 31) fun x35 =>
 Ld (.int .i64) w2 (f0.add 32) fun x36 =>
 Ld (.int .i64) w2 (f0.add 33) fun x37 =>
 Ld (.int .i64) w2 (f0.add 34) fun x38 =>
 Ld .slice w2 (f0.add 35) fun x39 =>
 Ld (.int .i64) w2 (a3.add 0) fun x40 =>
 Ld (.int .i64) w2 (a3.add 1) fun x41 =>
 Ld (.int .i64) w2 (a3.add 2) fun x42 =>
 Ld (.int .i64) w2 (a3.add 3) fun x43 =>
 Ld (.int .i64) w2 (a3.add 4) fun x44 =>
 Ld (.int .i64) w2 (a3.add 5) fun x45 =>
 Ld (.int .i64) w2 (a3.add 6) fun x46 =>
 c_config_told x4 x5 x6 x7 x8 x9 x10 x11 x12 x13 x14 x15 x16 x17 x18 x19 x20 x21 x22 x23 x24 x25 x26 x27 x28 x29 x30 x31 x32 x33 x34 x35 x36 x37 x38 x39 x40 x41 x42 x43 x44 x45 x46 w2 fun r47 w48 =>
 K (!r47) w48)
theorem e_config_parts_3 (a0_0 : Int) (a0_1 : Int) (a0_2 : Int) (a0_3 : Int) (a0_4 : Int) (a0_5 : Int) (a0_6 : Int) (f0 : Addr) (w : World) (K : Bool → World → Prop) : den Try.prog 8 (bodyOf Try.f71) none (.seq .leaf (.seq .leaf .leaf)) (argEnv 0 [(Value.agg ⟨[(Value.int .i64 a0_0), (Value.int .i64 a0_1), (Value.int .i64 a0_2), (Value.int .i64 a0_3), (Value.int .i64 a0_4), (Value.int .i64 a0_5), (Value.int .i64 a0_6)]⟩), (Value.pointer (some f0))]) [] w (retK Try.prog [.tmp 3] [.one .bool] K) = s_config_parts_3 a0_0 a0_1 a0_2 a0_3 a0_4 a0_5 a0_6 f0 w K := by kernel_rfl
theorem ok_config_parts_3 {a0_0 a0_1 a0_2 a0_3 a0_4 a0_5 a0_6 f0 w K} (h : s_config_parts_3 a0_0 a0_1 a0_2 a0_3 a0_4 a0_5 a0_6 f0 w K) : c_config_parts_3 a0_0 a0_1 a0_2 a0_3 a0_4 a0_5 a0_6 f0 w K :=
  fn_sound pok Try.func71 (fn := Try.f71) (c := bodyOf Try.f71) (nt := 8) (by kernel_rfl) (by kernel_rfl) (rs := [.tmp 3]) (by kernel_rfl) [.one .bool] K (.seq .leaf (.seq .leaf .leaf)) [(Value.agg ⟨[(Value.int .i64 a0_0), (Value.int .i64 a0_1), (Value.int .i64 a0_2), (Value.int .i64 a0_3), (Value.int .i64 a0_4), (Value.int .i64 a0_5), (Value.int .i64 a0_6)]⟩), (Value.pointer (some f0))] (by kernel_rfl) w ((e_config_parts_3 a0_0 a0_1 a0_2 a0_3 a0_4 a0_5 a0_6 f0 w K).mpr h)

/-- goosepond/config.told -/
def s_config_told (a0_0 : Int) (a0_1 : Int) (a0_2 : Int) (a0_3 : Int) (a0_4 : Int) (a0_5 : Int) (a0_6 : Int) (a0_7 : Int) (a0_8 : Int) (a0_9 : Int) (a0_10 : Int) (a0_11 : Int) (a0_12 : Int) (a0_13 : Int) (a0_14 : Int) (a0_15 : Int) (a0_16 : SliceV) (a0_17 : SliceV) (a0_18 : Int) (a0_19 : Int) (a0_20 : Int) (a0_21 : Int) (a0_22 : Int) (a0_23 : Int) (a0_24 : Int) (a0_25 : Int) (a0_26 : Int) (a0_27 : Int) (a0_28 : Int) (a0_29 : Int) (a0_30 : Int) (a0_31 : Int) (a0_32 : Int) (a0_33 : Int) (a0_34 : Int) (a0_35 : SliceV) (a1_0 : Int) (a1_1 : Int) (a1_2 : Int) (a1_3 : Int) (a1_4 : Int) (a1_5 : Int) (a1_6 : Int) (w : World) (K : Bool → World → Prop) : Prop :=
 (Al w (.cells ⟨((Value.int .u8 a0_0) :: (Value.int .u8 a0_1) :: (Value.int .u8 a0_2) :: (Value.int .u8 a0_3) :: (Value.int .u8 a0_4) :: (Value.int .u8 a0_5) :: (Value.int .u8 a0_6) :: (Value.int .u8 a0_7) :: (Value.int .u8 a0_8) :: (Value.int .u8 a0_9) :: (Value.int .u8 a0_10) :: (Value.int .u8 a0_11) :: (Value.int .u8 a0_12) :: (Value.int .u8 a0_13) :: (Value.int .u8 a0_14) :: (Value.int .u8 a0_15) :: (Value.slice a0_16.a a0_16.len a0_16.cap) :: (Value.slice a0_17.a a0_17.len a0_17.cap) :: (Value.int .i64 a0_18) :: (Value.int .i64 a0_19) :: (Value.int .i64 a0_20) :: (Value.int .i64 a0_21) :: (Value.int .i64 a0_22) :: (Value.int .i64 a0_23) :: (Value.int .i64 a0_24) :: (Value.int .i64 a0_25) :: (Value.int .i64 a0_26) :: (Value.int .i64 a0_27) :: (Value.int .i64 a0_28) :: (Value.int .i64 a0_29) :: (Value.int .i64 a0_30) :: (Value.int .i64 a0_31) :: (Value.int .i64 a0_32) :: (Value.int .i64 a0_33) :: (Value.int .i64 a0_34) :: (Value.slice a0_35.a a0_35.len a0_35.cap) :: [])⟩ 42) fun a4 w3 =>
 Al w3 (.cells ⟨[(Value.int .i64 a1_0), (Value.int .i64 a1_1), (Value.int .i64 a1_2), (Value.int .i64 a1_3), (Value.int .i64 a1_4), (Value.int .i64 a1_5), (Value.int .i64 a1_6)]⟩ 112) fun a6 w5 =>
 let J7 : Bool → World → Prop := fun j8 w9 =>
 (let J10 : Bool → World → Prop := fun j11 w12 =>
 (let J13 : Bool → World → Prop := fun j14 w15 =>
 (let J16 : Bool → World → Prop := fun j17 w18 =>
 (K j17 w18)
 (bif j8 then
 (bif j11 then
 (bif j14 then
 Ld (.int .i64) w15 a6 fun x19 =>
 Ld .slice w15 (a4.add 16) fun x20 =>
 c_config_bound_ok x19 0 (IntKind.i64.wrap ((x20.len : Int) - 1)) w15 fun r21 w22 =>
 J16 r21 w22
 else
 J16 false w15)
 else
 J16 false w15)
 else
 J16 false w15))
 Ld (.int .i64) w12 (a6.add 1) fun x23 =>
 c_config_proto x23 w12 fun r24 w25 =>
 (bif r24 then
 Ld (.int .i64) w25 (a6.add 1) fun x26 =>
 Ld (.int .i64) w25 (a6.add 4) fun x27 =>
 J13 (x26 == x27) w25
 else
 J13 false w25))
 Ld (.int .i64) w9 (a6.add 2) fun x28 =>
 c_four_Host x28 w9 fun r29 w30 =>
 (bif r29 then
 Ld .slice w30 (a4.add 17) fun x31 =>
 Ld (.int .i64) w30 ((a6.add 4).add 1) fun x32 =>
 c_slices_Contains_int_int x31 x32 w30 fun r33 w34 =>
 J10 r33 w34
 else
 J10 false w30))
 Ld (.int .i64) w5 (a6.add 3) fun x35 =>
 c_config_bound_ok x35 0 65535 w5 fun r36 w37 =>
 (bif r36 then
 Ld (.int .i64) w37 ((a6.add 4).add 2) fun x38 =>
 c_config_bound_ok x38 0 65535 w37 fun r39 w40 =>
 J7 r39 w40
 else
 J7 false w37))
theorem e_config_told (a0_0 : Int) (a0_1 : Int) (a0_2 : Int) (a0_3 : Int) (a0_4 : Int) (a0_5 : Int) (a0_6 : Int) (a0_7 : Int) (a0_8 : Int) (a0_9 : Int) (a0_10 : Int) (a0_11 : Int) (a0_12 : Int) (a0_13 : Int) (a0_14 : Int) (a0_15 : Int) (a0_16 : SliceV) (a0_17 : SliceV) (a0_18 : Int) (a0_19 : Int) (a0_20 : Int) (a0_21 : Int) (a0_22 : Int) (a0_23 : Int) (a0_24 : Int) (a0_25 : Int) (a0_26 : Int) (a0_27 : Int) (a0_28 : Int) (a0_29 : Int) (a0_30 : Int) (a0_31 : Int) (a0_32 : Int) (a0_33 : Int) (a0_34 : Int) (a0_35 : SliceV) (a1_0 : Int) (a1_1 : Int) (a1_2 : Int) (a1_3 : Int) (a1_4 : Int) (a1_5 : Int) (a1_6 : Int) (w : World) (K : Bool → World → Prop) : den Try.prog 63 (bodyOf Try.f72) none (.seq .leaf (.seq .leaf (.seq .leaf (.seq .leaf (.seq .leaf .leaf))))) (argEnv 0 [(Value.agg ⟨((Value.int .u8 a0_0) :: (Value.int .u8 a0_1) :: (Value.int .u8 a0_2) :: (Value.int .u8 a0_3) :: (Value.int .u8 a0_4) :: (Value.int .u8 a0_5) :: (Value.int .u8 a0_6) :: (Value.int .u8 a0_7) :: (Value.int .u8 a0_8) :: (Value.int .u8 a0_9) :: (Value.int .u8 a0_10) :: (Value.int .u8 a0_11) :: (Value.int .u8 a0_12) :: (Value.int .u8 a0_13) :: (Value.int .u8 a0_14) :: (Value.int .u8 a0_15) :: (Value.slice a0_16.a a0_16.len a0_16.cap) :: (Value.slice a0_17.a a0_17.len a0_17.cap) :: (Value.int .i64 a0_18) :: (Value.int .i64 a0_19) :: (Value.int .i64 a0_20) :: (Value.int .i64 a0_21) :: (Value.int .i64 a0_22) :: (Value.int .i64 a0_23) :: (Value.int .i64 a0_24) :: (Value.int .i64 a0_25) :: (Value.int .i64 a0_26) :: (Value.int .i64 a0_27) :: (Value.int .i64 a0_28) :: (Value.int .i64 a0_29) :: (Value.int .i64 a0_30) :: (Value.int .i64 a0_31) :: (Value.int .i64 a0_32) :: (Value.int .i64 a0_33) :: (Value.int .i64 a0_34) :: (Value.slice a0_35.a a0_35.len a0_35.cap) :: [])⟩), (Value.agg ⟨[(Value.int .i64 a1_0), (Value.int .i64 a1_1), (Value.int .i64 a1_2), (Value.int .i64 a1_3), (Value.int .i64 a1_4), (Value.int .i64 a1_5), (Value.int .i64 a1_6)]⟩)]) [] w (retK Try.prog [.tmp 4] [.one .bool] K) = s_config_told a0_0 a0_1 a0_2 a0_3 a0_4 a0_5 a0_6 a0_7 a0_8 a0_9 a0_10 a0_11 a0_12 a0_13 a0_14 a0_15 a0_16 a0_17 a0_18 a0_19 a0_20 a0_21 a0_22 a0_23 a0_24 a0_25 a0_26 a0_27 a0_28 a0_29 a0_30 a0_31 a0_32 a0_33 a0_34 a0_35 a1_0 a1_1 a1_2 a1_3 a1_4 a1_5 a1_6 w K := by kernel_rfl
theorem ok_config_told {a0_0 a0_1 a0_2 a0_3 a0_4 a0_5 a0_6 a0_7 a0_8 a0_9 a0_10 a0_11 a0_12 a0_13 a0_14 a0_15 a0_16 a0_17 a0_18 a0_19 a0_20 a0_21 a0_22 a0_23 a0_24 a0_25 a0_26 a0_27 a0_28 a0_29 a0_30 a0_31 a0_32 a0_33 a0_34 a0_35 a1_0 a1_1 a1_2 a1_3 a1_4 a1_5 a1_6 w K} (h : s_config_told a0_0 a0_1 a0_2 a0_3 a0_4 a0_5 a0_6 a0_7 a0_8 a0_9 a0_10 a0_11 a0_12 a0_13 a0_14 a0_15 a0_16 a0_17 a0_18 a0_19 a0_20 a0_21 a0_22 a0_23 a0_24 a0_25 a0_26 a0_27 a0_28 a0_29 a0_30 a0_31 a0_32 a0_33 a0_34 a0_35 a1_0 a1_1 a1_2 a1_3 a1_4 a1_5 a1_6 w K) : c_config_told a0_0 a0_1 a0_2 a0_3 a0_4 a0_5 a0_6 a0_7 a0_8 a0_9 a0_10 a0_11 a0_12 a0_13 a0_14 a0_15 a0_16 a0_17 a0_18 a0_19 a0_20 a0_21 a0_22 a0_23 a0_24 a0_25 a0_26 a0_27 a0_28 a0_29 a0_30 a0_31 a0_32 a0_33 a0_34 a0_35 a1_0 a1_1 a1_2 a1_3 a1_4 a1_5 a1_6 w K :=
  fn_sound pok Try.func72 (fn := Try.f72) (c := bodyOf Try.f72) (nt := 63) (by kernel_rfl) (by kernel_rfl) (rs := [.tmp 4]) (by kernel_rfl) [.one .bool] K (.seq .leaf (.seq .leaf (.seq .leaf (.seq .leaf (.seq .leaf .leaf))))) [(Value.agg ⟨((Value.int .u8 a0_0) :: (Value.int .u8 a0_1) :: (Value.int .u8 a0_2) :: (Value.int .u8 a0_3) :: (Value.int .u8 a0_4) :: (Value.int .u8 a0_5) :: (Value.int .u8 a0_6) :: (Value.int .u8 a0_7) :: (Value.int .u8 a0_8) :: (Value.int .u8 a0_9) :: (Value.int .u8 a0_10) :: (Value.int .u8 a0_11) :: (Value.int .u8 a0_12) :: (Value.int .u8 a0_13) :: (Value.int .u8 a0_14) :: (Value.int .u8 a0_15) :: (Value.slice a0_16.a a0_16.len a0_16.cap) :: (Value.slice a0_17.a a0_17.len a0_17.cap) :: (Value.int .i64 a0_18) :: (Value.int .i64 a0_19) :: (Value.int .i64 a0_20) :: (Value.int .i64 a0_21) :: (Value.int .i64 a0_22) :: (Value.int .i64 a0_23) :: (Value.int .i64 a0_24) :: (Value.int .i64 a0_25) :: (Value.int .i64 a0_26) :: (Value.int .i64 a0_27) :: (Value.int .i64 a0_28) :: (Value.int .i64 a0_29) :: (Value.int .i64 a0_30) :: (Value.int .i64 a0_31) :: (Value.int .i64 a0_32) :: (Value.int .i64 a0_33) :: (Value.int .i64 a0_34) :: (Value.slice a0_35.a a0_35.len a0_35.cap) :: [])⟩), (Value.agg ⟨[(Value.int .i64 a1_0), (Value.int .i64 a1_1), (Value.int .i64 a1_2), (Value.int .i64 a1_3), (Value.int .i64 a1_4), (Value.int .i64 a1_5), (Value.int .i64 a1_6)]⟩)] (by kernel_rfl) w ((e_config_told a0_0 a0_1 a0_2 a0_3 a0_4 a0_5 a0_6 a0_7 a0_8 a0_9 a0_10 a0_11 a0_12 a0_13 a0_14 a0_15 a0_16 a0_17 a0_18 a0_19 a0_20 a0_21 a0_22 a0_23 a0_24 a0_25 a0_26 a0_27 a0_28 a0_29 a0_30 a0_31 a0_32 a0_33 a0_34 a0_35 a1_0 a1_1 a1_2 a1_3 a1_4 a1_5 a1_6 w K).mpr h)

/-- slices.ContainsFunc[[]goosepond/api.Six,goosepond/api.Six] -/
def s_slices_ContainsFunc_api_Six_api_Six (a0 : SliceV) (a1 : Value) (w : World) (K : Bool → World → Prop) : Prop :=
 (c_slices_IndexFunc_api_Six_api_Six a0 a1 w fun r3 w4 =>
 K (decide (r3 ≥ 0)) w4)
theorem e_slices_ContainsFunc_api_Six_api_Six (a0 : SliceV) (a1 : Value) (w : World) (K : Bool → World → Prop) : den Try.prog 9 (bodyOf Try.f73) none (.seq .leaf (.seq .leaf .leaf)) (argEnv 0 [(Value.slice a0.a a0.len a0.cap), a1]) [] w (retK Try.prog [.tmp 4] [.one .bool] K) = s_slices_ContainsFunc_api_Six_api_Six a0 a1 w K := by kernel_rfl
theorem ok_slices_ContainsFunc_api_Six_api_Six {a0 a1 w K} (h : s_slices_ContainsFunc_api_Six_api_Six a0 a1 w K) : c_slices_ContainsFunc_api_Six_api_Six a0 a1 w K :=
  fn_sound pok Try.func73 (fn := Try.f73) (c := bodyOf Try.f73) (nt := 9) (by kernel_rfl) (by kernel_rfl) (rs := [.tmp 4]) (by kernel_rfl) [.one .bool] K (.seq .leaf (.seq .leaf .leaf)) [(Value.slice a0.a a0.len a0.cap), a1] (by kernel_rfl) w ((e_slices_ContainsFunc_api_Six_api_Six a0 a1 w K).mpr h)

/-- slices.ContainsFunc[[]int,int] -/
def s_slices_ContainsFunc_int_int (a0 : SliceV) (a1 : Value) (w : World) (K : Bool → World → Prop) : Prop :=
 (c_slices_IndexFunc_int_int a0 a1 w fun r3 w4 =>
 K (decide (r3 ≥ 0)) w4)
theorem e_slices_ContainsFunc_int_int (a0 : SliceV) (a1 : Value) (w : World) (K : Bool → World → Prop) : den Try.prog 9 (bodyOf Try.f74) none (.seq .leaf (.seq .leaf .leaf)) (argEnv 0 [(Value.slice a0.a a0.len a0.cap), a1]) [] w (retK Try.prog [.tmp 4] [.one .bool] K) = s_slices_ContainsFunc_int_int a0 a1 w K := by kernel_rfl
theorem ok_slices_ContainsFunc_int_int {a0 a1 w K} (h : s_slices_ContainsFunc_int_int a0 a1 w K) : c_slices_ContainsFunc_int_int a0 a1 w K :=
  fn_sound pok Try.func74 (fn := Try.f74) (c := bodyOf Try.f74) (nt := 9) (by kernel_rfl) (by kernel_rfl) (rs := [.tmp 4]) (by kernel_rfl) [.one .bool] K (.seq .leaf (.seq .leaf .leaf)) [(Value.slice a0.a a0.len a0.cap), a1] (by kernel_rfl) w ((e_slices_ContainsFunc_int_int a0 a1 w K).mpr h)

/-- slices.ContainsFunc[[]goosepond/api.Static,goosepond/api.Static] -/
def s_slices_ContainsFunc_api_Static_api_Static (a0 : SliceV) (a1 : Value) (w : World) (K : Bool → World → Prop) : Prop :=
 (c_slices_IndexFunc_api_Static_api_Static a0 a1 w fun r3 w4 =>
 K (decide (r3 ≥ 0)) w4)
theorem e_slices_ContainsFunc_api_Static_api_Static (a0 : SliceV) (a1 : Value) (w : World) (K : Bool → World → Prop) : den Try.prog 9 (bodyOf Try.f75) none (.seq .leaf (.seq .leaf .leaf)) (argEnv 0 [(Value.slice a0.a a0.len a0.cap), a1]) [] w (retK Try.prog [.tmp 4] [.one .bool] K) = s_slices_ContainsFunc_api_Static_api_Static a0 a1 w K := by kernel_rfl
theorem ok_slices_ContainsFunc_api_Static_api_Static {a0 a1 w K} (h : s_slices_ContainsFunc_api_Static_api_Static a0 a1 w K) : c_slices_ContainsFunc_api_Static_api_Static a0 a1 w K :=
  fn_sound pok Try.func75 (fn := Try.f75) (c := bodyOf Try.f75) (nt := 9) (by kernel_rfl) (by kernel_rfl) (rs := [.tmp 4]) (by kernel_rfl) [.one .bool] K (.seq .leaf (.seq .leaf .leaf)) [(Value.slice a0.a a0.len a0.cap), a1] (by kernel_rfl) w ((e_slices_ContainsFunc_api_Static_api_Static a0 a1 w K).mpr h)

/-- slices.Clone[[]goosepond/api.Six,goosepond/api.Six] -/
def s_slices_Clone_api_Six_api_Six (a0 : SliceV) (w : World) (K : SliceV → World → Prop) : Prop :=
 ((bif (Option.isNone a0.a) then
 K ⟨none, 0, 0⟩ w
 else
 Al w (.cells ⟨[]⟩ 38) fun a3 w2 =>
 AppSl 38 16 16 [(Value.int .u8 0), (Value.int .u8 0), (Value.int .u8 0), (Value.int .u8 0), (Value.int .u8 0), (Value.int .u8 0), (Value.int .u8 0), (Value.int .u8 0), (Value.int .u8 0), (Value.int .u8 0), (Value.int .u8 0), (Value.int .u8 0), (Value.int .u8 0), (Value.int .u8 0), (Value.int .u8 0), (Value.int .u8 0)] ⟨(some a3), 0, 0⟩ a0 w2 fun s4 w5 =>
 K s4 w5))
theorem e_slices_Clone_api_Six_api_Six (a0 : SliceV) (w : World) (K : SliceV → World → Prop) : den Try.prog 8 (bodyOf Try.f76) none (.seq .leaf (.seq (.seq .leaf (.cond (.seq .leaf .leaf) .leaf)) (.seq .leaf .leaf))) (argEnv 0 [(Value.slice a0.a a0.len a0.cap)]) [] w (retK Try.prog [.tmp 2] [.one .slice] K) = s_slices_Clone_api_Six_api_Six a0 w K := by kernel_rfl
theorem ok_slices_Clone_api_Six_api_Six {a0 w K} (h : s_slices_Clone_api_Six_api_Six a0 w K) : c_slices_Clone_api_Six_api_Six a0 w K :=
  fn_sound pok Try.func76 (fn := Try.f76) (c := bodyOf Try.f76) (nt := 8) (by kernel_rfl) (by kernel_rfl) (rs := [.tmp 2]) (by kernel_rfl) [.one .slice] K (.seq .leaf (.seq (.seq .leaf (.cond (.seq .leaf .leaf) .leaf)) (.seq .leaf .leaf))) [(Value.slice a0.a a0.len a0.cap)] (by kernel_rfl) w ((e_slices_Clone_api_Six_api_Six a0 w K).mpr h)

/-- goosepond/config.doubled$1 -/
def s_config_doubled_1 (a0_0 : Int) (a0_1 : Int) (a0_2 : Int) (a0_3 : Int) (a0_4 : Int) (a0_5 : Int) (a0_6 : Int) (w : World) (K : Int → Int → Int → Int → World → Prop) : Prop :=
 (Al w (.cells ⟨[(Value.int .i64 a0_0), (Value.int .i64 a0_1), (Value.int .i64 a0_2), (Value.int .i64 a0_3), (Value.int .i64 a0_4), (Value.int .i64 a0_5), (Value.int .i64 a0_6)]⟩ 112) fun a3 w2 =>
 Al w2 (.cells ⟨[(Value.int .i64 0), (Value.int .i64 0), (Value.int .i64 0), (Value.int .i64 0)]⟩ 59) fun a5 w4 =>
 Ld (.int .i64) w4 (a3.add 0) fun x6 =>
 Ld (.int .i64) w4 (a3.add 1) fun x7 =>
 Ld (.int .i64) w4 (a3.add 2) fun x8 =>
 Ld (.int .i64) w4 (a3.add 3) fun x9 =>
 StN [(Value.int .i64 x6), (Value.int .i64 x7), (Value.int .i64 x8), (Value.int .i64 x9)] w4 a5 0 fun w10 =>
 Ld (.int .i64) w10 (a5.add 0) fun y11 =>
 Ld (.int .i64) w10 (a5.add 1) fun y12 =>
 Ld (.int .i64) w10 (a5.add 2) fun y13 =>
 Ld (.int .i64) w10 (a5.add 3) fun y14 =>
 K y11 y12 y13 y14 w10)
theorem e_config_doubled_1 (a0_0 : Int) (a0_1 : Int) (a0_2 : Int) (a0_3 : Int) (a0_4 : Int) (a0_5 : Int) (a0_6 : Int) (w : World) (K : Int → Int → Int → Int → World → Prop) : den Try.prog 5 (bodyOf Try.f77) none (.seq .leaf (.seq .leaf .leaf)) (argEnv 0 [(Value.agg ⟨[(Value.int .i64 a0_0), (Value.int .i64 a0_1), (Value.int .i64 a0_2), (Value.int .i64 a0_3), (Value.int .i64 a0_4), (Value.int .i64 a0_5), (Value.int .i64 a0_6)]⟩)]) [] w (retK Try.prog [.cell 2 59] [.agg [(.int .i64), (.int .i64), (.int .i64), (.int .i64)]] K) = s_config_doubled_1 a0_0 a0_1 a0_2 a0_3 a0_4 a0_5 a0_6 w K := by kernel_rfl
theorem ok_config_doubled_1 {a0_0 a0_1 a0_2 a0_3 a0_4 a0_5 a0_6 w K} (h : s_config_doubled_1 a0_0 a0_1 a0_2 a0_3 a0_4 a0_5 a0_6 w K) : c_config_doubled_1 a0_0 a0_1 a0_2 a0_3 a0_4 a0_5 a0_6 w K :=
  fn_sound pok Try.func77 (fn := Try.f77) (c := bodyOf Try.f77) (nt := 5) (by kernel_rfl) (by kernel_rfl) (rs := [.cell 2 59]) (by kernel_rfl) [.agg [(.int .i64), (.int .i64), (.int .i64), (.int .i64)]] K (.seq .leaf (.seq .leaf .leaf)) [(Value.agg ⟨[(Value.int .i64 a0_0), (Value.int .i64 a0_1), (Value.int .i64 a0_2), (Value.int .i64 a0_3), (Value.int .i64 a0_4), (Value.int .i64 a0_5), (Value.int .i64 a0_6)]⟩)] (by kernel_rfl) w ((e_config_doubled_1 a0_0 a0_1 a0_2 a0_3 a0_4 a0_5 a0_6 w K).mpr h)

/-- goosepond/config.doubled$2 -/
def s_config_doubled_2 (a0_0 : Int) (a0_1 : Int) (a0_2 : Int) (a0_3 : Int) (a0_4 : Int) (a0_5 : Int) (a0_6 : Int) (w : World) (K : Int → Int → Int → World → Prop) : Prop :=
 (Al w (.cells ⟨[(Value.int .i64 a0_0), (Value.int .i64 a0_1), (Value.int .i64 a0_2), (Value.int .i64 a0_3), (Value.int .i64 a0_4), (Value.int .i64 a0_5), (Value.int .i64 a0_6)]⟩ 112) fun a3 w2 =>
 Al w2 (.cells ⟨[(Value.int .i64 0), (Value.int .i64 0), (Value.int .i64 0)]⟩ 32) fun a5 w4 =>
 Ld (.int .i64) w4 ((a3.add 4).add 0) fun x6 =>
 Ld (.int .i64) w4 ((a3.add 4).add 1) fun x7 =>
 Ld (.int .i64) w4 ((a3.add 4).add 2) fun x8 =>
 StN [(Value.int .i64 x6), (Value.int .i64 x7), (Value.int .i64 x8)] w4 a5 0 fun w9 =>
 Ld (.int .i64) w9 (a5.add 0) fun y10 =>
 Ld (.int .i64) w9 (a5.add 1) fun y11 =>
 Ld (.int .i64) w9 (a5.add 2) fun y12 =>
 K y10 y11 y12 w9)
theorem e_config_doubled_2 (a0_0 : Int) (a0_1 : Int) (a0_2 : Int) (a0_3 : Int) (a0_4 : Int) (a0_5 : Int) (a0_6 : Int) (w : World) (K : Int → Int → Int → World → Prop) : den Try.prog 5 (bodyOf Try.f78) none (.seq .leaf (.seq .leaf .leaf)) (argEnv 0 [(Value.agg ⟨[(Value.int .i64 a0_0), (Value.int .i64 a0_1), (Value.int .i64 a0_2), (Value.int .i64 a0_3), (Value.int .i64 a0_4), (Value.int .i64 a0_5), (Value.int .i64 a0_6)]⟩)]) [] w (retK Try.prog [.cell 2 32] [.agg [(.int .i64), (.int .i64), (.int .i64)]] K) = s_config_doubled_2 a0_0 a0_1 a0_2 a0_3 a0_4 a0_5 a0_6 w K := by kernel_rfl
theorem ok_config_doubled_2 {a0_0 a0_1 a0_2 a0_3 a0_4 a0_5 a0_6 w K} (h : s_config_doubled_2 a0_0 a0_1 a0_2 a0_3 a0_4 a0_5 a0_6 w K) : c_config_doubled_2 a0_0 a0_1 a0_2 a0_3 a0_4 a0_5 a0_6 w K :=
  fn_sound pok Try.func78 (fn := Try.f78) (c := bodyOf Try.f78) (nt := 5) (by kernel_rfl) (by kernel_rfl) (rs := [.cell 2 32]) (by kernel_rfl) [.agg [(.int .i64), (.int .i64), (.int .i64)]] K (.seq .leaf (.seq .leaf .leaf)) [(Value.agg ⟨[(Value.int .i64 a0_0), (Value.int .i64 a0_1), (Value.int .i64 a0_2), (Value.int .i64 a0_3), (Value.int .i64 a0_4), (Value.int .i64 a0_5), (Value.int .i64 a0_6)]⟩)] (by kernel_rfl) w ((e_config_doubled_2 a0_0 a0_1 a0_2 a0_3 a0_4 a0_5 a0_6 w K).mpr h)

/-- goosepond/config.twice[goosepond/api.Six] -/
def s_config_twice_api_Six (a0 : Value) (w : World) (K : Bool → World → Prop) : Prop :=
 (Al w (.cells ⟨[(Value.bool false)]⟩ 4) fun a3 w2 =>
 Al w2 (.map #[] 0) fun a5 w4 =>
 Al w4 (.cells ⟨[(Value.map none)]⟩ 145) fun a7 w6 =>
 St w6 a7 (Value.map (some w2.heap.size)) fun w8 =>
 RngP Try.prog none [.agg [(.int .u8), (.int .u8), (.int .u8), (.int .u8), (.int .u8), (.int .u8), (.int .u8), (.int .u8), (.int .u8), (.int .u8), (.int .u8), (.int .u8), (.int .u8), (.int .u8), (.int .u8), (.int .u8)]] a0 w8 (fun l9 x10 W11 Kb12 =>
 Al W11 (.cells ⟨[(Value.int .u8 0), (Value.int .u8 0), (Value.int .u8 0), (Value.int .u8 0), (Value.int .u8 0), (Value.int .u8 0), (Value.int .u8 0), (Value.int .u8 0), (Value.int .u8 0), (Value.int .u8 0), (Value.int .u8 0), (Value.int .u8 0), (Value.int .u8 0), (Value.int .u8 0), (Value.int .u8 0), (Value.int .u8 0)]⟩ 38) fun a14 w13 =>
 StN [(Value.int .u8 x10.1.1), (Value.int .u8 x10.1.2.1), (Value.int .u8 x10.1.2.2.1), (Value.int .u8 x10.1.2.2.2.1), (Value.int .u8 x10.1.2.2.2.2.1), (Value.int .u8 x10.1.2.2.2.2.2.1), (Value.int .u8 x10.1.2.2.2.2.2.2.1), (Value.int .u8 x10.1.2.2.2.2.2.2.2.1), (Value.int .u8 x10.1.2.2.2.2.2.2.2.2.1), (Value.int .u8 x10.1.2.2.2.2.2.2.2.2.2.1), (Value.int .u8 x10.1.2.2.2.2.2.2.2.2.2.2.1), (Value.int .u8 x10.1.2.2.2.2.2.2.2.2.2.2.2.1), (Value.int .u8 x10.1.2.2.2.2.2.2.2.2.2.2.2.2.1), (Value.int .u8 x10.1.2.2.2.2.2.2.2.2.2.2.2.2.2.1), (Value.int .u8 x10.1.2.2.2.2.2.2.2.2.2.2.2.2.2.2.1), (Value.int .u8 x10.1.2.2.2.2.2.2.2.2.2.2.2.2.2.2.2.1)] w13 a14 0 fun w15 =>
 w15.heap[l9]? = W11.heap[l9]? ∧
 Ld .map (busyW w15 l9) a7 fun x16 =>
 Ld (.int .u8) (busyW w15 l9) (a14.add 0) fun x17 =>
 Ld (.int .u8) (busyW w15 l9) (a14.add 1) fun x18 =>
 Ld (.int .u8) (busyW w15 l9) (a14.add 2) fun x19 =>
 Ld (.int .u8) (busyW w15 l9) (a14.add 3) fun x20 =>
 Ld (.int .u8) (busyW w15 l9) (a14.add 4) fun x21 =>
 Ld (.int .u8) (busyW w15 l9) (a14.add 5) fun x22 =>
 Ld (.int .u8) (busyW w15 l9) (a14.add 6) fun x23 =>
 Ld (.int .u8) (busyW w15 l9) (a14.add 7) fun x24 =>
 Ld (.int .u8) (busyW w15 l9) (a14.add 8) fun x25 =>
 Ld (.int .u8) (busyW w15 l9) (a14.add 9) fun x26 =>
 Ld (.int .u8) (busyW w15 l9) (a14.add 10) fun x27 =>
 Ld (.int .u8) (busyW w15 l9) (a14.add 11) fun x28 =>
 Ld (.int .u8) (busyW w15 l9) (a14.add 12) fun x29 =>
 Ld (.int .u8) (busyW w15 l9) (a14.add 13) fun x30 =>
 Ld (.int .u8) (busyW w15 l9) (a14.add 14) fun x31 =>
 Ld (.int .u8) (busyW w15 l9) (a14.add 15) fun x32 =>
 MapGet Try.prog 38 .bool x16 (Value.agg ⟨[(Value.int .u8 x17), (Value.int .u8 x18), (Value.int .u8 x19), (Value.int .u8 x20), (Value.int .u8 x21), (Value.int .u8 x22), (Value.int .u8 x23), (Value.int .u8 x24), (Value.int .u8 x25), (Value.int .u8 x26), (Value.int .u8 x27), (Value.int .u8 x28), (Value.int .u8 x29), (Value.int .u8 x30), (Value.int .u8 x31), (Value.int .u8 x32)]⟩) (Value.bool false) (busyW w15 l9) fun x33 =>
 (bif x33 then
 St (busyW w15 l9) a3 (Value.bool true) fun w34 =>
 Kb12 .ret w34
 else
 Ld .map (busyW w15 l9) a7 fun x35 =>
 Ld (.int .u8) (busyW w15 l9) (a14.add 0) fun x36 =>
 Ld (.int .u8) (busyW w15 l9) (a14.add 1) fun x37 =>
 Ld (.int .u8) (busyW w15 l9) (a14.add 2) fun x38 =>
 Ld (.int .u8) (busyW w15 l9) (a14.add 3) fun x39 =>
 Ld (.int .u8) (busyW w15 l9) (a14.add 4) fun x40 =>
 Ld (.int .u8) (busyW w15 l9) (a14.add 5) fun x41 =>
 Ld (.int .u8) (busyW w15 l9) (a14.add 6) fun x42 =>
 Ld (.int .u8) (busyW w15 l9) (a14.add 7) fun x43 =>
 Ld (.int .u8) (busyW w15 l9) (a14.add 8) fun x44 =>
 Ld (.int .u8) (busyW w15 l9) (a14.add 9) fun x45 =>
 Ld (.int .u8) (busyW w15 l9) (a14.add 10) fun x46 =>
 Ld (.int .u8) (busyW w15 l9) (a14.add 11) fun x47 =>
 Ld (.int .u8) (busyW w15 l9) (a14.add 12) fun x48 =>
 Ld (.int .u8) (busyW w15 l9) (a14.add 13) fun x49 =>
 Ld (.int .u8) (busyW w15 l9) (a14.add 14) fun x50 =>
 Ld (.int .u8) (busyW w15 l9) (a14.add 15) fun x51 =>
 MapSet Try.prog 38 x35 (Value.agg ⟨[(Value.int .u8 x36), (Value.int .u8 x37), (Value.int .u8 x38), (Value.int .u8 x39), (Value.int .u8 x40), (Value.int .u8 x41), (Value.int .u8 x42), (Value.int .u8 x43), (Value.int .u8 x44), (Value.int .u8 x45), (Value.int .u8 x46), (Value.int .u8 x47), (Value.int .u8 x48), (Value.int .u8 x49), (Value.int .u8 x50), (Value.int .u8 x51)]⟩) (Value.bool true) (busyW w15 l9) fun w52 =>
 Kb12 .normal w52))
 (fun w53 =>
 St w53 a3 (Value.bool false) fun w54 =>
 w54.heap[w8.heap.size]? = some (.deferred (some [])) ∧
 Ld .bool (w54.putObj w8.heap.size (.deferred none)) a3 fun y55 =>
 K y55 (w54.putObj w8.heap.size (.deferred none)))
 (fun w56 =>
 w56.heap[w8.heap.size]? = some (.deferred (some [])) ∧
 Ld .bool (w56.putObj w8.heap.size (.deferred none)) a3 fun y57 =>
 K y57 (w56.putObj w8.heap.size (.deferred none)))
 [])
theorem e_config_twice_api_Six (a0 : Value) (w : World) (K : Bool → World → Prop) : den Try.prog 13 (bodyOf Try.f79) none (.seq .leaf (.seq .leaf (.seq (.seq .leaf (.blk (.rng [.agg [(.int .u8), (.int .u8), (.int .u8), (.int .u8), (.int .u8), (.int .u8), (.int .u8), (.int .u8), (.int .u8), (.int .u8), (.int .u8), (.int .u8), (.int .u8), (.int .u8), (.int .u8), (.int .u8)]] .leaf (.blk (.seq (.seq .leaf (.cond (.seq .leaf .leaf) .leaf)) .leaf))))) (.seq .leaf .leaf)))) (argEnv 0 [a0]) [] w (retK Try.prog [.cell 2 4] [.one .bool] K) = s_config_twice_api_Six a0 w K := by kernel_rfl
theorem ok_config_twice_api_Six {a0 w K} (h : s_config_twice_api_Six a0 w K) : c_config_twice_api_Six a0 w K :=
  fn_sound pok Try.func79 (fn := Try.f79) (c := bodyOf Try.f79) (nt := 13) (by kernel_rfl) (by kernel_rfl) (rs := [.cell 2 4]) (by kernel_rfl) [.one .bool] K (.seq .leaf (.seq .leaf (.seq (.seq .leaf (.blk (.rng [.agg [(.int .u8), (.int .u8), (.int .u8), (.int .u8), (.int .u8), (.int .u8), (.int .u8), (.int .u8), (.int .u8), (.int .u8), (.int .u8), (.int .u8), (.int .u8), (.int .u8), (.int .u8), (.int .u8)]] .leaf (.blk (.seq (.seq .leaf (.cond (.seq .leaf .leaf) .leaf)) .leaf))))) (.seq .leaf .leaf)))) [a0] (by kernel_rfl) w ((e_config_twice_api_Six a0 w K).mpr h)

/-- goosepond/config.each[goosepond/api.Six,goosepond/api.Six] -/
def s_config_each_api_Six_api_Six (a0 : SliceV) (a1 : Value) (w : World) (K : Value → World → Prop) : Prop :=
 (isOne (Value.slice a0.a a0.len a0.cap) = true ∧
 Al w (.cells ⟨[(Value.slice a0.a a0.len a0.cap)]⟩ 39) fun a4 w3 =>
 isOne a1 = true ∧
 Al w3 (.cells ⟨[a1]⟩ 125) fun a6 w5 =>
 K (Value.func (.func 108) #[] #[(Value.pointer (some a4)), (Value.pointer (some a6))]) w5)
theorem e_config_each_api_Six_api_Six (a0 : SliceV) (a1 : Value) (w : World) (K : Value → World → Prop) : den Try.prog 6 (bodyOf Try.f80) none (.seq .leaf (.seq .leaf .leaf)) (argEnv 0 [(Value.slice a0.a a0.len a0.cap), a1]) [] w (retK Try.prog [.tmp 4] [.one .any] K) = s_config_each_api_Six_api_Six a0 a1 w K := by kernel_rfl
theorem ok_config_each_api_Six_api_Six {a0 a1 w K} (h : s_config_each_api_Six_api_Six a0 a1 w K) : c_config_each_api_Six_api_Six a0 a1 w K :=
  fn_sound pok Try.func80 (fn := Try.f80) (c := bodyOf Try.f80) (nt := 6) (by kernel_rfl) (by kernel_rfl) (rs := [.tmp 4]) (by kernel_rfl) [.one .any] K (.seq .leaf (.seq .leaf .leaf)) [(Value.slice a0.a a0.len a0.cap), a1] (by kernel_rfl) w ((e_config_each_api_Six_api_Six a0 a1 w K).mpr h)

/-- goosepond/config.itself[goosepond/api.Six] -/
def s_config_itself_api_Six (a0_0 : Int) (a0_1 : Int) (a0_2 : Int) (a0_3 : Int) (a0_4 : Int) (a0_5 : Int) (a0_6 : Int) (a0_7 : Int) (a0_8 : Int) (a0_9 : Int) (a0_10 : Int) (a0_11 : Int) (a0_12 : Int) (a0_13 : Int) (a0_14 : Int) (a0_15 : Int) (w : World) (K : Int → Int → Int → Int → Int → Int → Int → Int → Int → Int → Int → Int → Int → Int → Int → Int → World → Prop) : Prop :=
 (Al w (.cells ⟨[(Value.int .u8 a0_0), (Value.int .u8 a0_1), (Value.int .u8 a0_2), (Value.int .u8 a0_3), (Value.int .u8 a0_4), (Value.int .u8 a0_5), (Value.int .u8 a0_6), (Value.int .u8 a0_7), (Value.int .u8 a0_8), (Value.int .u8 a0_9), (Value.int .u8 a0_10), (Value.int .u8 a0_11), (Value.int .u8 a0_12), (Value.int .u8 a0_13), (Value.int .u8 a0_14), (Value.int .u8 a0_15)]⟩ 38) fun a3 w2 =>
 Al w2 (.cells ⟨[(Value.int .u8 0), (Value.int .u8 0), (Value.int .u8 0), (Value.int .u8 0), (Value.int .u8 0), (Value.int .u8 0), (Value.int .u8 0), (Value.int .u8 0), (Value.int .u8 0), (Value.int .u8 0), (Value.int .u8 0), (Value.int .u8 0), (Value.int .u8 0), (Value.int .u8 0), (Value.int .u8 0), (Value.int .u8 0)]⟩ 38) fun a5 w4 =>
 Ld (.int .u8) w4 (a3.add 0) fun x6 =>
 Ld (.int .u8) w4 (a3.add 1) fun x7 =>
 Ld (.int .u8) w4 (a3.add 2) fun x8 =>
 Ld (.int .u8) w4 (a3.add 3) fun x9 =>
 Ld (.int .u8) w4 (a3.add 4) fun x10 =>
 Ld (.int .u8) w4 (a3.add 5) fun x11 =>
 Ld (.int .u8) w4 (a3.add 6) fun x12 =>
 Ld (.int .u8) w4 (a3.add 7) fun x13 =>
 Ld (.int .u8) w4 (a3.add 8) fun x14 =>
 Ld (.int .u8) w4 (a3.add 9) fun x15 =>
 Ld (.int .u8) w4 (a3.add 10) fun x16 =>
 Ld (.int .u8) w4 (a3.add 11) fun x17 =>
 Ld (.int .u8) w4 (a3.add 12) fun x18 =>
 Ld (.int .u8) w4 (a3.add 13) fun x19 =>
 Ld (.int .u8) w4 (a3.add 14) fun x20 =>
 Ld (.int .u8) w4 (a3.add 15) fun x21 =>
 StN [(Value.int .u8 x6), (Value.int .u8 x7), (Value.int .u8 x8), (Value.int .u8 x9), (Value.int .u8 x10), (Value.int .u8 x11), (Value.int .u8 x12), (Value.int .u8 x13), (Value.int .u8 x14), (Value.int .u8 x15), (Value.int .u8 x16), (Value.int .u8 x17), (Value.int .u8 x18), (Value.int .u8 x19), (Value.int .u8 x20), (Value.int .u8 x21)] w4 a5 0 fun w22 =>
 Ld (.int .u8) w22 (a5.add 0) fun y23 =>
 Ld (.int .u8) w22 (a5.add 1) fun y24 =>
 Ld (.int .u8) w22 (a5.add 2) fun y25 =>
 Ld (.int .u8) w22 (a5.add 3) fun y26 =>
 Ld (.int .u8) w22 (a5.add 4) fun y27 =>
 Ld (.int .u8) w22 (a5.add 5) fun y28 =>
 Ld (.int .u8) w22 (a5.add 6) fun y29 =>
 Ld (.int .u8) w22 (a5.add 7) fun y30 =>
 Ld (.int .u8) w22 (a5.add 8) fun y31 =>
 Ld (.int .u8) w22 (a5.add 9) fun y32 =>
 Ld (.int .u8) w22 (a5.add 10) fun y33 =>
 Ld (.int .u8) w22 (a5.add 11) fun y34 =>
 Ld (.int .u8) w22 (a5.add 12) fun y35 =>
 Ld (.int .u8) w22 (a5.add 13) fun y36 =>
 Ld (.int .u8) w22 (a5.add 14) fun y37 =>
 Ld (.int .u8) w22 (a5.add 15) fun y38 =>
 K y23 y24 y25 y26 y27 y28 y29 y30 y31 y32 y33 y34 y35 y36 y37 y38 w22)
theorem e_config_itself_api_Six (a0_0 : Int) (a0_1 : Int) (a0_2 : Int) (a0_3 : Int) (a0_4 : Int) (a0_5 : Int) (a0_6 : Int) (a0_7 : Int) (a0_8 : Int) (a0_9 : Int) (a0_10 : Int) (a0_11 : Int) (a0_12 : Int) (a0_13 : Int) (a0_14 : Int) (a0_15 : Int) (w : World) (K : Int → Int → Int → Int → Int → Int → Int → Int → Int → Int → Int → Int → Int → Int → Int → Int → World → Prop) : den Try.prog 4 (bodyOf Try.f81) none (.seq .leaf (.seq .leaf .leaf)) (argEnv 0 [(Value.agg ⟨[(Value.int .u8 a0_0), (Value.int .u8 a0_1), (Value.int .u8 a0_2), (Value.int .u8 a0_3), (Value.int .u8 a0_4), (Value.int .u8 a0_5), (Value.int .u8 a0_6), (Value.int .u8 a0_7), (Value.int .u8 a0_8), (Value.int .u8 a0_9), (Value.int .u8 a0_10), (Value.int .u8 a0_11), (Value.int .u8 a0_12), (Value.int .u8 a0_13), (Value.int .u8 a0_14), (Value.int .u8 a0_15)]⟩)]) [] w (retK Try.prog [.cell 2 38] [.agg [(.int .u8), (.int .u8), (.int .u8), (.int .u8), (.int .u8), (.int .u8), (.int .u8), (.int .u8), (.int .u8), (.int .u8), (.int .u8), (.int .u8), (.int .u8), (.int .u8), (.int .u8), (.int .u8)]] K) = s_config_itself_api_Six a0_0 a0_1 a0_2 a0_3 a0_4 a0_5 a0_6 a0_7 a0_8 a0_9 a0_10 a0_11 a0_12 a0_13 a0_14 a0_15 w K := by kernel_rfl
theorem ok_config_itself_api_Six {a0_0 a0_1 a0_2 a0_3 a0_4 a0_5 a0_6 a0_7 a0_8 a0_9 a0_10 a0_11 a0_12 a0_13 a0_14 a0_15 w K} (h : s_config_itself_api_Six a0_0 a0_1 a0_2 a0_3 a0_4 a0_5 a0_6 a0_7 a0_8 a0_9 a0_10 a0_11 a0_12 a0_13 a0_14 a0_15 w K) : c_config_itself_api_Six a0_0 a0_1 a0_2 a0_3 a0_4 a0_5 a0_6 a0_7 a0_8 a0_9 a0_10 a0_11 a0_12 a0_13 a0_14 a0_15 w K :=
  fn_sound pok Try.func81 (fn := Try.f81) (c := bodyOf Try.f81) (nt := 4) (by kernel_rfl) (by kernel_rfl) (rs := [.cell 2 38]) (by kernel_rfl) [.agg [(.int .u8), (.int .u8), (.int .u8), (.int .u8), (.int .u8), (.int .u8), (.int .u8), (.int .u8), (.int .u8), (.int .u8), (.int .u8), (.int .u8), (.int .u8), (.int .u8), (.int .u8), (.int .u8)]] K (.seq .leaf (.seq .leaf .leaf)) [(Value.agg ⟨[(Value.int .u8 a0_0), (Value.int .u8 a0_1), (Value.int .u8 a0_2), (Value.int .u8 a0_3), (Value.int .u8 a0_4), (Value.int .u8 a0_5), (Value.int .u8 a0_6), (Value.int .u8 a0_7), (Value.int .u8 a0_8), (Value.int .u8 a0_9), (Value.int .u8 a0_10), (Value.int .u8 a0_11), (Value.int .u8 a0_12), (Value.int .u8 a0_13), (Value.int .u8 a0_14), (Value.int .u8 a0_15)]⟩)] (by kernel_rfl) w ((e_config_itself_api_Six a0_0 a0_1 a0_2 a0_3 a0_4 a0_5 a0_6 a0_7 a0_8 a0_9 a0_10 a0_11 a0_12 a0_13 a0_14 a0_15 w K).mpr h)

/-- goosepond/config.twice[int] -/
def s_config_twice_int (a0 : Value) (w : World) (K : Bool → World → Prop) : Prop :=
 (Al w (.cells ⟨[(Value.bool false)]⟩ 4) fun a3 w2 =>
 Al w2 (.map #[] 0) fun a5 w4 =>
 Al w4 (.cells ⟨[(Value.map none)]⟩ 29) fun a7 w6 =>
 St w6 a7 (Value.map (some w2.heap.size)) fun w8 =>
 RngP Try.prog none [.one (.int .i64)] a0 w8 (fun l9 x10 W11 Kb12 =>
 W11.heap[l9]? = W11.heap[l9]? ∧
 Ld .map (busyW W11 l9) a7 fun x13 =>
 MapGet Try.prog 3 .bool x13 (Value.int .i64 x10.1) (Value.bool false) (busyW W11 l9) fun x14 =>
 (bif x14 then
 St (busyW W11 l9) a3 (Value.bool true) fun w15 =>
 Kb12 .ret w15
 else
 Ld .map (busyW W11 l9) a7 fun x16 =>
 MapSet Try.prog 3 x16 (Value.int .i64 x10.1) (Value.bool true) (busyW W11 l9) fun w17 =>
 Kb12 .normal w17))
 (fun w18 =>
 St w18 a3 (Value.bool false) fun w19 =>
 w19.heap[w8.heap.size]? = some (.deferred (some [])) ∧
 Ld .bool (w19.putObj w8.heap.size (.deferred none)) a3 fun y20 =>
 K y20 (w19.putObj w8.heap.size (.deferred none)))
 (fun w21 =>
 w21.heap[w8.heap.size]? = some (.deferred (some [])) ∧
 Ld .bool (w21.putObj w8.heap.size (.deferred none)) a3 fun y22 =>
 K y22 (w21.putObj w8.heap.size (.deferred none)))
 [])
theorem e_config_twice_int (a0 : Value) (w : World) (K : Bool → World → Prop) : den Try.prog 13 (bodyOf Try.f82) none (.seq .leaf (.seq .leaf (.seq (.seq .leaf (.blk (.rng [.one (.int .i64)] .leaf (.blk (.seq (.seq .leaf (.cond (.seq .leaf .leaf) .leaf)) .leaf))))) (.seq .leaf .leaf)))) (argEnv 0 [a0]) [] w (retK Try.prog [.cell 2 4] [.one .bool] K) = s_config_twice_int a0 w K := by kernel_rfl
theorem ok_config_twice_int {a0 w K} (h : s_config_twice_int a0 w K) : c_config_twice_int a0 w K :=
  fn_sound pok Try.func82 (fn := Try.f82) (c := bodyOf Try.f82) (nt := 13) (by kernel_rfl) (by kernel_rfl) (rs := [.cell 2 4]) (by kernel_rfl) [.one .bool] K (.seq .leaf (.seq .leaf (.seq (.seq .leaf (.blk (.rng [.one (.int .i64)] .leaf (.blk (.seq (.seq .leaf (.cond (.seq .leaf .leaf) .leaf)) .leaf))))) (.seq .leaf .leaf)))) [a0] (by kernel_rfl) w ((e_config_twice_int a0 w K).mpr h)

/-- goosepond/config.each[int,int] -/
def s_config_each_int_int (a0 : SliceV) (a1 : Value) (w : World) (K : Value → World → Prop) : Prop :=
 (isOne (Value.slice a0.a a0.len a0.cap) = true ∧
 Al w (.cells ⟨[(Value.slice a0.a a0.len a0.cap)]⟩ 28) fun a4 w3 =>
 isOne a1 = true ∧
 Al w3 (.cells ⟨[a1]⟩ 128) fun a6 w5 =>
 K (Value.func (.func 109) #[] #[(Value.pointer (some a4)), (Value.pointer (some a6))]) w5)
theorem e_config_each_int_int (a0 : SliceV) (a1 : Value) (w : World) (K : Value → World → Prop) : den Try.prog 6 (bodyOf Try.f83) none (.seq .leaf (.seq .leaf .leaf)) (argEnv 0 [(Value.slice a0.a a0.len a0.cap), a1]) [] w (retK Try.prog [.tmp 4] [.one .any] K) = s_config_each_int_int a0 a1 w K := by kernel_rfl
theorem ok_config_each_int_int {a0 a1 w K} (h : s_config_each_int_int a0 a1 w K) : c_config_each_int_int a0 a1 w K :=
  fn_sound pok Try.func83 (fn := Try.f83) (c := bodyOf Try.f83) (nt := 6) (by kernel_rfl) (by kernel_rfl) (rs := [.tmp 4]) (by kernel_rfl) [.one .any] K (.seq .leaf (.seq .leaf .leaf)) [(Value.slice a0.a a0.len a0.cap), a1] (by kernel_rfl) w ((e_config_each_int_int a0 a1 w K).mpr h)

/-- goosepond/config.itself[int] -/
def s_config_itself_int (a0 : Int) (w : World) (K : Int → World → Prop) : Prop :=
 (K a0 w)
theorem e_config_itself_int (a0 : Int) (w : World) (K : Int → World → Prop) : den Try.prog 4 (bodyOf Try.f84) none (.seq .leaf (.seq .leaf .leaf)) (argEnv 0 [(Value.int .i64 a0)]) [] w (retK Try.prog [.tmp 2] [.one (.int .i64)] K) = s_config_itself_int a0 w K := by kernel_rfl
theorem ok_config_itself_int {a0 w K} (h : s_config_itself_int a0 w K) : c_config_itself_int a0 w K :=
  fn_sound pok Try.func84 (fn := Try.f84) (c := bodyOf Try.f84) (nt := 4) (by kernel_rfl) (by kernel_rfl) (rs := [.tmp 2]) (by kernel_rfl) [.one (.int .i64)] K (.seq .leaf (.seq .leaf .leaf)) [(Value.int .i64 a0)] (by kernel_rfl) w ((e_config_itself_int a0 w K).mpr h)

/-- goosepond/config.twice[goosepond/api.Inner] -/
def s_config_twice_api_Inner (a0 : Value) (w : World) (K : Bool → World → Prop) : Prop :=
 (Al w (.cells ⟨[(Value.bool false)]⟩ 4) fun a3 w2 =>
 Al w2 (.map #[] 0) fun a5 w4 =>
 Al w4 (.cells ⟨[(Value.map none)]⟩ 135) fun a7 w6 =>
 St w6 a7 (Value.map (some w2.heap.size)) fun w8 =>
 RngP Try.prog none [.agg [(.int .i64), (.int .i64), (.int .i64), (.int .i64)]] a0 w8 (fun l9 x10 W11 Kb12 =>
 Al W11 (.cells ⟨[(Value.int .i64 0), (Value.int .i64 0), (Value.int .i64 0), (Value.int .i64 0)]⟩ 59) fun a14 w13 =>
 StN [(Value.int .i64 x10.1.1), (Value.int .i64 x10.1.2.1), (Value.int .i64 x10.1.2.2.1), (Value.int .i64 x10.1.2.2.2.1)] w13 a14 0 fun w15 =>
 w15.heap[l9]? = W11.heap[l9]? ∧
 Ld .map (busyW w15 l9) a7 fun x16 =>
 Ld (.int .i64) (busyW w15 l9) (a14.add 0) fun x17 =>
 Ld (.int .i64) (busyW w15 l9) (a14.add 1) fun x18 =>
 Ld (.int .i64) (busyW w15 l9) (a14.add 2) fun x19 =>
 Ld (.int .i64) (busyW w15 l9) (a14.add 3) fun x20 =>
 MapGet Try.prog 59 .bool x16 (Value.agg ⟨[(Value.int .i64 x17), (Value.int .i64 x18), (Value.int .i64 x19), (Value.int .i64 x20)]⟩) (Value.bool false) (busyW w15 l9) fun x21 =>
 (bif x21 then
 St (busyW w15 l9) a3 (Value.bool true) fun w22 =>
 Kb12 .ret w22
 else
 Ld .map (busyW w15 l9) a7 fun x23 =>
 Ld (.int .i64) (busyW w15 l9) (a14.add 0) fun x24 =>
 Ld (.int .i64) (busyW w15 l9) (a14.add 1) fun x25 =>
 Ld (.int .i64) (busyW w15 l9) (a14.add 2) fun x26 =>
 Ld (.int .i64) (busyW w15 l9) (a14.add 3) fun x27 =>
 MapSet Try.prog 59 x23 (Value.agg ⟨[(Value.int .i64 x24), (Value.int .i64 x25), (Value.int .i64 x26), (Value.int .i64 x27)]⟩) (Value.bool true) (busyW w15 l9) fun w28 =>
 Kb12 .normal w28))
 (fun w29 =>
 St w29 a3 (Value.bool false) fun w30 =>
 w30.heap[w8.heap.size]? = some (.deferred (some [])) ∧
 Ld .bool (w30.putObj w8.heap.size (.deferred none)) a3 fun y31 =>
 K y31 (w30.putObj w8.heap.size (.deferred none)))
 (fun w32 =>
 w32.heap[w8.heap.size]? = some (.deferred (some [])) ∧
 Ld .bool (w32.putObj w8.heap.size (.deferred none)) a3 fun y33 =>
 K y33 (w32.putObj w8.heap.size (.deferred none)))
 [])
theorem e_config_twice_api_Inner (a0 : Value) (w : World) (K : Bool → World → Prop) : den Try.prog 13 (bodyOf Try.f85) none (.seq .leaf (.seq .leaf (.seq (.seq .leaf (.blk (.rng [.agg [(.int .i64), (.int .i64), (.int .i64), (.int .i64)]] .leaf (.blk (.seq (.seq .leaf (.cond (.seq .leaf .leaf) .leaf)) .leaf))))) (.seq .leaf .leaf)))) (argEnv 0 [a0]) [] w (retK Try.prog [.cell 2 4] [.one .bool] K) = s_config_twice_api_Inner a0 w K := by kernel_rfl
theorem ok_config_twice_api_Inner {a0 w K} (h : s_config_twice_api_Inner a0 w K) : c_config_twice_api_Inner a0 w K :=
  fn_sound pok Try.func85 (fn := Try.f85) (c := bodyOf Try.f85) (nt := 13) (by kernel_rfl) (by kernel_rfl) (rs := [.cell 2 4]) (by kernel_rfl) [.one .bool] K (.seq .leaf (.seq .leaf (.seq (.seq .leaf (.blk (.rng [.agg [(.int .i64), (.int .i64), (.int .i64), (.int .i64)]] .leaf (.blk (.seq (.seq .leaf (.cond (.seq .leaf .leaf) .leaf)) .leaf))))) (.seq .leaf .leaf)))) [a0] (by kernel_rfl) w ((e_config_twice_api_Inner a0 w K).mpr h)

/-- goosepond/config.each[goosepond/api.Static,goosepond/api.Inner] -/
def s_config_each_api_Static_api_Inner (a0 : SliceV) (a1 : Value) (w : World) (K : Value → World → Prop) : Prop :=
 (isOne (Value.slice a0.a a0.len a0.cap) = true ∧
 Al w (.cells ⟨[(Value.slice a0.a a0.len a0.cap)]⟩ 40) fun a4 w3 =>
 isOne a1 = true ∧
 Al w3 (.cells ⟨[a1]⟩ 119) fun a6 w5 =>
 K (Value.func (.func 110) #[] #[(Value.pointer (some a4)), (Value.pointer (some a6))]) w5)
theorem e_config_each_api_Static_api_Inner (a0 : SliceV) (a1 : Value) (w : World) (K : Value → World → Prop) : den Try.prog 6 (bodyOf Try.f86) none (.seq .leaf (.seq .leaf .leaf)) (argEnv 0 [(Value.slice a0.a a0.len a0.cap), a1]) [] w (retK Try.prog [.tmp 4] [.one .any] K) = s_config_each_api_Static_api_Inner a0 a1 w K := by kernel_rfl
theorem ok_config_each_api_Static_api_Inner {a0 a1 w K} (h : s_config_each_api_Static_api_Inner a0 a1 w K) : c_config_each_api_Static_api_Inner a0 a1 w K :=
  fn_sound pok Try.func86 (fn := Try.f86) (c := bodyOf Try.f86) (nt := 6) (by kernel_rfl) (by kernel_rfl) (rs := [.tmp 4]) (by kernel_rfl) [.one .any] K (.seq .leaf (.seq .leaf .leaf)) [(Value.slice a0.a a0.len a0.cap), a1] (by kernel_rfl) w ((e_config_each_api_Static_api_Inner a0 a1 w K).mpr h)

/-- goosepond/config.twice[goosepond/api.Outer] -/
def s_config_twice_api_Outer (a0 : Value) (w : World) (K : Bool → World → Prop) : Prop :=
 (Al w (.cells ⟨[(Value.bool false)]⟩ 4) fun a3 w2 =>
 Al w2 (.map #[] 0) fun a5 w4 =>
 Al w4 (.cells ⟨[(Value.map none)]⟩ 70) fun a7 w6 =>
 St w6 a7 (Value.map (some w2.heap.size)) fun w8 =>
 RngP Try.prog none [.agg [(.int .i64), (.int .i64), (.int .i64)]] a0 w8 (fun l9 x10 W11 Kb12 =>
 Al W11 (.cells ⟨[(Value.int .i64 0), (Value.int .i64 0), (Value.int .i64 0)]⟩ 32) fun a14 w13 =>
 StN [(Value.int .i64 x10.1.1), (Value.int .i64 x10.1.2.1), (Value.int .i64 x10.1.2.2.1)] w13 a14 0 fun w15 =>
 w15.heap[l9]? = W11.heap[l9]? ∧
 Ld .map (busyW w15 l9) a7 fun x16 =>
 Ld (.int .i64) (busyW w15 l9) (a14.add 0) fun x17 =>
 Ld (.int .i64) (busyW w15 l9) (a14.add 1) fun x18 =>
 Ld (.int .i64) (busyW w15 l9) (a14.add 2) fun x19 =>
 MapGet Try.prog 32 .bool x16 (Value.agg ⟨[(Value.int .i64 x17), (Value.int .i64 x18), (Value.int .i64 x19)]⟩) (Value.bool false) (busyW w15 l9) fun x20 =>
 (bif x20 then
 St (busyW w15 l9) a3 (Value.bool true) fun w21 =>
 Kb12 .ret w21
 else
 Ld .map (busyW w15 l9) a7 fun x22 =>
 Ld (.int .i64) (busyW w15 l9) (a14.add 0) fun x23 =>
 Ld (.int .i64) (busyW w15 l9) (a14.add 1) fun x24 =>
 Ld (.int .i64) (busyW w15 l9) (a14.add 2) fun x25 =>
 MapSet Try.prog 32 x22 (Value.agg ⟨[(Value.int .i64 x23), (Value.int .i64 x24), (Value.int .i64 x25)]⟩) (Value.bool true) (busyW w15 l9) fun w26 =>
 Kb12 .normal w26))
 (fun w27 =>
 St w27 a3 (Value.bool false) fun w28 =>
 w28.heap[w8.heap.size]? = some (.deferred (some [])) ∧
 Ld .bool (w28.putObj w8.heap.size (.deferred none)) a3 fun y29 =>
 K y29 (w28.putObj w8.heap.size (.deferred none)))
 (fun w30 =>
 w30.heap[w8.heap.size]? = some (.deferred (some [])) ∧
 Ld .bool (w30.putObj w8.heap.size (.deferred none)) a3 fun y31 =>
 K y31 (w30.putObj w8.heap.size (.deferred none)))
 [])
theorem e_config_twice_api_Outer (a0 : Value) (w : World) (K : Bool → World → Prop) : den Try.prog 13 (bodyOf Try.f87) none (.seq .leaf (.seq .leaf (.seq (.seq .leaf (.blk (.rng [.agg [(.int .i64), (.int .i64), (.int .i64)]] .leaf (.blk (.seq (.seq .leaf (.cond (.seq .leaf .leaf) .leaf)) .leaf))))) (.seq .leaf .leaf)))) (argEnv 0 [a0]) [] w (retK Try.prog [.cell 2 4] [.one .bool] K) = s_config_twice_api_Outer a0 w K := by kernel_rfl
theorem ok_config_twice_api_Outer {a0 w K} (h : s_config_twice_api_Outer a0 w K) : c_config_twice_api_Outer a0 w K :=
  fn_sound pok Try.func87 (fn := Try.f87) (c := bodyOf Try.f87) (nt := 13) (by kernel_rfl) (by kernel_rfl) (rs := [.cell 2 4]) (by kernel_rfl) [.one .bool] K (.seq .leaf (.seq .leaf (.seq (.seq .leaf (.blk (.rng [.agg [(.int .i64), (.int .i64), (.int .i64)]] .leaf (.blk (.seq (.seq .leaf (.cond (.seq .leaf .leaf) .leaf)) .leaf))))) (.seq .leaf .leaf)))) [a0] (by kernel_rfl) w ((e_config_twice_api_Outer a0 w K).mpr h)

/-- goosepond/config.each[goosepond/api.Static,goosepond/api.Outer] -/
def s_config_each_api_Static_api_Outer (a0 : SliceV) (a1 : Value) (w : World) (K : Value → World → Prop) : Prop :=
 (isOne (Value.slice a0.a a0.len a0.cap) = true ∧
 Al w (.cells ⟨[(Value.slice a0.a a0.len a0.cap)]⟩ 40) fun a4 w3 =>
 isOne a1 = true ∧
 Al w3 (.cells ⟨[a1]⟩ 120) fun a6 w5 =>
 K (Value.func (.func 111) #[] #[(Value.pointer (some a4)), (Value.pointer (some a6))]) w5)
theorem e_config_each_api_Static_api_Outer (a0 : SliceV) (a1 : Value) (w : World) (K : Value → World → Prop) : den Try.prog 6 (bodyOf Try.f88) none (.seq .leaf (.seq .leaf .leaf)) (argEnv 0 [(Value.slice a0.a a0.len a0.cap), a1]) [] w (retK Try.prog [.tmp 4] [.one .any] K) = s_config_each_api_Static_api_Outer a0 a1 w K := by kernel_rfl
theorem ok_config_each_api_Static_api_Outer {a0 a1 w K} (h : s_config_each_api_Static_api_Outer a0 a1 w K) : c_config_each_api_Static_api_Outer a0 a1 w K :=
  fn_sound pok Try.func88 (fn := Try.f88) (c := bodyOf Try.f88) (nt := 6) (by kernel_rfl) (by kernel_rfl) (rs := [.tmp 4]) (by kernel_rfl) [.one .any] K (.seq .leaf (.seq .leaf .leaf)) [(Value.slice a0.a a0.len a0.cap), a1] (by kernel_rfl) w ((e_config_each_api_Static_api_Outer a0 a1 w K).mpr h)

/-- goosepond/config.doubled$3 -/
def s_config_doubled_3 (a0 : Int) (f0 : Addr) (w : World) (K : Bool → World → Prop) : Prop :=
 (Ld (.int .i64) w (f0.add 20) fun x2 =>
 K (decide (a0 > x2)) w)
theorem e_config_doubled_3 (a0 : Int) (f0 : Addr) (w : World) (K : Bool → World → Prop) : den Try.prog 8 (bodyOf Try.f89) none (.seq .leaf (.seq .leaf .leaf)) (argEnv 0 [(Value.int .i64 a0), (Value.pointer (some f0))]) [] w (retK Try.prog [.tmp 3] [.one .bool] K) = s_config_doubled_3 a0 f0 w K := by kernel_rfl
theorem ok_config_doubled_3 {a0 f0 w K} (h : s_config_doubled_3 a0 f0 w K) : c_config_doubled_3 a0 f0 w K :=
  fn_sound pok Try.func89 (fn := Try.f89) (c := bodyOf Try.f89) (nt := 8) (by kernel_rfl) (by kernel_rfl) (rs := [.tmp 3]) (by kernel_rfl) [.one .bool] K (.seq .leaf (.seq .leaf .leaf)) [(Value.int .i64 a0), (Value.pointer (some f0))] (by kernel_rfl) w ((e_config_doubled_3 a0 f0 w K).mpr h)

/-- goosepond/goosepondref20.in -/
def s_ref20_in (a0 : Int) (a1 : Int) (a2 : Int) (w : World) (K : Bool → World → Prop) : Prop :=
 (let J4 : Bool → Prop := fun j5 =>
 (K j5 w)
 (bif (decide (a0 ≥ a1)) then
 J4 (decide (a0 ≤ a2))
 else
 J4 false))
theorem e_ref20_in (a0 : Int) (a1 : Int) (a2 : Int) (w : World) (K : Bool → World → Prop) : den Try.prog 15 (bodyOf Try.f90) none (.seq .leaf (.seq .leaf .leaf)) (argEnv 0 [(Value.int .i64 a0), (Value.int .i64 a1), (Value.int .i64 a2)]) [] w (retK Try.prog [.tmp 6] [.one .bool] K) = s_ref20_in a0 a1 a2 w K := by kernel_rfl
theorem ok_ref20_in {a0 a1 a2 w K} (h : s_ref20_in a0 a1 a2 w K) : c_ref20_in a0 a1 a2 w K :=
  fn_sound pok Try.func90 (fn := Try.f90) (c := bodyOf Try.f90) (nt := 15) (by kernel_rfl) (by kernel_rfl) (rs := [.tmp 6]) (by kernel_rfl) [.one .bool] K (.seq .leaf (.seq .leaf .leaf)) [(Value.int .i64 a0), (Value.int .i64 a1), (Value.int .i64 a2)] (by kernel_rfl) w ((e_ref20_in a0 a1 a2 w K).mpr h)

/-- goosepond/goosepondref04.Host -/
def s_ref04_Host (a0_0 : Int) (a0_1 : Int) (a0_2 : Int) (a0_3 : Int) (a0_4 : Int) (a0_5 : Int) (a0_6 : Int) (a0_7 : Int) (a0_8 : Int) (a0_9 : Int) (a0_10 : Int) (a0_11 : Int) (a0_12 : Int) (a0_13 : Int) (a0_14 : Int) (a0_15 : Int) (w : World) (K : Bool → World → Prop) : Prop :=
 (Al w (.cells ⟨[(Value.int .u8 a0_0), (Value.int .u8 a0_1), (Value.int .u8 a0_2), (Value.int .u8 a0_3), (Value.int .u8 a0_4), (Value.int .u8 a0_5), (Value.int .u8 a0_6), (Value.int .u8 a0_7), (Value.int .u8 a0_8), (Value.int .u8 a0_9), (Value.int .u8 a0_10), (Value.int .u8 a0_11), (Value.int .u8 a0_12), (Value.int .u8 a0_13), (Value.int .u8 a0_14), (Value.int .u8 a0_15)]⟩ 38) fun a3 w2 =>
 let J4 : Bool → Prop := fun j5 =>
 (K j5 w2)
 Ld (.int .u8) w2 (a3.add 0) fun x6 =>
 Ld (.int .u8) w2 (a3.add 1) fun x7 =>
 Ld (.int .u8) w2 (a3.add 2) fun x8 =>
 Ld (.int .u8) w2 (a3.add 3) fun x9 =>
 Ld (.int .u8) w2 (a3.add 4) fun x10 =>
 Ld (.int .u8) w2 (a3.add 5) fun x11 =>
 Ld (.int .u8) w2 (a3.add 6) fun x12 =>
 Ld (.int .u8) w2 (a3.add 7) fun x13 =>
 Ld (.int .u8) w2 (a3.add 8) fun x14 =>
 Ld (.int .u8) w2 (a3.add 9) fun x15 =>
 Ld (.int .u8) w2 (a3.add 10) fun x16 =>
 Ld (.int .u8) w2 (a3.add 11) fun x17 =>
 Ld (.int .u8) w2 (a3.add 12) fun x18 =>
 Ld (.int .u8) w2 (a3.add 13) fun x19 =>
 Ld (.int .u8) w2 (a3.add 14) fun x20 =>
 Ld (.int .u8) w2 (a3.add 15) fun x21 =>
 (bif (!((x6 == 0) && ((x7 == 0) && ((x8 == 0) && ((x9 == 0) && ((x10 == 0) && ((x11 == 0) && ((x12 == 0) && ((x13 == 0) && ((x14 == 0) && ((x15 == 0) && ((x16 == 0) && ((x17 == 0) && ((x18 == 0) && ((x19 == 0) && ((x20 == 0) && ((x21 == 0) && true))))))))))))))))) then
 (0 : Int) ≤ 0 ∧ 0 < (16 : Int) ∧
 Ld (.int .u8) w2 (a3.add (Int.toNat 0 * 1)) fun x22 =>
 J4 (x22 != 255)
 else
 J4 false))
theorem e_ref04_Host (a0_0 : Int) (a0_1 : Int) (a0_2 : Int) (a0_3 : Int) (a0_4 : Int) (a0_5 : Int) (a0_6 : Int) (a0_7 : Int) (a0_8 : Int) (a0_9 : Int) (a0_10 : Int) (a0_11 : Int) (a0_12 : Int) (a0_13 : Int) (a0_14 : Int) (a0_15 : Int) (w : World) (K : Bool → World → Prop) : den Try.prog 11 (bodyOf Try.f91) none (.seq .leaf (.seq .leaf .leaf)) (argEnv 0 [(Value.agg ⟨[(Value.int .u8 a0_0), (Value.int .u8 a0_1), (Value.int .u8 a0_2), (Value.int .u8 a0_3), (Value.int .u8 a0_4), (Value.int .u8 a0_5), (Value.int .u8 a0_6), (Value.int .u8 a0_7), (Value.int .u8 a0_8), (Value.int .u8 a0_9), (Value.int .u8 a0_10), (Value.int .u8 a0_11), (Value.int .u8 a0_12), (Value.int .u8 a0_13), (Value.int .u8 a0_14), (Value.int .u8 a0_15)]⟩)]) [] w (retK Try.prog [.tmp 2] [.one .bool] K) = s_ref04_Host a0_0 a0_1 a0_2 a0_3 a0_4 a0_5 a0_6 a0_7 a0_8 a0_9 a0_10 a0_11 a0_12 a0_13 a0_14 a0_15 w K := by kernel_rfl
theorem ok_ref04_Host {a0_0 a0_1 a0_2 a0_3 a0_4 a0_5 a0_6 a0_7 a0_8 a0_9 a0_10 a0_11 a0_12 a0_13 a0_14 a0_15 w K} (h : s_ref04_Host a0_0 a0_1 a0_2 a0_3 a0_4 a0_5 a0_6 a0_7 a0_8 a0_9 a0_10 a0_11 a0_12 a0_13 a0_14 a0_15 w K) : c_ref04_Host a0_0 a0_1 a0_2 a0_3 a0_4 a0_5 a0_6 a0_7 a0_8 a0_9 a0_10 a0_11 a0_12 a0_13 a0_14 a0_15 w K :=
  fn_sound pok Try.func91 (fn := Try.f91) (c := bodyOf Try.f91) (nt := 11) (by kernel_rfl) (by kernel_rfl) (rs := [.tmp 2]) (by kernel_rfl) [.one .bool] K (.seq .leaf (.seq .leaf .leaf)) [(Value.agg ⟨[(Value.int .u8 a0_0), (Value.int .u8 a0_1), (Value.int .u8 a0_2), (Value.int .u8 a0_3), (Value.int .u8 a0_4), (Value.int .u8 a0_5), (Value.int .u8 a0_6), (Value.int .u8 a0_7), (Value.int .u8 a0_8), (Value.int .u8 a0_9), (Value.int .u8 a0_10), (Value.int .u8 a0_11), (Value.int .u8 a0_12), (Value.int .u8 a0_13), (Value.int .u8 a0_14), (Value.int .u8 a0_15)]⟩)] (by kernel_rfl) w ((e_ref04_Host a0_0 a0_1 a0_2 a0_3 a0_4 a0_5 a0_6 a0_7 a0_8 a0_9 a0_10 a0_11 a0_12 a0_13 a0_14 a0_15 w K).mpr h)

/-- goosepond/goosepondref03.Host -/
def s_ref03_Host (a0 : Int) (w : World) (K : Bool → World → Prop) : Prop :=
 (let J2 : Bool → Prop := fun j3 =>
 (K j3 w)
 (bif (decide (a0 ≥ 16777216)) then
 (bif (decide (a0 < 3758096384)) then
 (16777216 : Int) ≠ 0 ∧
 J2 ((IntKind.i64.wrap (Int.tdiv a0 16777216)) != 127)
 else
 J2 false)
 else
 J2 false))
theorem e_ref03_Host (a0 : Int) (w : World) (K : Bool → World → Prop) : den Try.prog 14 (bodyOf Try.f92) none (.seq .leaf (.seq .leaf .leaf)) (argEnv 0 [(Value.int .i64 a0)]) [] w (retK Try.prog [.tmp 2] [.one .bool] K) = s_ref03_Host a0 w K := by kernel_rfl
theorem ok_ref03_Host {a0 w K} (h : s_ref03_Host a0 w K) : c_ref03_Host a0 w K :=
  fn_sound pok Try.func92 (fn := Try.f92) (c := bodyOf Try.f92) (nt := 14) (by kernel_rfl) (by kernel_rfl) (rs := [.tmp 2]) (by kernel_rfl) [.one .bool] K (.seq .leaf (.seq .leaf .leaf)) [(Value.int .i64 a0)] (by kernel_rfl) w ((e_ref03_Host a0 w K).mpr h)

/-- goosepond/goosepondref20.static -/
def s_ref20_static (a0_0 : Int) (a0_1 : Int) (a0_2 : Int) (a0_3 : Int) (a0_4 : Int) (a0_5 : Int) (a0_6 : Int) (a0_7 : Int) (a0_8 : Int) (a0_9 : Int) (a0_10 : Int) (a0_11 : Int) (a0_12 : Int) (a0_13 : Int) (a0_14 : Int) (a0_15 : Int) (a0_16 : SliceV) (a0_17 : SliceV) (a0_18 : Int) (a0_19 : Int) (a0_20 : Int) (a0_21 : Int) (a0_22 : Int) (a0_23 : Int) (a0_24 : Int) (a0_25 : Int) (a0_26 : Int) (a0_27 : Int) (a0_28 : Int) (a0_29 : Int) (a0_30 : Int) (a0_31 : Int) (a0_32 : Int) (a0_33 : Int) (a0_34 : Int) (a0_35 : SliceV) (a1_0 : Int) (a1_1 : Int) (a1_2 : Int) (a1_3 : Int) (a1_4 : Int) (a1_5 : Int) (a1_6 : Int) (w : World) (K : Bool → World → Prop) : Prop :=
 (Al w (.cells ⟨((Value.int .u8 a0_0) :: (Value.int .u8 a0_1) :: (Value.int .u8 a0_2) :: (Value.int .u8 a0_3) :: (Value.int .u8 a0_4) :: (Value.int .u8 a0_5) :: (Value.int .u8 a0_6) :: (Value.int .u8 a0_7) :: (Value.int .u8 a0_8) :: (Value.int .u8 a0_9) :: (Value.int .u8 a0_10) :: (Value.int .u8 a0_11) :: (Value.int .u8 a0_12) :: (Value.int .u8 a0_13) :: (Value.int .u8 a0_14) :: (Value.int .u8 a0_15) :: (Value.slice a0_16.a a0_16.len a0_16.cap) :: (Value.slice a0_17.a a0_17.len a0_17.cap) :: (Value.int .i64 a0_18) :: (Value.int .i64 a0_19) :: (Value.int .i64 a0_20) :: (Value.int .i64 a0_21) :: (Value.int .i64 a0_22) :: (Value.int .i64 a0_23) :: (Value.int .i64 a0_24) :: (Value.int .i64 a0_25) :: (Value.int .i64 a0_26) :: (Value.int .i64 a0_27) :: (Value.int .i64 a0_28) :: (Value.int .i64 a0_29) :: (Value.int .i64 a0_30) :: (Value.int .i64 a0_31) :: (Value.int .i64 a0_32) :: (Value.int .i64 a0_33) :: (Value.int .i64 a0_34) :: (Value.slice a0_35.a a0_35.len a0_35.cap) :: [])⟩ 42) fun a4 w3 =>
 Al w3 (.cells ⟨[(Value.int .i64 a1_0), (Value.int .i64 a1_1), (Value.int .i64 a1_2), (Value.int .i64 a1_3), (Value.int .i64 a1_4), (Value.int .i64 a1_5), (Value.int .i64 a1_6)]⟩ 112) fun a6 w5 =>
 let J7 : Bool → Prop := fun j8 =>
 (let J9 : Bool → World → Prop := fun j10 w11 =>
 (let J12 : Bool → World → Prop := fun j13 w14 =>
 (K j13 w14)
 (bif j8 then
 (bif j10 then
 Ld (.int .i64) w11 (a6.add 4) fun x15 =>
 Ld (.int .i64) w11 (a6.add 1) fun x16 =>
 (bif (x15 == x16) then
 Ld (.int .i64) w11 a6 fun x17 =>
 Ld .slice w11 (a4.add 16) fun x18 =>
 c_ref20_in x17 0 (IntKind.i64.wrap ((x18.len : Int) - 1)) w11 fun r19 w20 =>
 (bif r19 then
 Ld (.int .i64) w20 (a6.add 2) fun x21 =>
 c_ref03_Host x21 w20 fun r22 w23 =>
 (bif r22 then
 Ld (.int .u8) w23 (a4.add 0) fun x24 =>
 Ld (.int .u8) w23 (a4.add 1) fun x25 =>
 Ld (.int .u8) w23 (a4.add 2) fun x26 =>
 Ld (.int .u8) w23 (a4.add 3) fun x27 =>
 Ld (.int .u8) w23 (a4.add 4) fun x28 =>
 Ld (.int .u8) w23 (a4.add 5) fun x29 =>
 Ld (.int .u8) w23 (a4.add 6) fun x30 =>
 Ld (.int .u8) w23 (a4.add 7) fun x31 =>
 Ld (.int .u8) w23 (a4.add 8) fun x32 =>
 Ld (.int .u8) w23 (a4.add 9) fun x33 =>
 Ld (.int .u8) w23 (a4.add 10) fun x34 =>
 Ld (.int .u8) w23 (a4.add 11) fun x35 =>
 Ld (.int .u8) w23 (a4.add 12) fun x36 =>
 Ld (.int .u8) w23 (a4.add 13) fun x37 =>
 Ld (.int .u8) w23 (a4.add 14) fun x38 =>
 Ld (.int .u8) w23 (a4.add 15) fun x39 =>
 Ld .slice w23 (a4.add 16) fun x40 =>
 Ld .slice w23 (a4.add 17) fun x41 =>
 Ld (.int .i64) w23 (a4.add 18) fun x42 =>
 Ld (.int .i64) w23 (a4.add 19) fun x43 =>
 Ld (.int .i64) w23 (a4.add 20) fun x44 =>
 Ld (.int .i64) w23 (a4.add 21) fun x45 =>
 Ld (.int .i64) w23 (a4.add 22) fun x46 =>
 Ld (.int .i64) w23 (a4.add 23) fun x47 =>
 Ld (.int .i64) w23 (a4.add 24) fun x48 =>
 Ld (.int .i64) w23 (a4.add 25) fun x49 =>
 Ld (.int .i64) w23 (a4.add 26) fun x50 =>
 Ld (.int .i64) w23 (a4.add 27) fun x51 =>
 Ld (.int .i64) w23 (a4.add 28) fun x52 =>
 Ld (.int .i64) w23 (a4.add 29) fun x53 =>
 Ld (.int .i64) w23 (a4.add 30) fun x54 =>
 Ld (.int .i64) w23 (a4.add 31) fun x55 =>
 Ld (.int .i64) w23 (a4.add 32) fun x56 =>
 Ld (.int .i64) w23 (a4.add 33) fun x57 =>
 Ld (.int .i64) w23 (a4.add 34) fun x58 =>
 Ld .slice w23 (a4.add 35) fun x59 =>
 Ld (.int .i64) w23 ((a6.add 4).add 1) fun x60 =>
 c_ref20_pool x24 x25 x26 x27 x28 x29 x30 x31 x32 x33 x34 x35 x36 x37 x38 x39 x40 x41 x42 x43 x44 x45 x46 x47 x48 x49 x50 x51 x52 x53 x54 x55 x56 x57 x58 x59 x60 w23 fun r61 w62 =>
 J12 r61 w62
 else
 J12 false w23)
 else
 J12 false w20)
 else
 J12 false w11)
 else
 J12 false w11)
 else
 J12 false w11))
 Ld (.int .i64) w5 (a6.add 3) fun x63 =>
 c_ref20_in x63 0 65535 w5 fun r64 w65 =>
 (bif r64 then
 Ld (.int .i64) w65 ((a6.add 4).add 2) fun x66 =>
 c_ref20_in x66 0 65535 w65 fun r67 w68 =>
 J9 r67 w68
 else
 J9 false w65))
 Ld (.int .i64) w5 (a6.add 1) fun x69 =>
 (bif (x69 == 1) then
 J7 true
 else
 Ld (.int .i64) w5 (a6.add 1) fun x70 =>
 (bif (x70 == 6) then
 J7 true
 else
 Ld (.int .i64) w5 (a6.add 1) fun x71 =>
 J7 (x71 == 17))))
theorem e_ref20_static (a0_0 : Int) (a0_1 : Int) (a0_2 : Int) (a0_3 : Int) (a0_4 : Int) (a0_5 : Int) (a0_6 : Int) (a0_7 : Int) (a0_8 : Int) (a0_9 : Int) (a0_10 : Int) (a0_11 : Int) (a0_12 : Int) (a0_13 : Int) (a0_14 : Int) (a0_15 : Int) (a0_16 : SliceV) (a0_17 : SliceV) (a0_18 : Int) (a0_19 : Int) (a0_20 : Int) (a0_21 : Int) (a0_22 : Int) (a0_23 : Int) (a0_24 : Int) (a0_25 : Int) (a0_26 : Int) (a0_27 : Int) (a0_28 : Int) (a0_29 : Int) (a0_30 : Int) (a0_31 : Int) (a0_32 : Int) (a0_33 : Int) (a0_34 : Int) (a0_35 : SliceV) (a1_0 : Int) (a1_1 : Int) (a1_2 : Int) (a1_3 : Int) (a1_4 : Int) (a1_5 : Int) (a1_6 : Int) (w : World) (K : Bool → World → Prop) : den Try.prog 69 (bodyOf Try.f93) none (.seq .leaf (.seq .leaf (.seq .leaf (.seq .leaf .leaf)))) (argEnv 0 [(Value.agg ⟨((Value.int .u8 a0_0) :: (Value.int .u8 a0_1) :: (Value.int .u8 a0_2) :: (Value.int .u8 a0_3) :: (Value.int .u8 a0_4) :: (Value.int .u8 a0_5) :: (Value.int .u8 a0_6) :: (Value.int .u8 a0_7) :: (Value.int .u8 a0_8) :: (Value.int .u8 a0_9) :: (Value.int .u8 a0_10) :: (Value.int .u8 a0_11) :: (Value.int .u8 a0_12) :: (Value.int .u8 a0_13) :: (Value.int .u8 a0_14) :: (Value.int .u8 a0_15) :: (Value.slice a0_16.a a0_16.len a0_16.cap) :: (Value.slice a0_17.a a0_17.len a0_17.cap) :: (Value.int .i64 a0_18) :: (Value.int .i64 a0_19) :: (Value.int .i64 a0_20) :: (Value.int .i64 a0_21) :: (Value.int .i64 a0_22) :: (Value.int .i64 a0_23) :: (Value.int .i64 a0_24) :: (Value.int .i64 a0_25) :: (Value.int .i64 a0_26) :: (Value.int .i64 a0_27) :: (Value.int .i64 a0_28) :: (Value.int .i64 a0_29) :: (Value.int .i64 a0_30) :: (Value.int .i64 a0_31) :: (Value.int .i64 a0_32) :: (Value.int .i64 a0_33) :: (Value.int .i64 a0_34) :: (Value.slice a0_35.a a0_35.len a0_35.cap) :: [])⟩), (Value.agg ⟨[(Value.int .i64 a1_0), (Value.int .i64 a1_1), (Value.int .i64 a1_2), (Value.int .i64 a1_3), (Value.int .i64 a1_4), (Value.int .i64 a1_5), (Value.int .i64 a1_6)]⟩)]) [] w (retK Try.prog [.tmp 4] [.one .bool] K) = s_ref20_static a0_0 a0_1 a0_2 a0_3 a0_4 a0_5 a0_6 a0_7 a0_8 a0_9 a0_10 a0_11 a0_12 a0_13 a0_14 a0_15 a0_16 a0_17 a0_18 a0_19 a0_20 a0_21 a0_22 a0_23 a0_24 a0_25 a0_26 a0_27 a0_28 a0_29 a0_30 a0_31 a0_32 a0_33 a0_34 a0_35 a1_0 a1_1 a1_2 a1_3 a1_4 a1_5 a1_6 w K := by kernel_rfl
theorem ok_ref20_static {a0_0 a0_1 a0_2 a0_3 a0_4 a0_5 a0_6 a0_7 a0_8 a0_9 a0_10 a0_11 a0_12 a0_13 a0_14 a0_15 a0_16 a0_17 a0_18 a0_19 a0_20 a0_21 a0_22 a0_23 a0_24 a0_25 a0_26 a0_27 a0_28 a0_29 a0_30 a0_31 a0_32 a0_33 a0_34 a0_35 a1_0 a1_1 a1_2 a1_3 a1_4 a1_5 a1_6 w K} (h : s_ref20_static a0_0 a0_1 a0_2 a0_3 a0_4 a0_5 a0_6 a0_7 a0_8 a0_9 a0_10 a0_11 a0_12 a0_13 a0_14 a0_15 a0_16 a0_17 a0_18 a0_19 a0_20 a0_21 a0_22 a0_23 a0_24 a0_25 a0_26 a0_27 a0_28 a0_29 a0_30 a0_31 a0_32 a0_33 a0_34 a0_35 a1_0 a1_1 a1_2 a1_3 a1_4 a1_5 a1_6 w K) : c_ref20_static a0_0 a0_1 a0_2 a0_3 a0_4 a0_5 a0_6 a0_7 a0_8 a0_9 a0_10 a0_11 a0_12 a0_13 a0_14 a0_15 a0_16 a0_17 a0_18 a0_19 a0_20 a0_21 a0_22 a0_23 a0_24 a0_25 a0_26 a0_27 a0_28 a0_29 a0_30 a0_31 a0_32 a0_33 a0_34 a0_35 a1_0 a1_1 a1_2 a1_3 a1_4 a1_5 a1_6 w K :=
  fn_sound pok Try.func93 (fn := Try.f93) (c := bodyOf Try.f93) (nt := 69) (by kernel_rfl) (by kernel_rfl) (rs := [.tmp 4]) (by kernel_rfl) [.one .bool] K (.seq .leaf (.seq .leaf (.seq .leaf (.seq .leaf .leaf)))) [(Value.agg ⟨((Value.int .u8 a0_0) :: (Value.int .u8 a0_1) :: (Value.int .u8 a0_2) :: (Value.int .u8 a0_3) :: (Value.int .u8 a0_4) :: (Value.int .u8 a0_5) :: (Value.int .u8 a0_6) :: (Value.int .u8 a0_7) :: (Value.int .u8 a0_8) :: (Value.int .u8 a0_9) :: (Value.int .u8 a0_10) :: (Value.int .u8 a0_11) :: (Value.int .u8 a0_12) :: (Value.int .u8 a0_13) :: (Value.int .u8 a0_14) :: (Value.int .u8 a0_15) :: (Value.slice a0_16.a a0_16.len a0_16.cap) :: (Value.slice a0_17.a a0_17.len a0_17.cap) :: (Value.int .i64 a0_18) :: (Value.int .i64 a0_19) :: (Value.int .i64 a0_20) :: (Value.int .i64 a0_21) :: (Value.int .i64 a0_22) :: (Value.int .i64 a0_23) :: (Value.int .i64 a0_24) :: (Value.int .i64 a0_25) :: (Value.int .i64 a0_26) :: (Value.int .i64 a0_27) :: (Value.int .i64 a0_28) :: (Value.int .i64 a0_29) :: (Value.int .i64 a0_30) :: (Value.int .i64 a0_31) :: (Value.int .i64 a0_32) :: (Value.int .i64 a0_33) :: (Value.int .i64 a0_34) :: (Value.slice a0_35.a a0_35.len a0_35.cap) :: [])⟩), (Value.agg ⟨[(Value.int .i64 a1_0), (Value.int .i64 a1_1), (Value.int .i64 a1_2), (Value.int .i64 a1_3), (Value.int .i64 a1_4), (Value.int .i64 a1_5), (Value.int .i64 a1_6)]⟩)] (by kernel_rfl) w ((e_ref20_static a0_0 a0_1 a0_2 a0_3 a0_4 a0_5 a0_6 a0_7 a0_8 a0_9 a0_10 a0_11 a0_12 a0_13 a0_14 a0_15 a0_16 a0_17 a0_18 a0_19 a0_20 a0_21 a0_22 a0_23 a0_24 a0_25 a0_26 a0_27 a0_28 a0_29 a0_30 a0_31 a0_32 a0_33 a0_34 a0_35 a1_0 a1_1 a1_2 a1_3 a1_4 a1_5 a1_6 w K).mpr h)

/-- goosepond/config.proto -/
def s_config_proto (a0 : Int) (w : World) (K : Bool → World → Prop) : Prop :=
 (Al w (.cells ⟨[(Value.int .i64 1), (Value.int .i64 6), (Value.int .i64 17)]⟩ 3) fun a3 w2 =>
 c_slices_Contains_int_int ⟨(some a3), 3, 3⟩ a0 w2 fun r4 w5 =>
 K r4 w5)
theorem e_config_proto (a0 : Int) (w : World) (K : Bool → World → Prop) : den Try.prog 6 (bodyOf Try.f104) none (.seq .leaf (.seq .leaf .leaf)) (argEnv 0 [(Value.int .i64 a0)]) [] w (retK Try.prog [.tmp 2] [.one .bool] K) = s_config_proto a0 w K := by kernel_rfl
theorem ok_config_proto {a0 w K} (h : s_config_proto a0 w K) : c_config_proto a0 w K :=
  fn_sound pok Try.func104 (fn := Try.f104) (c := bodyOf Try.f104) (nt := 6) (by kernel_rfl) (by kernel_rfl) (rs := [.tmp 2]) (by kernel_rfl) [.one .bool] K (.seq .leaf (.seq .leaf .leaf)) [(Value.int .i64 a0)] (by kernel_rfl) w ((e_config_proto a0 w K).mpr h)

/-- slices.IndexFunc[[]goosepond/api.Six,goosepond/api.Six] -/
def s_slices_IndexFunc_api_Six_api_Six (a0 : SliceV) (a1 : Value) (w : World) (K : Int → World → Prop) : Prop :=
 (LoopP (S := Int × Unit) (fun s3 w4 next5 =>
 (bif (decide (s3.1 < (a0.len : Int))) then
 AtIx a0 16 s3.1 fun a6 =>
 Ld (.int .u8) w4 (a6.add 0) fun x7 =>
 Ld (.int .u8) w4 (a6.add 1) fun x8 =>
 Ld (.int .u8) w4 (a6.add 2) fun x9 =>
 Ld (.int .u8) w4 (a6.add 3) fun x10 =>
 Ld (.int .u8) w4 (a6.add 4) fun x11 =>
 Ld (.int .u8) w4 (a6.add 5) fun x12 =>
 Ld (.int .u8) w4 (a6.add 6) fun x13 =>
 Ld (.int .u8) w4 (a6.add 7) fun x14 =>
 Ld (.int .u8) w4 (a6.add 8) fun x15 =>
 Ld (.int .u8) w4 (a6.add 9) fun x16 =>
 Ld (.int .u8) w4 (a6.add 10) fun x17 =>
 Ld (.int .u8) w4 (a6.add 11) fun x18 =>
 Ld (.int .u8) w4 (a6.add 12) fun x19 =>
 Ld (.int .u8) w4 (a6.add 13) fun x20 =>
 Ld (.int .u8) w4 (a6.add 14) fun x21 =>
 Ld (.int .u8) w4 (a6.add 15) fun x22 =>
 CallV Try.prog [.one .bool] a1 [(Value.agg ⟨[(Value.int .u8 x7), (Value.int .u8 x8), (Value.int .u8 x9), (Value.int .u8 x10), (Value.int .u8 x11), (Value.int .u8 x12), (Value.int .u8 x13), (Value.int .u8 x14), (Value.int .u8 x15), (Value.int .u8 x16), (Value.int .u8 x17), (Value.int .u8 x18), (Value.int .u8 x19), (Value.int .u8 x20), (Value.int .u8 x21), (Value.int .u8 x22)]⟩)] w4 fun r23 w24 =>
 ∃ r25 : Bool, r23 = (Value.bool r25) ∧
 (bif r25 then
 K s3.1 w24
 else
 next5 ((IntKind.i64.wrap (s3.1 + 1)), ()) w24)
 else
 K (-1) w4)) (0, ()) w)
theorem e_slices_IndexFunc_api_Six_api_Six (a0 : SliceV) (a1 : Value) (w : World) (K : Int → World → Prop) : den Try.prog 19 (bodyOf Try.f105) none (.seq .leaf (.seq (.seq .leaf (.blk (.loop [(8, (.int .i64))] (.seq .leaf (.seq (.cond .leaf .leaf) (.seq (.blk (.seq .leaf (.seq .leaf (.cond (.seq .leaf .leaf) .leaf)))) .leaf)))))) (.seq .leaf .leaf))) (argEnv 0 [(Value.slice a0.a a0.len a0.cap), a1]) [] w (retK Try.prog [.tmp 4] [.one (.int .i64)] K) = s_slices_IndexFunc_api_Six_api_Six a0 a1 w K := by kernel_rfl
theorem ok_slices_IndexFunc_api_Six_api_Six {a0 a1 w K} (h : s_slices_IndexFunc_api_Six_api_Six a0 a1 w K) : c_slices_IndexFunc_api_Six_api_Six a0 a1 w K :=
  fn_sound pok Try.func105 (fn := Try.f105) (c := bodyOf Try.f105) (nt := 19) (by kernel_rfl) (by kernel_rfl) (rs := [.tmp 4]) (by kernel_rfl) [.one (.int .i64)] K (.seq .leaf (.seq (.seq .leaf (.blk (.loop [(8, (.int .i64))] (.seq .leaf (.seq (.cond .leaf .leaf) (.seq (.blk (.seq .leaf (.seq .leaf (.cond (.seq .leaf .leaf) .leaf)))) .leaf)))))) (.seq .leaf .leaf))) [(Value.slice a0.a a0.len a0.cap), a1] (by kernel_rfl) w ((e_slices_IndexFunc_api_Six_api_Six a0 a1 w K).mpr h)

/-- slices.IndexFunc[[]int,int] -/
def s_slices_IndexFunc_int_int (a0 : SliceV) (a1 : Value) (w : World) (K : Int → World → Prop) : Prop :=
 (LoopP (S := Int × Unit) (fun s3 w4 next5 =>
 (bif (decide (s3.1 < (a0.len : Int))) then
 AtIx a0 1 s3.1 fun a6 =>
 Ld (.int .i64) w4 a6 fun x7 =>
 CallV Try.prog [.one .bool] a1 [(Value.int .i64 x7)] w4 fun r8 w9 =>
 ∃ r10 : Bool, r8 = (Value.bool r10) ∧
 (bif r10 then
 K s3.1 w9
 else
 next5 ((IntKind.i64.wrap (s3.1 + 1)), ()) w9)
 else
 K (-1) w4)) (0, ()) w)
theorem e_slices_IndexFunc_int_int (a0 : SliceV) (a1 : Value) (w : World) (K : Int → World → Prop) : den Try.prog 19 (bodyOf Try.f106) none (.seq .leaf (.seq (.seq .leaf (.blk (.loop [(8, (.int .i64))] (.seq .leaf (.seq (.cond .leaf .leaf) (.seq (.blk (.seq .leaf (.seq .leaf (.cond (.seq .leaf .leaf) .leaf)))) .leaf)))))) (.seq .leaf .leaf))) (argEnv 0 [(Value.slice a0.a a0.len a0.cap), a1]) [] w (retK Try.prog [.tmp 4] [.one (.int .i64)] K) = s_slices_IndexFunc_int_int a0 a1 w K := by kernel_rfl
theorem ok_slices_IndexFunc_int_int {a0 a1 w K} (h : s_slices_IndexFunc_int_int a0 a1 w K) : c_slices_IndexFunc_int_int a0 a1 w K :=
  fn_sound pok Try.func106 (fn := Try.f106) (c := bodyOf Try.f106) (nt := 19) (by kernel_rfl) (by kernel_rfl) (rs := [.tmp 4]) (by kernel_rfl) [.one (.int .i64)] K (.seq .leaf (.seq (.seq .leaf (.blk (.loop [(8, (.int .i64))] (.seq .leaf (.seq (.cond .leaf .leaf) (.seq (.blk (.seq .leaf (.seq .leaf (.cond (.seq .leaf .leaf) .leaf)))) .leaf)))))) (.seq .leaf .leaf))) [(Value.slice a0.a a0.len a0.cap), a1] (by kernel_rfl) w ((e_slices_IndexFunc_int_int a0 a1 w K).mpr h)

/-- slices.IndexFunc[[]goosepond/api.Static,goosepond/api.Static] -/
def s_slices_IndexFunc_api_Static_api_Static (a0 : SliceV) (a1 : Value) (w : World) (K : Int → World → Prop) : Prop :=
 (LoopP (S := Int × Unit) (fun s3 w4 next5 =>
 (bif (decide (s3.1 < (a0.len : Int))) then
 AtIx a0 7 s3.1 fun a6 =>
 Ld (.int .i64) w4 (a6.add 0) fun x7 =>
 Ld (.int .i64) w4 (a6.add 1) fun x8 =>
 Ld (.int .i64) w4 (a6.add 2) fun x9 =>
 Ld (.int .i64) w4 (a6.add 3) fun x10 =>
 Ld (.int .i64) w4 (a6.add 4) fun x11 =>
 Ld (.int .i64) w4 (a6.add 5) fun x12 =>
 Ld (.int .i64) w4 (a6.add 6) fun x13 =>
 CallV Try.prog [.one .bool] a1 [(Value.agg ⟨[(Value.int .i64 x7), (Value.int .i64 x8), (Value.int .i64 x9), (Value.int .i64 x10), (Value.int .i64 x11), (Value.int .i64 x12), (Value.int .i64 x13)]⟩)] w4 fun r14 w15 =>
 ∃ r16 : Bool, r14 = (Value.bool r16) ∧
 (bif r16 then
 K s3.1 w15
 else
 next5 ((IntKind.i64.wrap (s3.1 + 1)), ()) w15)
 else
 K (-1) w4)) (0, ()) w)
theorem e_slices_IndexFunc_api_Static_api_Static (a0 : SliceV) (a1 : Value) (w : World) (K : Int → World → Prop) : den Try.prog 19 (bodyOf Try.f107) none (.seq .leaf (.seq (.seq .leaf (.blk (.loop [(8, (.int .i64))] (.seq .leaf (.seq (.cond .leaf .leaf) (.seq (.blk (.seq .leaf (.seq .leaf (.cond (.seq .leaf .leaf) .leaf)))) .leaf)))))) (.seq .leaf .leaf))) (argEnv 0 [(Value.slice a0.a a0.len a0.cap), a1]) [] w (retK Try.prog [.tmp 4] [.one (.int .i64)] K) = s_slices_IndexFunc_api_Static_api_Static a0 a1 w K := by kernel_rfl
theorem ok_slices_IndexFunc_api_Static_api_Static {a0 a1 w K} (h : s_slices_IndexFunc_api_Static_api_Static a0 a1 w K) : c_slices_IndexFunc_api_Static_api_Static a0 a1 w K :=
  fn_sound pok Try.func107 (fn := Try.f107) (c := bodyOf Try.f107) (nt := 19) (by kernel_rfl) (by kernel_rfl) (rs := [.tmp 4]) (by kernel_rfl) [.one (.int .i64)] K (.seq .leaf (.seq (.seq .leaf (.blk (.loop [(8, (.int .i64))] (.seq .leaf (.seq (.cond .leaf .leaf) (.seq (.blk (.seq .leaf (.seq .leaf (.cond (.seq .leaf .leaf) .leaf)))) .leaf)))))) (.seq .leaf .leaf))) [(Value.slice a0.a a0.len a0.cap), a1] (by kernel_rfl) w ((e_slices_IndexFunc_api_Static_api_Static a0 a1 w K).mpr h)

/-- goosepond/config.each[goosepond/api.Six,goosepond/api.Six]$1 -/
def s_config_each_api_Six_api_Six_1 (a0 : Value) (f0 : Addr) (f1 : Addr) (w : World) (K : World → Prop) : Prop :=
 (Ld .slice w f0 fun x2 =>
 LoopP (S := Int × Unit) (fun s3 w4 next5 =>
 (bif (decide (s3.1 < (x2.len : Int))) then
 AtIx x2 16 s3.1 fun a6 =>
 Ld (.int .u8) w4 (a6.add 0) fun x7 =>
 Ld (.int .u8) w4 (a6.add 1) fun x8 =>
 Ld (.int .u8) w4 (a6.add 2) fun x9 =>
 Ld (.int .u8) w4 (a6.add 3) fun x10 =>
 Ld (.int .u8) w4 (a6.add 4) fun x11 =>
 Ld (.int .u8) w4 (a6.add 5) fun x12 =>
 Ld (.int .u8) w4 (a6.add 6) fun x13 =>
 Ld (.int .u8) w4 (a6.add 7) fun x14 =>
 Ld (.int .u8) w4 (a6.add 8) fun x15 =>
 Ld (.int .u8) w4 (a6.add 9) fun x16 =>
 Ld (.int .u8) w4 (a6.add 10) fun x17 =>
 Ld (.int .u8) w4 (a6.add 11) fun x18 =>
 Ld (.int .u8) w4 (a6.add 12) fun x19 =>
 Ld (.int .u8) w4 (a6.add 13) fun x20 =>
 Ld (.int .u8) w4 (a6.add 14) fun x21 =>
 Ld (.int .u8) w4 (a6.add 15) fun x22 =>
 Al w4 (.cells ⟨[(Value.int .u8 0), (Value.int .u8 0), (Value.int .u8 0), (Value.int .u8 0), (Value.int .u8 0), (Value.int .u8 0), (Value.int .u8 0), (Value.int .u8 0), (Value.int .u8 0), (Value.int .u8 0), (Value.int .u8 0), (Value.int .u8 0), (Value.int .u8 0), (Value.int .u8 0), (Value.int .u8 0), (Value.int .u8 0)]⟩ 38) fun a24 w23 =>
 StN [(Value.int .u8 x7), (Value.int .u8 x8), (Value.int .u8 x9), (Value.int .u8 x10), (Value.int .u8 x11), (Value.int .u8 x12), (Value.int .u8 x13), (Value.int .u8 x14), (Value.int .u8 x15), (Value.int .u8 x16), (Value.int .u8 x17), (Value.int .u8 x18), (Value.int .u8 x19), (Value.int .u8 x20), (Value.int .u8 x21), (Value.int .u8 x22)] w23 a24 0 fun w25 =>
 Ld .any w25 f1 fun x26 =>
 Ld (.int .u8) w25 (a24.add 0) fun x27 =>
 Ld (.int .u8) w25 (a24.add 1) fun x28 =>
 Ld (.int .u8) w25 (a24.add 2) fun x29 =>
 Ld (.int .u8) w25 (a24.add 3) fun x30 =>
 Ld (.int .u8) w25 (a24.add 4) fun x31 =>
 Ld (.int .u8) w25 (a24.add 5) fun x32 =>
 Ld (.int .u8) w25 (a24.add 6) fun x33 =>
 Ld (.int .u8) w25 (a24.add 7) fun x34 =>
 Ld (.int .u8) w25 (a24.add 8) fun x35 =>
 Ld (.int .u8) w25 (a24.add 9) fun x36 =>
 Ld (.int .u8) w25 (a24.add 10) fun x37 =>
 Ld (.int .u8) w25 (a24.add 11) fun x38 =>
 Ld (.int .u8) w25 (a24.add 12) fun x39 =>
 Ld (.int .u8) w25 (a24.add 13) fun x40 =>
 Ld (.int .u8) w25 (a24.add 14) fun x41 =>
 Ld (.int .u8) w25 (a24.add 15) fun x42 =>
 CallV Try.prog [.agg [(.int .u8), (.int .u8), (.int .u8), (.int .u8), (.int .u8), (.int .u8), (.int .u8), (.int .u8), (.int .u8), (.int .u8), (.int .u8), (.int .u8), (.int .u8), (.int .u8), (.int .u8), (.int .u8)]] x26 [(Value.agg ⟨[(Value.int .u8 x27), (Value.int .u8 x28), (Value.int .u8 x29), (Value.int .u8 x30), (Value.int .u8 x31), (Value.int .u8 x32), (Value.int .u8 x33), (Value.int .u8 x34), (Value.int .u8 x35), (Value.int .u8 x36), (Value.int .u8 x37), (Value.int .u8 x38), (Value.int .u8 x39), (Value.int .u8 x40), (Value.int .u8 x41), (Value.int .u8 x42)]⟩)] w25 fun r43 w44 =>
 ∃ r45 : Int, ∃ r46 : Int, ∃ r47 : Int, ∃ r48 : Int, ∃ r49 : Int, ∃ r50 : Int, ∃ r51 : Int, ∃ r52 : Int, ∃ r53 : Int, ∃ r54 : Int, ∃ r55 : Int, ∃ r56 : Int, ∃ r57 : Int, ∃ r58 : Int, ∃ r59 : Int, ∃ r60 : Int, r43 = (Value.agg ⟨[(Value.int .u8 r45), (Value.int .u8 r46), (Value.int .u8 r47), (Value.int .u8 r48), (Value.int .u8 r49), (Value.int .u8 r50), (Value.int .u8 r51), (Value.int .u8 r52), (Value.int .u8 r53), (Value.int .u8 r54), (Value.int .u8 r55), (Value.int .u8 r56), (Value.int .u8 r57), (Value.int .u8 r58), (Value.int .u8 r59), (Value.int .u8 r60)]⟩) ∧
 CallV Try.prog [.one .bool] a0 [(Value.agg ⟨[(Value.int .u8 r45), (Value.int .u8 r46), (Value.int .u8 r47), (Value.int .u8 r48), (Value.int .u8 r49), (Value.int .u8 r50), (Value.int .u8 r51), (Value.int .u8 r52), (Value.int .u8 r53), (Value.int .u8 r54), (Value.int .u8 r55), (Value.int .u8 r56), (Value.int .u8 r57), (Value.int .u8 r58), (Value.int .u8 r59), (Value.int .u8 r60)]⟩)] w44 fun r61 w62 =>
 ∃ r63 : Bool, r61 = (Value.bool r63) ∧
 (bif (!r63) then
 K w62
 else
 next5 ((IntKind.i64.wrap (s3.1 + 1)), ()) w62)
 else
 K w4)) (0, ()) w)
theorem e_config_each_api_Six_api_Six_1 (a0 : Value) (f0 : Addr) (f1 : Addr) (w : World) (K : World → Prop) : den Try.prog 19 (bodyOf Try.f108) none (.seq .leaf (.blk (.loop [(8, (.int .i64))] (.seq .leaf (.seq (.cond .leaf .leaf) (.seq (.blk (.seq .leaf (.seq .leaf (.cond .leaf .leaf)))) .leaf)))))) (argEnv 0 [a0, (Value.pointer (some f0)), (Value.pointer (some f1))]) [] w (retK Try.prog [] [] K) = s_config_each_api_Six_api_Six_1 a0 f0 f1 w K := by kernel_rfl
theorem ok_config_each_api_Six_api_Six_1 {a0 f0 f1 w K} (h : s_config_each_api_Six_api_Six_1 a0 f0 f1 w K) : c_config_each_api_Six_api_Six_1 a0 f0 f1 w K :=
  fn_sound pok Try.func108 (fn := Try.f108) (c := bodyOf Try.f108) (nt := 19) (by kernel_rfl) (by kernel_rfl) (rs := []) (by kernel_rfl) [] K (.seq .leaf (.blk (.loop [(8, (.int .i64))] (.seq .leaf (.seq (.cond .leaf .leaf) (.seq (.blk (.seq .leaf (.seq .leaf (.cond .leaf .leaf)))) .leaf)))))) [a0, (Value.pointer (some f0)), (Value.pointer (some f1))] (by kernel_rfl) w ((e_config_each_api_Six_api_Six_1 a0 f0 f1 w K).mpr h)

/-- goosepond/config.each[int,int]$1 -/
def s_config_each_int_int_1 (a0 : Value) (f0 : Addr) (f1 : Addr) (w : World) (K : World → Prop) : Prop :=
 (Ld .slice w f0 fun x2 =>
 LoopP (S := Int × Unit) (fun s3 w4 next5 =>
 (bif (decide (s3.1 < (x2.len : Int))) then
 AtIx x2 1 s3.1 fun a6 =>
 Ld (.int .i64) w4 a6 fun x7 =>
 Ld .any w4 f1 fun x8 =>
 CallV Try.prog [.one (.int .i64)] x8 [(Value.int .i64 x7)] w4 fun r9 w10 =>
 ∃ r11 : Int, r9 = (Value.int .i64 r11) ∧
 CallV Try.prog [.one .bool] a0 [(Value.int .i64 r11)] w10 fun r12 w13 =>
 ∃ r14 : Bool, r12 = (Value.bool r14) ∧
 (bif (!r14) then
 K w13
 else
 next5 ((IntKind.i64.wrap (s3.1 + 1)), ()) w13)
 else
 K w4)) (0, ()) w)
theorem e_config_each_int_int_1 (a0 : Value) (f0 : Addr) (f1 : Addr) (w : World) (K : World → Prop) : den Try.prog 19 (bodyOf Try.f109) none (.seq .leaf (.blk (.loop [(8, (.int .i64))] (.seq .leaf (.seq (.cond .leaf .leaf) (.seq (.blk (.seq .leaf (.seq .leaf (.cond .leaf .leaf)))) .leaf)))))) (argEnv 0 [a0, (Value.pointer (some f0)), (Value.pointer (some f1))]) [] w (retK Try.prog [] [] K) = s_config_each_int_int_1 a0 f0 f1 w K := by kernel_rfl
theorem ok_config_each_int_int_1 {a0 f0 f1 w K} (h : s_config_each_int_int_1 a0 f0 f1 w K) : c_config_each_int_int_1 a0 f0 f1 w K :=
  fn_sound pok Try.func109 (fn := Try.f109) (c := bodyOf Try.f109) (nt := 19) (by kernel_rfl) (by kernel_rfl) (rs := []) (by kernel_rfl) [] K (.seq .leaf (.blk (.loop [(8, (.int .i64))] (.seq .leaf (.seq (.cond .leaf .leaf) (.seq (.blk (.seq .leaf (.seq .leaf (.cond .leaf .leaf)))) .leaf)))))) [a0, (Value.pointer (some f0)), (Value.pointer (some f1))] (by kernel_rfl) w ((e_config_each_int_int_1 a0 f0 f1 w K).mpr h)

/-- goosepond/config.each[goosepond/api.Static,goosepond/api.Inner]$1 -/
def s_config_each_api_Static_api_Inner_1 (a0 : Value) (f0 : Addr) (f1 : Addr) (w : World) (K : World → Prop) : Prop :=
 (Ld .slice w f0 fun x2 =>
 LoopP (S := Int × Unit) (fun s3 w4 next5 =>
 (bif (decide (s3.1 < (x2.len : Int))) then
 AtIx x2 7 s3.1 fun a6 =>
 Ld (.int .i64) w4 (a6.add 0) fun x7 =>
 Ld (.int .i64) w4 (a6.add 1) fun x8 =>
 Ld (.int .i64) w4 (a6.add 2) fun x9 =>
 Ld (.int .i64) w4 (a6.add 3) fun x10 =>
 Ld (.int .i64) w4 (a6.add 4) fun x11 =>
 Ld (.int .i64) w4 (a6.add 5) fun x12 =>
 Ld (.int .i64) w4 (a6.add 6) fun x13 =>
 Al w4 (.cells ⟨[(Value.int .i64 0), (Value.int .i64 0), (Value.int .i64 0), (Value.int .i64 0), (Value.int .i64 0), (Value.int .i64 0), (Value.int .i64 0)]⟩ 112) fun a15 w14 =>
 StN [(Value.int .i64 x7), (Value.int .i64 x8), (Value.int .i64 x9), (Value.int .i64 x10), (Value.int .i64 x11), (Value.int .i64 x12), (Value.int .i64 x13)] w14 a15 0 fun w16 =>
 Ld .any w16 f1 fun x17 =>
 Ld (.int .i64) w16 (a15.add 0) fun x18 =>
 Ld (.int .i64) w16 (a15.add 1) fun x19 =>
 Ld (.int .i64) w16 (a15.add 2) fun x20 =>
 Ld (.int .i64) w16 (a15.add 3) fun x21 =>
 Ld (.int .i64) w16 (a15.add 4) fun x22 =>
 Ld (.int .i64) w16 (a15.add 5) fun x23 =>
 Ld (.int .i64) w16 (a15.add 6) fun x24 =>
 CallV Try.prog [.agg [(.int .i64), (.int .i64), (.int .i64), (.int .i64)]] x17 [(Value.agg ⟨[(Value.int .i64 x18), (Value.int .i64 x19), (Value.int .i64 x20), (Value.int .i64 x21), (Value.int .i64 x22), (Value.int .i64 x23), (Value.int .i64 x24)]⟩)] w16 fun r25 w26 =>
 ∃ r27 : Int, ∃ r28 : Int, ∃ r29 : Int, ∃ r30 : Int, r25 = (Value.agg ⟨[(Value.int .i64 r27), (Value.int .i64 r28), (Value.int .i64 r29), (Value.int .i64 r30)]⟩) ∧
 CallV Try.prog [.one .bool] a0 [(Value.agg ⟨[(Value.int .i64 r27), (Value.int .i64 r28), (Value.int .i64 r29), (Value.int .i64 r30)]⟩)] w26 fun r31 w32 =>
 ∃ r33 : Bool, r31 = (Value.bool r33) ∧
 (bif (!r33) then
 K w32
 else
 next5 ((IntKind.i64.wrap (s3.1 + 1)), ()) w32)
 else
 K w4)) (0, ()) w)
theorem e_config_each_api_Static_api_Inner_1 (a0 : Value) (f0 : Addr) (f1 : Addr) (w : World) (K : World → Prop) : den Try.prog 19 (bodyOf Try.f110) none (.seq .leaf (.blk (.loop [(8, (.int .i64))] (.seq .leaf (.seq (.cond .leaf .leaf) (.seq (.blk (.seq .leaf (.seq .leaf (.cond .leaf .leaf)))) .leaf)))))) (argEnv 0 [a0, (Value.pointer (some f0)), (Value.pointer (some f1))]) [] w (retK Try.prog [] [] K) = s_config_each_api_Static_api_Inner_1 a0 f0 f1 w K := by kernel_rfl
theorem ok_config_each_api_Static_api_Inner_1 {a0 f0 f1 w K} (h : s_config_each_api_Static_api_Inner_1 a0 f0 f1 w K) : c_config_each_api_Static_api_Inner_1 a0 f0 f1 w K :=
  fn_sound pok Try.func110 (fn := Try.f110) (c := bodyOf Try.f110) (nt := 19) (by kernel_rfl) (by kernel_rfl) (rs := []) (by kernel_rfl) [] K (.seq .leaf (.blk (.loop [(8, (.int .i64))] (.seq .leaf (.seq (.cond .leaf .leaf) (.seq (.blk (.seq .leaf (.seq .leaf (.cond .leaf .leaf)))) .leaf)))))) [a0, (Value.pointer (some f0)), (Value.pointer (some f1))] (by kernel_rfl) w ((e_config_each_api_Static_api_Inner_1 a0 f0 f1 w K).mpr h)

/-- goosepond/config.each[goosepond/api.Static,goosepond/api.Outer]$1 -/
def s_config_each_api_Static_api_Outer_1 (a0 : Value) (f0 : Addr) (f1 : Addr) (w : World) (K : World → Prop) : Prop :=
 (Ld .slice w f0 fun x2 =>
 LoopP (S := Int × Unit) (fun s3 w4 next5 =>
 (bif (decide (s3.1 < (x2.len : Int))) then
 AtIx x2 7 s3.1 fun a6 =>
 Ld (.int .i64) w4 (a6.add 0) fun x7 =>
 Ld (.int .i64) w4 (a6.add 1) fun x8 =>
 Ld (.int .i64) w4 (a6.add 2) fun x9 =>
 Ld (.int .i64) w4 (a6.add 3) fun x10 =>
 Ld (.int .i64) w4 (a6.add 4) fun x11 =>
 Ld (.int .i64) w4 (a6.add 5) fun x12 =>
 Ld (.int .i64) w4 (a6.add 6) fun x13 =>
 Al w4 (.cells ⟨[(Value.int .i64 0), (Value.int .i64 0), (Value.int .i64 0), (Value.int .i64 0), (Value.int .i64 0), (Value.int .i64 0), (Value.int .i64 0)]⟩ 112) fun a15 w14 =>
 StN [(Value.int .i64 x7), (Value.int .i64 x8), (Value.int .i64 x9), (Value.int .i64 x10), (Value.int .i64 x11), (Value.int .i64 x12), (Value.int .i64 x13)] w14 a15 0 fun w16 =>
 Ld .any w16 f1 fun x17 =>
 Ld (.int .i64) w16 (a15.add 0) fun x18 =>
 Ld (.int .i64) w16 (a15.add 1) fun x19 =>
 Ld (.int .i64) w16 (a15.add 2) fun x20 =>
 Ld (.int .i64) w16 (a15.add 3) fun x21 =>
 Ld (.int .i64) w16 (a15.add 4) fun x22 =>
 Ld (.int .i64) w16 (a15.add 5) fun x23 =>
 Ld (.int .i64) w16 (a15.add 6) fun x24 =>
 CallV Try.prog [.agg [(.int .i64), (.int .i64), (.int .i64)]] x17 [(Value.agg ⟨[(Value.int .i64 x18), (Value.int .i64 x19), (Value.int .i64 x20), (Value.int .i64 x21), (Value.int .i64 x22), (Value.int .i64 x23), (Value.int .i64 x24)]⟩)] w16 fun r25 w26 =>
 ∃ r27 : Int, ∃ r28 : Int, ∃ r29 : Int, r25 = (Value.agg ⟨[(Value.int .i64 r27), (Value.int .i64 r28), (Value.int .i64 r29)]⟩) ∧
 CallV Try.prog [.one .bool] a0 [(Value.agg ⟨[(Value.int .i64 r27), (Value.int .i64 r28), (Value.int .i64 r29)]⟩)] w26 fun r30 w31 =>
 ∃ r32 : Bool, r30 = (Value.bool r32) ∧
 (bif (!r32) then
 K w31
 else
 next5 ((IntKind.i64.wrap (s3.1 + 1)), ()) w31)
 else
 K w4)) (0, ()) w)
theorem e_config_each_api_Static_api_Outer_1 (a0 : Value) (f0 : Addr) (f1 : Addr) (w : World) (K : World → Prop) : den Try.prog 19 (bodyOf Try.f111) none (.seq .leaf (.blk (.loop [(8, (.int .i64))] (.seq .leaf (.seq (.cond .leaf .leaf) (.seq (.blk (.seq .leaf (.seq .leaf (.cond .leaf .leaf)))) .leaf)))))) (argEnv 0 [a0, (Value.pointer (some f0)), (Value.pointer (some f1))]) [] w (retK Try.prog [] [] K) = s_config_each_api_Static_api_Outer_1 a0 f0 f1 w K := by kernel_rfl
theorem ok_config_each_api_Static_api_Outer_1 {a0 f0 f1 w K} (h : s_config_each_api_Static_api_Outer_1 a0 f0 f1 w K) : c_config_each_api_Static_api_Outer_1 a0 f0 f1 w K :=
  fn_sound pok Try.func111 (fn := Try.f111) (c := bodyOf Try.f111) (nt := 19) (by kernel_rfl) (by kernel_rfl) (rs := []) (by kernel_rfl) [] K (.seq .leaf (.blk (.loop [(8, (.int .i64))] (.seq .leaf (.seq (.cond .leaf .leaf) (.seq (.blk (.seq .leaf (.seq .leaf (.cond .leaf .leaf)))) .leaf)))))) [a0, (Value.pointer (some f0)), (Value.pointer (some f1))] (by kernel_rfl) w ((e_config_each_api_Static_api_Outer_1 a0 f0 f1 w K).mpr h)

/-- goosepond/goosepondref20.pool -/
def s_ref20_pool (a0_0 : Int) (a0_1 : Int) (a0_2 : Int) (a0_3 : Int) (a0_4 : Int) (a0_5 : Int) (a0_6 : Int) (a0_7 : Int) (a0_8 : Int) (a0_9 : Int) (a0_10 : Int) (a0_11 : Int) (a0_12 : Int) (a0_13 : Int) (a0_14 : Int) (a0_15 : Int) (a0_16 : SliceV) (a0_17 : SliceV) (a0_18 : Int) (a0_19 : Int) (a0_20 : Int) (a0_21 : Int) (a0_22 : Int) (a0_23 : Int) (a0_24 : Int) (a0_25 : Int) (a0_26 : Int) (a0_27 : Int) (a0_28 : Int) (a0_29 : Int) (a0_30 : Int) (a0_31 : Int) (a0_32 : Int) (a0_33 : Int) (a0_34 : Int) (a0_35 : SliceV) (a1 : Int) (w : World) (K : Bool → World → Prop) : Prop :=
 (Al w (.cells ⟨((Value.int .u8 a0_0) :: (Value.int .u8 a0_1) :: (Value.int .u8 a0_2) :: (Value.int .u8 a0_3) :: (Value.int .u8 a0_4) :: (Value.int .u8 a0_5) :: (Value.int .u8 a0_6) :: (Value.int .u8 a0_7) :: (Value.int .u8 a0_8) :: (Value.int .u8 a0_9) :: (Value.int .u8 a0_10) :: (Value.int .u8 a0_11) :: (Value.int .u8 a0_12) :: (Value.int .u8 a0_13) :: (Value.int .u8 a0_14) :: (Value.int .u8 a0_15) :: (Value.slice a0_16.a a0_16.len a0_16.cap) :: (Value.slice a0_17.a a0_17.len a0_17.cap) :: (Value.int .i64 a0_18) :: (Value.int .i64 a0_19) :: (Value.int .i64 a0_20) :: (Value.int .i64 a0_21) :: (Value.int .i64 a0_22) :: (Value.int .i64 a0_23) :: (Value.int .i64 a0_24) :: (Value.int .i64 a0_25) :: (Value.int .i64 a0_26) :: (Value.int .i64 a0_27) :: (Value.int .i64 a0_28) :: (Value.int .i64 a0_29) :: (Value.int .i64 a0_30) :: (Value.int .i64 a0_31) :: (Value.int .i64 a0_32) :: (Value.int .i64 a0_33) :: (Value.int .i64 a0_34) :: (Value.slice a0_35.a a0_35.len a0_35.cap) :: [])⟩ 42) fun a4 w3 =>
 LoopP (S := Int × Unit) (fun s5 w6 next7 =>
 Ld .slice w6 (a4.add 17) fun x8 =>
 (bif (decide (s5.1 < (x8.len : Int))) then
 Ld .slice w6 (a4.add 17) fun x9 =>
 AtIx x9 1 s5.1 fun a10 =>
 Ld (.int .i64) w6 a10 fun x11 =>
 (bif (x11 == a1) then
 K true w6
 else
 next7 ((IntKind.i64.wrap (s5.1 + 1)), ()) w6)
 else
 K false w6)) (0, ()) w3)
theorem e_ref20_pool (a0_0 : Int) (a0_1 : Int) (a0_2 : Int) (a0_3 : Int) (a0_4 : Int) (a0_5 : Int) (a0_6 : Int) (a0_7 : Int) (a0_8 : Int) (a0_9 : Int) (a0_10 : Int) (a0_11 : Int) (a0_12 : Int) (a0_13 : Int) (a0_14 : Int) (a0_15 : Int) (a0_16 : SliceV) (a0_17 : SliceV) (a0_18 : Int) (a0_19 : Int) (a0_20 : Int) (a0_21 : Int) (a0_22 : Int) (a0_23 : Int) (a0_24 : Int) (a0_25 : Int) (a0_26 : Int) (a0_27 : Int) (a0_28 : Int) (a0_29 : Int) (a0_30 : Int) (a0_31 : Int) (a0_32 : Int) (a0_33 : Int) (a0_34 : Int) (a0_35 : SliceV) (a1 : Int) (w : World) (K : Bool → World → Prop) : den Try.prog 20 (bodyOf Try.f112) none (.seq .leaf (.seq (.seq .leaf (.blk (.loop [(5, (.int .i64))] (.seq (.seq .leaf (.cond .leaf .leaf)) (.seq (.blk (.seq .leaf (.cond (.seq .leaf .leaf) .leaf))) .leaf))))) (.seq .leaf .leaf))) (argEnv 0 [(Value.agg ⟨((Value.int .u8 a0_0) :: (Value.int .u8 a0_1) :: (Value.int .u8 a0_2) :: (Value.int .u8 a0_3) :: (Value.int .u8 a0_4) :: (Value.int .u8 a0_5) :: (Value.int .u8 a0_6) :: (Value.int .u8 a0_7) :: (Value.int .u8 a0_8) :: (Value.int .u8 a0_9) :: (Value.int .u8 a0_10) :: (Value.int .u8 a0_11) :: (Value.int .u8 a0_12) :: (Value.int .u8 a0_13) :: (Value.int .u8 a0_14) :: (Value.int .u8 a0_15) :: (Value.slice a0_16.a a0_16.len a0_16.cap) :: (Value.slice a0_17.a a0_17.len a0_17.cap) :: (Value.int .i64 a0_18) :: (Value.int .i64 a0_19) :: (Value.int .i64 a0_20) :: (Value.int .i64 a0_21) :: (Value.int .i64 a0_22) :: (Value.int .i64 a0_23) :: (Value.int .i64 a0_24) :: (Value.int .i64 a0_25) :: (Value.int .i64 a0_26) :: (Value.int .i64 a0_27) :: (Value.int .i64 a0_28) :: (Value.int .i64 a0_29) :: (Value.int .i64 a0_30) :: (Value.int .i64 a0_31) :: (Value.int .i64 a0_32) :: (Value.int .i64 a0_33) :: (Value.int .i64 a0_34) :: (Value.slice a0_35.a a0_35.len a0_35.cap) :: [])⟩), (Value.int .i64 a1)]) [] w (retK Try.prog [.tmp 4] [.one .bool] K) = s_ref20_pool a0_0 a0_1 a0_2 a0_3 a0_4 a0_5 a0_6 a0_7 a0_8 a0_9 a0_10 a0_11 a0_12 a0_13 a0_14 a0_15 a0_16 a0_17 a0_18 a0_19 a0_20 a0_21 a0_22 a0_23 a0_24 a0_25 a0_26 a0_27 a0_28 a0_29 a0_30 a0_31 a0_32 a0_33 a0_34 a0_35 a1 w K := by kernel_rfl
theorem ok_ref20_pool {a0_0 a0_1 a0_2 a0_3 a0_4 a0_5 a0_6 a0_7 a0_8 a0_9 a0_10 a0_11 a0_12 a0_13 a0_14 a0_15 a0_16 a0_17 a0_18 a0_19 a0_20 a0_21 a0_22 a0_23 a0_24 a0_25 a0_26 a0_27 a0_28 a0_29 a0_30 a0_31 a0_32 a0_33 a0_34 a0_35 a1 w K} (h : s_ref20_pool a0_0 a0_1 a0_2 a0_3 a0_4 a0_5 a0_6 a0_7 a0_8 a0_9 a0_10 a0_11 a0_12 a0_13 a0_14 a0_15 a0_16 a0_17 a0_18 a0_19 a0_20 a0_21 a0_22 a0_23 a0_24 a0_25 a0_26 a0_27 a0_28 a0_29 a0_30 a0_31 a0_32 a0_33 a0_34 a0_35 a1 w K) : c_ref20_pool a0_0 a0_1 a0_2 a0_3 a0_4 a0_5 a0_6 a0_7 a0_8 a0_9 a0_10 a0_11 a0_12 a0_13 a0_14 a0_15 a0_16 a0_17 a0_18 a0_19 a0_20 a0_21 a0_22 a0_23 a0_24 a0_25 a0_26 a0_27 a0_28 a0_29 a0_30 a0_31 a0_32 a0_33 a0_34 a0_35 a1 w K :=
  fn_sound pok Try.func112 (fn := Try.f112) (c := bodyOf Try.f112) (nt := 20) (by kernel_rfl) (by kernel_rfl) (rs := [.tmp 4]) (by kernel_rfl) [.one .bool] K (.seq .leaf (.seq (.seq .leaf (.blk (.loop [(5, (.int .i64))] (.seq (.seq .leaf (.cond .leaf .leaf)) (.seq (.blk (.seq .leaf (.cond (.seq .leaf .leaf) .leaf))) .leaf))))) (.seq .leaf .leaf))) [(Value.agg ⟨((Value.int .u8 a0_0) :: (Value.int .u8 a0_1) :: (Value.int .u8 a0_2) :: (Value.int .u8 a0_3) :: (Value.int .u8 a0_4) :: (Value.int .u8 a0_5) :: (Value.int .u8 a0_6) :: (Value.int .u8 a0_7) :: (Value.int .u8 a0_8) :: (Value.int .u8 a0_9) :: (Value.int .u8 a0_10) :: (Value.int .u8 a0_11) :: (Value.int .u8 a0_12) :: (Value.int .u8 a0_13) :: (Value.int .u8 a0_14) :: (Value.int .u8 a0_15) :: (Value.slice a0_16.a a0_16.len a0_16.cap) :: (Value.slice a0_17.a a0_17.len a0_17.cap) :: (Value.int .i64 a0_18) :: (Value.int .i64 a0_19) :: (Value.int .i64 a0_20) :: (Value.int .i64 a0_21) :: (Value.int .i64 a0_22) :: (Value.int .i64 a0_23) :: (Value.int .i64 a0_24) :: (Value.int .i64 a0_25) :: (Value.int .i64 a0_26) :: (Value.int .i64 a0_27) :: (Value.int .i64 a0_28) :: (Value.int .i64 a0_29) :: (Value.int .i64 a0_30) :: (Value.int .i64 a0_31) :: (Value.int .i64 a0_32) :: (Value.int .i64 a0_33) :: (Value.int .i64 a0_34) :: (Value.slice a0_35.a a0_35.len a0_35.cap) :: [])⟩), (Value.int .i64 a1)] (by kernel_rfl) w ((e_ref20_pool a0_0 a0_1 a0_2 a0_3 a0_4 a0_5 a0_6 a0_7 a0_8 a0_9 a0_10 a0_11 a0_12 a0_13 a0_14 a0_15 a0_16 a0_17 a0_18 a0_19 a0_20 a0_21 a0_22 a0_23 a0_24 a0_25 a0_26 a0_27 a0_28 a0_29 a0_30 a0_31 a0_32 a0_33 a0_34 a0_35 a1 w K).mpr h)

end Go.Proofs
