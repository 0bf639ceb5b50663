import Derived.Test.YtjejhaefbhbghaaG19p
import Derived.Test.YtjejhaefbhbghaaG19c
namespace Go.Proofs
open Gp
set_option maxRecDepth 100000
set_option maxHeartbeats 4000000
/-- goosepond/goosepondlaw20.ConfigChecks -/
abbrev n_law20_ConfigChecks : FuncId := 4
def c_law20_ConfigChecks (a0_0 : Int) (a0_1 : Int) (a0_2 : Int) (a0_3 : Int) (a0_4 : Int) (a0_5 : Int) (a0_6 : Int) (a0_7 : Int) (a0_8 : Int) (a0_9 : Int) (a0_10 : Int) (a0_11 : Int) (a0_12 : Int) (a0_13 : Int) (a0_14 : Int) (a0_15 : Int) (a0_16 : SliceV) (a0_17 : SliceV) (a0_18 : Int) (a0_19 : Int) (a0_20 : Int) (a0_21 : Int) (a0_22 : Int) (a0_23 : Int) (a0_24 : Int) (a0_25 : Int) (a0_26 : Int) (a0_27 : Int) (a0_28 : Int) (a0_29 : Int) (a0_30 : Int) (a0_31 : Int) (a0_32 : Int) (a0_33 : Int) (a0_34 : Int) (a0_35 : SliceV) (a1_0 : Int) (a1_1 : Int) (a1_2 : Int) (a1_3 : Int) (a1_4 : Int) (a1_5 : Int) (a1_6 : Int) (a1_7 : Int) (a1_8 : Int) (a1_9 : Int) (a1_10 : Int) (a1_11 : Int) (a1_12 : Int) (a1_13 : Int) (a1_14 : Int) (a1_15 : Int) (a2 : Int) (a3 : Int) (w : World) (K : Bool → World → Prop) : Prop :=
  Calls Try.prog 4 ⟨[(Value.agg ⟨((Value.int .u8 a0_0) :: (Value.int .u8 a0_1) :: (Value.int .u8 a0_2) :: (Value.int .u8 a0_3) :: (Value.int .u8 a0_4) :: (Value.int .u8 a0_5) :: (Value.int .u8 a0_6) :: (Value.int .u8 a0_7) :: (Value.int .u8 a0_8) :: (Value.int .u8 a0_9) :: (Value.int .u8 a0_10) :: (Value.int .u8 a0_11) :: (Value.int .u8 a0_12) :: (Value.int .u8 a0_13) :: (Value.int .u8 a0_14) :: (Value.int .u8 a0_15) :: (Value.slice a0_16.a a0_16.len a0_16.cap) :: (Value.slice a0_17.a a0_17.len a0_17.cap) :: (Value.int .i64 a0_18) :: (Value.int .i64 a0_19) :: (Value.int .i64 a0_20) :: (Value.int .i64 a0_21) :: (Value.int .i64 a0_22) :: (Value.int .i64 a0_23) :: (Value.int .i64 a0_24) :: (Value.int .i64 a0_25) :: (Value.int .i64 a0_26) :: (Value.int .i64 a0_27) :: (Value.int .i64 a0_28) :: (Value.int .i64 a0_29) :: (Value.int .i64 a0_30) :: (Value.int .i64 a0_31) :: (Value.int .i64 a0_32) :: (Value.int .i64 a0_33) :: (Value.int .i64 a0_34) :: (Value.slice a0_35.a a0_35.len a0_35.cap) :: [])⟩), (Value.agg ⟨[(Value.int .u8 a1_0), (Value.int .u8 a1_1), (Value.int .u8 a1_2), (Value.int .u8 a1_3), (Value.int .u8 a1_4), (Value.int .u8 a1_5), (Value.int .u8 a1_6), (Value.int .u8 a1_7), (Value.int .u8 a1_8), (Value.int .u8 a1_9), (Value.int .u8 a1_10), (Value.int .u8 a1_11), (Value.int .u8 a1_12), (Value.int .u8 a1_13), (Value.int .u8 a1_14), (Value.int .u8 a1_15)]⟩), (Value.int .i64 a2), (Value.int .i64 a3)]⟩ w fun e w' => ∃ y283 : Bool, e = .returned (Value.bool y283) ∧ K y283 w'
theorem cm_law20_ConfigChecks {a0_0 a0_1 a0_2 a0_3 a0_4 a0_5 a0_6 a0_7 a0_8 a0_9 a0_10 a0_11 a0_12 a0_13 a0_14 a0_15 a0_16 a0_17 a0_18 a0_19 a0_20 a0_21 a0_22 a0_23 a0_24 a0_25 a0_26 a0_27 a0_28 a0_29 a0_30 a0_31 a0_32 a0_33 a0_34 a0_35 a1_0 a1_1 a1_2 a1_3 a1_4 a1_5 a1_6 a1_7 a1_8 a1_9 a1_10 a1_11 a1_12 a1_13 a1_14 a1_15 a2 a3 w K K'} (h : c_law20_ConfigChecks a0_0 a0_1 a0_2 a0_3 a0_4 a0_5 a0_6 a0_7 a0_8 a0_9 a0_10 a0_11 a0_12 a0_13 a0_14 a0_15 a0_16 a0_17 a0_18 a0_19 a0_20 a0_21 a0_22 a0_23 a0_24 a0_25 a0_26 a0_27 a0_28 a0_29 a0_30 a0_31 a0_32 a0_33 a0_34 a0_35 a1_0 a1_1 a1_2 a1_3 a1_4 a1_5 a1_6 a1_7 a1_8 a1_9 a1_10 a1_11 a1_12 a1_13 a1_14 a1_15 a2 a3 w K) (hk : ∀ x0 w', K x0 w' → K' x0 w') : c_law20_ConfigChecks a0_0 a0_1 a0_2 a0_3 a0_4 a0_5 a0_6 a0_7 a0_8 a0_9 a0_10 a0_11 a0_12 a0_13 a0_14 a0_15 a0_16 a0_17 a0_18 a0_19 a0_20 a0_21 a0_22 a0_23 a0_24 a0_25 a0_26 a0_27 a0_28 a0_29 a0_30 a0_31 a0_32 a0_33 a0_34 a0_35 a1_0 a1_1 a1_2 a1_3 a1_4 a1_5 a1_6 a1_7 a1_8 a1_9 a1_10 a1_11 a1_12 a1_13 a1_14 a1_15 a2 a3 w K' :=
  Calls.mono h fun e w' hh => by obtain ⟨x0, he, hx⟩ := hh; exact ⟨x0, he, hk _ _ hx⟩

/-- goosepond/goosepondlaw20.ConfigWaits -/
abbrev n_law20_ConfigWaits : FuncId := 5
def c_law20_ConfigWaits (a0_0 : Int) (a0_1 : Int) (a0_2 : Int) (a0_3 : Int) (a0_4 : Int) (a0_5 : Int) (a0_6 : Int) (a0_7 : Int) (a0_8 : Int) (a0_9 : Int) (a0_10 : Int) (a0_11 : Int) (a0_12 : Int) (a0_13 : Int) (a0_14 : Int) (a0_15 : Int) (a0_16 : SliceV) (a0_17 : SliceV) (a0_18 : Int) (a0_19 : Int) (a0_20 : Int) (a0_21 : Int) (a0_22 : Int) (a0_23 : Int) (a0_24 : Int) (a0_25 : Int) (a0_26 : Int) (a0_27 : Int) (a0_28 : Int) (a0_29 : Int) (a0_30 : Int) (a0_31 : Int) (a0_32 : Int) (a0_33 : Int) (a0_34 : Int) (a0_35 : SliceV) (a1 : Int) (w : World) (K : Bool → World → Prop) : Prop :=
  Calls Try.prog 5 ⟨[(Value.agg ⟨((Value.int .u8 a0_0) :: (Value.int .u8 a0_1) :: (Value.int .u8 a0_2) :: (Value.int .u8 a0_3) :: (Value.int .u8 a0_4) :: (Value.int .u8 a0_5) :: (Value.int .u8 a0_6) :: (Value.int .u8 a0_7) :: (Value.int .u8 a0_8) :: (Value.int .u8 a0_9) :: (Value.int .u8 a0_10) :: (Value.int .u8 a0_11) :: (Value.int .u8 a0_12) :: (Value.int .u8 a0_13) :: (Value.int .u8 a0_14) :: (Value.int .u8 a0_15) :: (Value.slice a0_16.a a0_16.len a0_16.cap) :: (Value.slice a0_17.a a0_17.len a0_17.cap) :: (Value.int .i64 a0_18) :: (Value.int .i64 a0_19) :: (Value.int .i64 a0_20) :: (Value.int .i64 a0_21) :: (Value.int .i64 a0_22) :: (Value.int .i64 a0_23) :: (Value.int .i64 a0_24) :: (Value.int .i64 a0_25) :: (Value.int .i64 a0_26) :: (Value.int .i64 a0_27) :: (Value.int .i64 a0_28) :: (Value.int .i64 a0_29) :: (Value.int .i64 a0_30) :: (Value.int .i64 a0_31) :: (Value.int .i64 a0_32) :: (Value.int .i64 a0_33) :: (Value.int .i64 a0_34) :: (Value.slice a0_35.a a0_35.len a0_35.cap) :: [])⟩), (Value.int .i64 a1)]⟩ w fun e w' => ∃ y208 : Bool, e = .returned (Value.bool y208) ∧ K y208 w'
theorem cm_law20_ConfigWaits {a0_0 a0_1 a0_2 a0_3 a0_4 a0_5 a0_6 a0_7 a0_8 a0_9 a0_10 a0_11 a0_12 a0_13 a0_14 a0_15 a0_16 a0_17 a0_18 a0_19 a0_20 a0_21 a0_22 a0_23 a0_24 a0_25 a0_26 a0_27 a0_28 a0_29 a0_30 a0_31 a0_32 a0_33 a0_34 a0_35 a1 w K K'} (h : c_law20_ConfigWaits a0_0 a0_1 a0_2 a0_3 a0_4 a0_5 a0_6 a0_7 a0_8 a0_9 a0_10 a0_11 a0_12 a0_13 a0_14 a0_15 a0_16 a0_17 a0_18 a0_19 a0_20 a0_21 a0_22 a0_23 a0_24 a0_25 a0_26 a0_27 a0_28 a0_29 a0_30 a0_31 a0_32 a0_33 a0_34 a0_35 a1 w K) (hk : ∀ x0 w', K x0 w' → K' x0 w') : c_law20_ConfigWaits a0_0 a0_1 a0_2 a0_3 a0_4 a0_5 a0_6 a0_7 a0_8 a0_9 a0_10 a0_11 a0_12 a0_13 a0_14 a0_15 a0_16 a0_17 a0_18 a0_19 a0_20 a0_21 a0_22 a0_23 a0_24 a0_25 a0_26 a0_27 a0_28 a0_29 a0_30 a0_31 a0_32 a0_33 a0_34 a0_35 a1 w K' :=
  Calls.mono h fun e w' hh => by obtain ⟨x0, he, hx⟩ := hh; exact ⟨x0, he, hk _ _ hx⟩

/-- goosepond/goosepondlaw20.ConfigBase -/
abbrev n_law20_ConfigBase : FuncId := 6
def c_law20_ConfigBase (a0_0 : Int) (a0_1 : Int) (a0_2 : Int) (a0_3 : Int) (a0_4 : Int) (a0_5 : Int) (a0_6 : Int) (a0_7 : Int) (a0_8 : Int) (a0_9 : Int) (a0_10 : Int) (a0_11 : Int) (a0_12 : Int) (a0_13 : Int) (a0_14 : Int) (a0_15 : Int) (a1 : Int) (w : World) (K : Bool → World → Prop) : Prop :=
  Calls Try.prog 6 ⟨[(Value.agg ⟨[(Value.int .u8 a0_0), (Value.int .u8 a0_1), (Value.int .u8 a0_2), (Value.int .u8 a0_3), (Value.int .u8 a0_4), (Value.int .u8 a0_5), (Value.int .u8 a0_6), (Value.int .u8 a0_7), (Value.int .u8 a0_8), (Value.int .u8 a0_9), (Value.int .u8 a0_10), (Value.int .u8 a0_11), (Value.int .u8 a0_12), (Value.int .u8 a0_13), (Value.int .u8 a0_14), (Value.int .u8 a0_15)]⟩), (Value.int .i64 a1)]⟩ w fun e w' => ∃ y349 : Bool, e = .returned (Value.bool y349) ∧ K y349 w'
theorem cm_law20_ConfigBase {a0_0 a0_1 a0_2 a0_3 a0_4 a0_5 a0_6 a0_7 a0_8 a0_9 a0_10 a0_11 a0_12 a0_13 a0_14 a0_15 a1 w K K'} (h : c_law20_ConfigBase a0_0 a0_1 a0_2 a0_3 a0_4 a0_5 a0_6 a0_7 a0_8 a0_9 a0_10 a0_11 a0_12 a0_13 a0_14 a0_15 a1 w K) (hk : ∀ x0 w', K x0 w' → K' x0 w') : c_law20_ConfigBase a0_0 a0_1 a0_2 a0_3 a0_4 a0_5 a0_6 a0_7 a0_8 a0_9 a0_10 a0_11 a0_12 a0_13 a0_14 a0_15 a1 w K' :=
  Calls.mono h fun e w' hh => by obtain ⟨x0, he, hx⟩ := hh; exact ⟨x0, he, hk _ _ hx⟩

/-- goosepond/goosepondlaw20.awake -/
abbrev n_law20_awake : FuncId := 13
def c_law20_awake  (w : World) (K : Bool → World → Prop) : Prop :=
  Calls Try.prog 13 ⟨[]⟩ w fun e w' => ∃ y178 : Bool, e = .returned (Value.bool y178) ∧ K y178 w'
theorem cm_law20_awake { w K K'} (h : c_law20_awake  w K) (hk : ∀ x0 w', K x0 w' → K' x0 w') : c_law20_awake  w K' :=
  Calls.mono h fun e w' hh => by obtain ⟨x0, he, hx⟩ := hh; exact ⟨x0, he, hk _ _ hx⟩

/-- goosepond/config.Softwire -/
abbrev n_config_Softwire : FuncId := 14
def c_config_Softwire (a0_0 : Int) (a0_1 : Int) (a0_2 : Int) (a0_3 : Int) (a0_4 : Int) (a0_5 : Int) (a0_6 : Int) (a0_7 : Int) (a0_8 : Int) (a0_9 : Int) (a0_10 : Int) (a0_11 : Int) (a0_12 : Int) (a0_13 : Int) (a0_14 : Int) (a0_15 : Int) (a0_16 : SliceV) (a0_17 : SliceV) (a0_18 : Int) (a0_19 : Int) (a0_20 : Int) (a0_21 : Int) (a0_22 : Int) (a0_23 : Int) (a0_24 : Int) (a0_25 : Int) (a0_26 : Int) (a0_27 : Int) (a0_28 : Int) (a0_29 : Int) (a0_30 : Int) (a0_31 : Int) (a0_32 : Int) (a0_33 : Int) (a0_34 : Int) (a0_35 : SliceV) (a1_0 : Int) (a1_1 : Int) (a1_2 : Int) (a1_3 : Int) (a1_4 : Int) (a1_5 : Int) (a1_6 : Int) (a1_7 : Int) (a1_8 : Int) (a1_9 : Int) (a1_10 : Int) (a1_11 : Int) (a1_12 : Int) (a1_13 : Int) (a1_14 : Int) (a1_15 : Int) (w : World) (K : Int → Bool → World → Prop) : Prop :=
  Calls Try.prog 14 ⟨[(Value.agg ⟨((Value.int .u8 a0_0) :: (Value.int .u8 a0_1) :: (Value.int .u8 a0_2) :: (Value.int .u8 a0_3) :: (Value.int .u8 a0_4) :: (Value.int .u8 a0_5) :: (Value.int .u8 a0_6) :: (Value.int .u8 a0_7) :: (Value.int .u8 a0_8) :: (Value.int .u8 a0_9) :: (Value.int .u8 a0_10) :: (Value.int .u8 a0_11) :: (Value.int .u8 a0_12) :: (Value.int .u8 a0_13) :: (Value.int .u8 a0_14) :: (Value.int .u8 a0_15) :: (Value.slice a0_16.a a0_16.len a0_16.cap) :: (Value.slice a0_17.a a0_17.len a0_17.cap) :: (Value.int .i64 a0_18) :: (Value.int .i64 a0_19) :: (Value.int .i64 a0_20) :: (Value.int .i64 a0_21) :: (Value.int .i64 a0_22) :: (Value.int .i64 a0_23) :: (Value.int .i64 a0_24) :: (Value.int .i64 a0_25) :: (Value.int .i64 a0_26) :: (Value.int .i64 a0_27) :: (Value.int .i64 a0_28) :: (Value.int .i64 a0_29) :: (Value.int .i64 a0_30) :: (Value.int .i64 a0_31) :: (Value.int .i64 a0_32) :: (Value.int .i64 a0_33) :: (Value.int .i64 a0_34) :: (Value.slice a0_35.a a0_35.len a0_35.cap) :: [])⟩), (Value.agg ⟨[(Value.int .u8 a1_0), (Value.int .u8 a1_1), (Value.int .u8 a1_2), (Value.int .u8 a1_3), (Value.int .u8 a1_4), (Value.int .u8 a1_5), (Value.int .u8 a1_6), (Value.int .u8 a1_7), (Value.int .u8 a1_8), (Value.int .u8 a1_9), (Value.int .u8 a1_10), (Value.int .u8 a1_11), (Value.int .u8 a1_12), (Value.int .u8 a1_13), (Value.int .u8 a1_14), (Value.int .u8 a1_15)]⟩)]⟩ w fun e w' => ∃ y26 : Int, ∃ y27 : Bool, e = .returned (Value.tuple ⟨[(Value.int .i64 y26), (Value.bool y27)]⟩) ∧ K y26 y27 w'
theorem cm_config_Softwire {a0_0 a0_1 a0_2 a0_3 a0_4 a0_5 a0_6 a0_7 a0_8 a0_9 a0_10 a0_11 a0_12 a0_13 a0_14 a0_15 a0_16 a0_17 a0_18 a0_19 a0_20 a0_21 a0_22 a0_23 a0_24 a0_25 a0_26 a0_27 a0_28 a0_29 a0_30 a0_31 a0_32 a0_33 a0_34 a0_35 a1_0 a1_1 a1_2 a1_3 a1_4 a1_5 a1_6 a1_7 a1_8 a1_9 a1_10 a1_11 a1_12 a1_13 a1_14 a1_15 w K K'} (h : c_config_Softwire a0_0 a0_1 a0_2 a0_3 a0_4 a0_5 a0_6 a0_7 a0_8 a0_9 a0_10 a0_11 a0_12 a0_13 a0_14 a0_15 a0_16 a0_17 a0_18 a0_19 a0_20 a0_21 a0_22 a0_23 a0_24 a0_25 a0_26 a0_27 a0_28 a0_29 a0_30 a0_31 a0_32 a0_33 a0_34 a0_35 a1_0 a1_1 a1_2 a1_3 a1_4 a1_5 a1_6 a1_7 a1_8 a1_9 a1_10 a1_11 a1_12 a1_13 a1_14 a1_15 w K) (hk : ∀ x0 x1 w', K x0 x1 w' → K' x0 x1 w') : c_config_Softwire a0_0 a0_1 a0_2 a0_3 a0_4 a0_5 a0_6 a0_7 a0_8 a0_9 a0_10 a0_11 a0_12 a0_13 a0_14 a0_15 a0_16 a0_17 a0_18 a0_19 a0_20 a0_21 a0_22 a0_23 a0_24 a0_25 a0_26 a0_27 a0_28 a0_29 a0_30 a0_31 a0_32 a0_33 a0_34 a0_35 a1_0 a1_1 a1_2 a1_3 a1_4 a1_5 a1_6 a1_7 a1_8 a1_9 a1_10 a1_11 a1_12 a1_13 a1_14 a1_15 w K' :=
  Calls.mono h fun e w' hh => by obtain ⟨x0, x1, he, hx⟩ := hh; exact ⟨x0, x1, he, hk _ _ _ hx⟩

/-- goosepond/goosepondref20.Softwire -/
abbrev n_ref20_Softwire : FuncId := 15
def c_ref20_Softwire (a0_0 : Int) (a0_1 : Int) (a0_2 : Int) (a0_3 : Int) (a0_4 : Int) (a0_5 : Int) (a0_6 : Int) (a0_7 : Int) (a0_8 : Int) (a0_9 : Int) (a0_10 : Int) (a0_11 : Int) (a0_12 : Int) (a0_13 : Int) (a0_14 : Int) (a0_15 : Int) (a0_16 : SliceV) (a0_17 : SliceV) (a0_18 : Int) (a0_19 : Int) (a0_20 : Int) (a0_21 : Int) (a0_22 : Int) (a0_23 : Int) (a0_24 : Int) (a0_25 : Int) (a0_26 : Int) (a0_27 : Int) (a0_28 : Int) (a0_29 : Int) (a0_30 : Int) (a0_31 : Int) (a0_32 : Int) (a0_33 : Int) (a0_34 : Int) (a0_35 : SliceV) (a1_0 : Int) (a1_1 : Int) (a1_2 : Int) (a1_3 : Int) (a1_4 : Int) (a1_5 : Int) (a1_6 : Int) (a1_7 : Int) (a1_8 : Int) (a1_9 : Int) (a1_10 : Int) (a1_11 : Int) (a1_12 : Int) (a1_13 : Int) (a1_14 : Int) (a1_15 : Int) (w : World) (K : Int → Bool → World → Prop) : Prop :=
  Calls Try.prog 15 ⟨[(Value.agg ⟨((Value.int .u8 a0_0) :: (Value.int .u8 a0_1) :: (Value.int .u8 a0_2) :: (Value.int .u8 a0_3) :: (Value.int .u8 a0_4) :: (Value.int .u8 a0_5) :: (Value.int .u8 a0_6) :: (Value.int .u8 a0_7) :: (Value.int .u8 a0_8) :: (Value.int .u8 a0_9) :: (Value.int .u8 a0_10) :: (Value.int .u8 a0_11) :: (Value.int .u8 a0_12) :: (Value.int .u8 a0_13) :: (Value.int .u8 a0_14) :: (Value.int .u8 a0_15) :: (Value.slice a0_16.a a0_16.len a0_16.cap) :: (Value.slice a0_17.a a0_17.len a0_17.cap) :: (Value.int .i64 a0_18) :: (Value.int .i64 a0_19) :: (Value.int .i64 a0_20) :: (Value.int .i64 a0_21) :: (Value.int .i64 a0_22) :: (Value.int .i64 a0_23) :: (Value.int .i64 a0_24) :: (Value.int .i64 a0_25) :: (Value.int .i64 a0_26) :: (Value.int .i64 a0_27) :: (Value.int .i64 a0_28) :: (Value.int .i64 a0_29) :: (Value.int .i64 a0_30) :: (Value.int .i64 a0_31) :: (Value.int .i64 a0_32) :: (Value.int .i64 a0_33) :: (Value.int .i64 a0_34) :: (Value.slice a0_35.a a0_35.len a0_35.cap) :: [])⟩), (Value.agg ⟨[(Value.int .u8 a1_0), (Value.int .u8 a1_1), (Value.int .u8 a1_2), (Value.int .u8 a1_3), (Value.int .u8 a1_4), (Value.int .u8 a1_5), (Value.int .u8 a1_6), (Value.int .u8 a1_7), (Value.int .u8 a1_8), (Value.int .u8 a1_9), (Value.int .u8 a1_10), (Value.int .u8 a1_11), (Value.int .u8 a1_12), (Value.int .u8 a1_13), (Value.int .u8 a1_14), (Value.int .u8 a1_15)]⟩)]⟩ w fun e w' => ∃ y45 : Int, ∃ y46 : Bool, e = .returned (Value.tuple ⟨[(Value.int .i64 y45), (Value.bool y46)]⟩) ∧ K y45 y46 w'
theorem cm_ref20_Softwire {a0_0 a0_1 a0_2 a0_3 a0_4 a0_5 a0_6 a0_7 a0_8 a0_9 a0_10 a0_11 a0_12 a0_13 a0_14 a0_15 a0_16 a0_17 a0_18 a0_19 a0_20 a0_21 a0_22 a0_23 a0_24 a0_25 a0_26 a0_27 a0_28 a0_29 a0_30 a0_31 a0_32 a0_33 a0_34 a0_35 a1_0 a1_1 a1_2 a1_3 a1_4 a1_5 a1_6 a1_7 a1_8 a1_9 a1_10 a1_11 a1_12 a1_13 a1_14 a1_15 w K K'} (h : c_ref20_Softwire a0_0 a0_1 a0_2 a0_3 a0_4 a0_5 a0_6 a0_7 a0_8 a0_9 a0_10 a0_11 a0_12 a0_13 a0_14 a0_15 a0_16 a0_17 a0_18 a0_19 a0_20 a0_21 a0_22 a0_23 a0_24 a0_25 a0_26 a0_27 a0_28 a0_29 a0_30 a0_31 a0_32 a0_33 a0_34 a0_35 a1_0 a1_1 a1_2 a1_3 a1_4 a1_5 a1_6 a1_7 a1_8 a1_9 a1_10 a1_11 a1_12 a1_13 a1_14 a1_15 w K) (hk : ∀ x0 x1 w', K x0 x1 w' → K' x0 x1 w') : c_ref20_Softwire a0_0 a0_1 a0_2 a0_3 a0_4 a0_5 a0_6 a0_7 a0_8 a0_9 a0_10 a0_11 a0_12 a0_13 a0_14 a0_15 a0_16 a0_17 a0_18 a0_19 a0_20 a0_21 a0_22 a0_23 a0_24 a0_25 a0_26 a0_27 a0_28 a0_29 a0_30 a0_31 a0_32 a0_33 a0_34 a0_35 a1_0 a1_1 a1_2 a1_3 a1_4 a1_5 a1_6 a1_7 a1_8 a1_9 a1_10 a1_11 a1_12 a1_13 a1_14 a1_15 w K' :=
  Calls.mono h fun e w' hh => by obtain ⟨x0, x1, he, hx⟩ := hh; exact ⟨x0, x1, he, hk _ _ _ hx⟩

/-- goosepond/config.Wait -/
abbrev n_config_Wait : FuncId := 18
def c_config_Wait (a0_0 : Int) (a0_1 : Int) (a0_2 : Int) (a0_3 : Int) (a0_4 : Int) (a0_5 : Int) (a0_6 : Int) (a0_7 : Int) (a0_8 : Int) (a0_9 : Int) (a0_10 : Int) (a0_11 : Int) (a0_12 : Int) (a0_13 : Int) (a0_14 : Int) (a0_15 : Int) (a0_16 : SliceV) (a0_17 : SliceV) (a0_18 : Int) (a0_19 : Int) (a0_20 : Int) (a0_21 : Int) (a0_22 : Int) (a0_23 : Int) (a0_24 : Int) (a0_25 : Int) (a0_26 : Int) (a0_27 : Int) (a0_28 : Int) (a0_29 : Int) (a0_30 : Int) (a0_31 : Int) (a0_32 : Int) (a0_33 : Int) (a0_34 : Int) (a0_35 : SliceV) (a1 : Int) (a2 : Int) (w : World) (K : Int → World → Prop) : Prop :=
  Calls Try.prog 18 ⟨[(Value.agg ⟨((Value.int .u8 a0_0) :: (Value.int .u8 a0_1) :: (Value.int .u8 a0_2) :: (Value.int .u8 a0_3) :: (Value.int .u8 a0_4) :: (Value.int .u8 a0_5) :: (Value.int .u8 a0_6) :: (Value.int .u8 a0_7) :: (Value.int .u8 a0_8) :: (Value.int .u8 a0_9) :: (Value.int .u8 a0_10) :: (Value.int .u8 a0_11) :: (Value.int .u8 a0_12) :: (Value.int .u8 a0_13) :: (Value.int .u8 a0_14) :: (Value.int .u8 a0_15) :: (Value.slice a0_16.a a0_16.len a0_16.cap) :: (Value.slice a0_17.a a0_17.len a0_17.cap) :: (Value.int .i64 a0_18) :: (Value.int .i64 a0_19) :: (Value.int .i64 a0_20) :: (Value.int .i64 a0_21) :: (Value.int .i64 a0_22) :: (Value.int .i64 a0_23) :: (Value.int .i64 a0_24) :: (Value.int .i64 a0_25) :: (Value.int .i64 a0_26) :: (Value.int .i64 a0_27) :: (Value.int .i64 a0_28) :: (Value.int .i64 a0_29) :: (Value.int .i64 a0_30) :: (Value.int .i64 a0_31) :: (Value.int .i64 a0_32) :: (Value.int .i64 a0_33) :: (Value.int .i64 a0_34) :: (Value.slice a0_35.a a0_35.len a0_35.cap) :: [])⟩), (Value.int .i64 a1), (Value.int .i64 a2)]⟩ w fun e w' => ∃ y10 : Int, e = .returned (Value.int .i64 y10) ∧ K y10 w'
theorem cm_config_Wait {a0_0 a0_1 a0_2 a0_3 a0_4 a0_5 a0_6 a0_7 a0_8 a0_9 a0_10 a0_11 a0_12 a0_13 a0_14 a0_15 a0_16 a0_17 a0_18 a0_19 a0_20 a0_21 a0_22 a0_23 a0_24 a0_25 a0_26 a0_27 a0_28 a0_29 a0_30 a0_31 a0_32 a0_33 a0_34 a0_35 a1 a2 w K K'} (h : c_config_Wait a0_0 a0_1 a0_2 a0_3 a0_4 a0_5 a0_6 a0_7 a0_8 a0_9 a0_10 a0_11 a0_12 a0_13 a0_14 a0_15 a0_16 a0_17 a0_18 a0_19 a0_20 a0_21 a0_22 a0_23 a0_24 a0_25 a0_26 a0_27 a0_28 a0_29 a0_30 a0_31 a0_32 a0_33 a0_34 a0_35 a1 a2 w K) (hk : ∀ x0 w', K x0 w' → K' x0 w') : c_config_Wait a0_0 a0_1 a0_2 a0_3 a0_4 a0_5 a0_6 a0_7 a0_8 a0_9 a0_10 a0_11 a0_12 a0_13 a0_14 a0_15 a0_16 a0_17 a0_18 a0_19 a0_20 a0_21 a0_22 a0_23 a0_24 a0_25 a0_26 a0_27 a0_28 a0_29 a0_30 a0_31 a0_32 a0_33 a0_34 a0_35 a1 a2 w K' :=
  Calls.mono h fun e w' hh => by obtain ⟨x0, he, hx⟩ := hh; exact ⟨x0, he, hk _ _ hx⟩

/-- goosepond/goosepondref20.Wait -/
abbrev n_ref20_Wait : FuncId := 19
def c_ref20_Wait (a0_0 : Int) (a0_1 : Int) (a0_2 : Int) (a0_3 : Int) (a0_4 : Int) (a0_5 : Int) (a0_6 : Int) (a0_7 : Int) (a0_8 : Int) (a0_9 : Int) (a0_10 : Int) (a0_11 : Int) (a0_12 : Int) (a0_13 : Int) (a0_14 : Int) (a0_15 : Int) (a0_16 : SliceV) (a0_17 : SliceV) (a0_18 : Int) (a0_19 : Int) (a0_20 : Int) (a0_21 : Int) (a0_22 : Int) (a0_23 : Int) (a0_24 : Int) (a0_25 : Int) (a0_26 : Int) (a0_27 : Int) (a0_28 : Int) (a0_29 : Int) (a0_30 : Int) (a0_31 : Int) (a0_32 : Int) (a0_33 : Int) (a0_34 : Int) (a0_35 : SliceV) (a1 : Int) (a2 : Int) (w : World) (K : Int → World → Prop) : Prop :=
  Calls Try.prog 19 ⟨[(Value.agg ⟨((Value.int .u8 a0_0) :: (Value.int .u8 a0_1) :: (Value.int .u8 a0_2) :: (Value.int .u8 a0_3) :: (Value.int .u8 a0_4) :: (Value.int .u8 a0_5) :: (Value.int .u8 a0_6) :: (Value.int .u8 a0_7) :: (Value.int .u8 a0_8) :: (Value.int .u8 a0_9) :: (Value.int .u8 a0_10) :: (Value.int .u8 a0_11) :: (Value.int .u8 a0_12) :: (Value.int .u8 a0_13) :: (Value.int .u8 a0_14) :: (Value.int .u8 a0_15) :: (Value.slice a0_16.a a0_16.len a0_16.cap) :: (Value.slice a0_17.a a0_17.len a0_17.cap) :: (Value.int .i64 a0_18) :: (Value.int .i64 a0_19) :: (Value.int .i64 a0_20) :: (Value.int .i64 a0_21) :: (Value.int .i64 a0_22) :: (Value.int .i64 a0_23) :: (Value.int .i64 a0_24) :: (Value.int .i64 a0_25) :: (Value.int .i64 a0_26) :: (Value.int .i64 a0_27) :: (Value.int .i64 a0_28) :: (Value.int .i64 a0_29) :: (Value.int .i64 a0_30) :: (Value.int .i64 a0_31) :: (Value.int .i64 a0_32) :: (Value.int .i64 a0_33) :: (Value.int .i64 a0_34) :: (Value.slice a0_35.a a0_35.len a0_35.cap) :: [])⟩), (Value.int .i64 a1), (Value.int .i64 a2)]⟩ w fun e w' => ∃ y12 : Int, e = .returned (Value.int .i64 y12) ∧ K y12 w'
theorem cm_ref20_Wait {a0_0 a0_1 a0_2 a0_3 a0_4 a0_5 a0_6 a0_7 a0_8 a0_9 a0_10 a0_11 a0_12 a0_13 a0_14 a0_15 a0_16 a0_17 a0_18 a0_19 a0_20 a0_21 a0_22 a0_23 a0_24 a0_25 a0_26 a0_27 a0_28 a0_29 a0_30 a0_31 a0_32 a0_33 a0_34 a0_35 a1 a2 w K K'} (h : c_ref20_Wait a0_0 a0_1 a0_2 a0_3 a0_4 a0_5 a0_6 a0_7 a0_8 a0_9 a0_10 a0_11 a0_12 a0_13 a0_14 a0_15 a0_16 a0_17 a0_18 a0_19 a0_20 a0_21 a0_22 a0_23 a0_24 a0_25 a0_26 a0_27 a0_28 a0_29 a0_30 a0_31 a0_32 a0_33 a0_34 a0_35 a1 a2 w K) (hk : ∀ x0 w', K x0 w' → K' x0 w') : c_ref20_Wait a0_0 a0_1 a0_2 a0_3 a0_4 a0_5 a0_6 a0_7 a0_8 a0_9 a0_10 a0_11 a0_12 a0_13 a0_14 a0_15 a0_16 a0_17 a0_18 a0_19 a0_20 a0_21 a0_22 a0_23 a0_24 a0_25 a0_26 a0_27 a0_28 a0_29 a0_30 a0_31 a0_32 a0_33 a0_34 a0_35 a1 a2 w K' :=
  Calls.mono h fun e w' hh => by obtain ⟨x0, he, hx⟩ := hh; exact ⟨x0, he, hk _ _ hx⟩

/-- goosepond/config.Base -/
abbrev n_config_Base : FuncId := 20
def c_config_Base  (w : World) (K : Int → Int → Int → Int → Int → Int → Int → Int → Int → Int → Int → Int → Int → Int → Int → Int → SliceV → SliceV → Int → Int → Int → Int → Int → Int → Int → Int → Int → Int → Int → Int → Int → Int → Int → Int → Int → SliceV → World → Prop) : Prop :=
  Calls Try.prog 20 ⟨[]⟩ w fun e w' => ∃ y153 : Int, ∃ y154 : Int, ∃ y155 : Int, ∃ y156 : Int, ∃ y157 : Int, ∃ y158 : Int, ∃ y159 : Int, ∃ y160 : Int, ∃ y161 : Int, ∃ y162 : Int, ∃ y163 : Int, ∃ y164 : Int, ∃ y165 : Int, ∃ y166 : Int, ∃ y167 : Int, ∃ y168 : Int, ∃ y169 : SliceV, ∃ y170 : SliceV, ∃ y171 : Int, ∃ y172 : Int, ∃ y173 : Int, ∃ y174 : Int, ∃ y175 : Int, ∃ y176 : Int, ∃ y177 : Int, ∃ y178 : Int, ∃ y179 : Int, ∃ y180 : Int, ∃ y181 : Int, ∃ y182 : Int, ∃ y183 : Int, ∃ y184 : Int, ∃ y185 : Int, ∃ y186 : Int, ∃ y187 : Int, ∃ y188 : SliceV, e = .returned (Value.agg ⟨((Value.int .u8 y153) :: (Value.int .u8 y154) :: (Value.int .u8 y155) :: (Value.int .u8 y156) :: (Value.int .u8 y157) :: (Value.int .u8 y158) :: (Value.int .u8 y159) :: (Value.int .u8 y160) :: (Value.int .u8 y161) :: (Value.int .u8 y162) :: (Value.int .u8 y163) :: (Value.int .u8 y164) :: (Value.int .u8 y165) :: (Value.int .u8 y166) :: (Value.int .u8 y167) :: (Value.int .u8 y168) :: (Value.slice y169.a y169.len y169.cap) :: (Value.slice y170.a y170.len y170.cap) :: (Value.int .i64 y171) :: (Value.int .i64 y172) :: (Value.int .i64 y173) :: (Value.int .i64 y174) :: (Value.int .i64 y175) :: (Value.int .i64 y176) :: (Value.int .i64 y177) :: (Value.int .i64 y178) :: (Value.int .i64 y179) :: (Value.int .i64 y180) :: (Value.int .i64 y181) :: (Value.int .i64 y182) :: (Value.int .i64 y183) :: (Value.int .i64 y184) :: (Value.int .i64 y185) :: (Value.int .i64 y186) :: (Value.int .i64 y187) :: (Value.slice y188.a y188.len y188.cap) :: [])⟩) ∧ K y153 y154 y155 y156 y157 y158 y159 y160 y161 y162 y163 y164 y165 y166 y167 y168 y169 y170 y171 y172 y173 y174 y175 y176 y177 y178 y179 y180 y181 y182 y183 y184 y185 y186 y187 y188 w'
theorem cm_config_Base { w K K'} (h : c_config_Base  w K) (hk : ∀ x0 x1 x2 x3 x4 x5 x6 x7 x8 x9 x10 x11 x12 x13 x14 x15 x16 x17 x18 x19 x20 x21 x22 x23 x24 x25 x26 x27 x28 x29 x30 x31 x32 x33 x34 x35 w', K x0 x1 x2 x3 x4 x5 x6 x7 x8 x9 x10 x11 x12 x13 x14 x15 x16 x17 x18 x19 x20 x21 x22 x23 x24 x25 x26 x27 x28 x29 x30 x31 x32 x33 x34 x35 w' → K' x0 x1 x2 x3 x4 x5 x6 x7 x8 x9 x10 x11 x12 x13 x14 x15 x16 x17 x18 x19 x20 x21 x22 x23 x24 x25 x26 x27 x28 x29 x30 x31 x32 x33 x34 x35 w') : c_config_Base  w K' :=
  Calls.mono h fun e w' hh => by obtain ⟨x0, x1, x2, x3, x4, x5, x6, x7, x8, x9, x10, x11, x12, x13, x14, x15, x16, x17, x18, x19, x20, x21, x22, x23, x24, x25, x26, x27, x28, x29, x30, x31, x32, x33, x34, x35, he, hx⟩ := hh; exact ⟨x0, x1, x2, x3, x4, x5, x6, x7, x8, x9, x10, x11, x12, x13, x14, x15, x16, x17, x18, x19, x20, x21, x22, x23, x24, x25, x26, x27, x28, x29, x30, x31, x32, x33, x34, x35, he, hk _ _ _ _ _ _ _ _ _ _ _ _ _ _ _ _ _ _ _ _ _ _ _ _ _ _ _ _ _ _ _ _ _ _ _ _ _ hx⟩

/-- goosepond/goosepondref20.Base -/
abbrev n_ref20_Base : FuncId := 21
def c_ref20_Base  (w : World) (K : Int → Int → Int → Int → Int → Int → Int → Int → Int → Int → Int → Int → Int → Int → Int → Int → SliceV → SliceV → Int → Int → Int → Int → Int → Int → Int → Int → Int → Int → Int → Int → Int → Int → Int → Int → Int → SliceV → World → Prop) : Prop :=
  Calls Try.prog 21 ⟨[]⟩ w fun e w' => ∃ y101 : Int, ∃ y102 : Int, ∃ y103 : Int, ∃ y104 : Int, ∃ y105 : Int, ∃ y106 : Int, ∃ y107 : Int, ∃ y108 : Int, ∃ y109 : Int, ∃ y110 : Int, ∃ y111 : Int, ∃ y112 : Int, ∃ y113 : Int, ∃ y114 : Int, ∃ y115 : Int, ∃ y116 : Int, ∃ y117 : SliceV, ∃ y118 : SliceV, ∃ y119 : Int, ∃ y120 : Int, ∃ y121 : Int, ∃ y122 : Int, ∃ y123 : Int, ∃ y124 : Int, ∃ y125 : Int, ∃ y126 : Int, ∃ y127 : Int, ∃ y128 : Int, ∃ y129 : Int, ∃ y130 : Int, ∃ y131 : Int, ∃ y132 : Int, ∃ y133 : Int, ∃ y134 : Int, ∃ y135 : Int, ∃ y136 : SliceV, e = .returned (Value.agg ⟨((Value.int .u8 y101) :: (Value.int .u8 y102) :: (Value.int .u8 y103) :: (Value.int .u8 y104) :: (Value.int .u8 y105) :: (Value.int .u8 y106) :: (Value.int .u8 y107) :: (Value.int .u8 y108) :: (Value.int .u8 y109) :: (Value.int .u8 y110) :: (Value.int .u8 y111) :: (Value.int .u8 y112) :: (Value.int .u8 y113) :: (Value.int .u8 y114) :: (Value.int .u8 y115) :: (Value.int .u8 y116) :: (Value.slice y117.a y117.len y117.cap) :: (Value.slice y118.a y118.len y118.cap) :: (Value.int .i64 y119) :: (Value.int .i64 y120) :: (Value.int .i64 y121) :: (Value.int .i64 y122) :: (Value.int .i64 y123) :: (Value.int .i64 y124) :: (Value.int .i64 y125) :: (Value.int .i64 y126) :: (Value.int .i64 y127) :: (Value.int .i64 y128) :: (Value.int .i64 y129) :: (Value.int .i64 y130) :: (Value.int .i64 y131) :: (Value.int .i64 y132) :: (Value.int .i64 y133) :: (Value.int .i64 y134) :: (Value.int .i64 y135) :: (Value.slice y136.a y136.len y136.cap) :: [])⟩) ∧ K y101 y102 y103 y104 y105 y106 y107 y108 y109 y110 y111 y112 y113 y114 y115 y116 y117 y118 y119 y120 y121 y122 y123 y124 y125 y126 y127 y128 y129 y130 y131 y132 y133 y134 y135 y136 w'
theorem cm_ref20_Base { w K K'} (h : c_ref20_Base  w K) (hk : ∀ x0 x1 x2 x3 x4 x5 x6 x7 x8 x9 x10 x11 x12 x13 x14 x15 x16 x17 x18 x19 x20 x21 x22 x23 x24 x25 x26 x27 x28 x29 x30 x31 x32 x33 x34 x35 w', K x0 x1 x2 x3 x4 x5 x6 x7 x8 x9 x10 x11 x12 x13 x14 x15 x16 x17 x18 x19 x20 x21 x22 x23 x24 x25 x26 x27 x28 x29 x30 x31 x32 x33 x34 x35 w' → K' x0 x1 x2 x3 x4 x5 x6 x7 x8 x9 x10 x11 x12 x13 x14 x15 x16 x17 x18 x19 x20 x21 x22 x23 x24 x25 x26 x27 x28 x29 x30 x31 x32 x33 x34 x35 w') : c_ref20_Base  w K' :=
  Calls.mono h fun e w' hh => by obtain ⟨x0, x1, x2, x3, x4, x5, x6, x7, x8, x9, x10, x11, x12, x13, x14, x15, x16, x17, x18, x19, x20, x21, x22, x23, x24, x25, x26, x27, x28, x29, x30, x31, x32, x33, x34, x35, he, hx⟩ := hh; exact ⟨x0, x1, x2, x3, x4, x5, x6, x7, x8, x9, x10, x11, x12, x13, x14, x15, x16, x17, x18, x19, x20, x21, x22, x23, x24, x25, x26, x27, x28, x29, x30, x31, x32, x33, x34, x35, he, hk _ _ _ _ _ _ _ _ _ _ _ _ _ _ _ _ _ _ _ _ _ _ _ _ _ _ _ _ _ _ _ _ _ _ _ _ _ hx⟩

/-- slices.Index[[]goosepond/api.Six,goosepond/api.Six] -/
abbrev n_slices_Index_api_Six_api_Six : FuncId := 36
def c_slices_Index_api_Six_api_Six (a0 : SliceV) (a1_0 : Int) (a1_1 : Int) (a1_2 : Int) (a1_3 : Int) (a1_4 : Int) (a1_5 : Int) (a1_6 : Int) (a1_7 : Int) (a1_8 : Int) (a1_9 : Int) (a1_10 : Int) (a1_11 : Int) (a1_12 : Int) (a1_13 : Int) (a1_14 : Int) (a1_15 : Int) (w : World) (K : Int → World → Prop) : Prop :=
  Calls Try.prog 36 ⟨[(Value.slice a0.a a0.len a0.cap), (Value.agg ⟨[(Value.int .u8 a1_0), (Value.int .u8 a1_1), (Value.int .u8 a1_2), (Value.int .u8 a1_3), (Value.int .u8 a1_4), (Value.int .u8 a1_5), (Value.int .u8 a1_6), (Value.int .u8 a1_7), (Value.int .u8 a1_8), (Value.int .u8 a1_9), (Value.int .u8 a1_10), (Value.int .u8 a1_11), (Value.int .u8 a1_12), (Value.int .u8 a1_13), (Value.int .u8 a1_14), (Value.int .u8 a1_15)]⟩)]⟩ w fun e w' => ∃ y41 : Int, e = .returned (Value.int .i64 y41) ∧ K y41 w'
theorem cm_slices_Index_api_Six_api_Six {a0 a1_0 a1_1 a1_2 a1_3 a1_4 a1_5 a1_6 a1_7 a1_8 a1_9 a1_10 a1_11 a1_12 a1_13 a1_14 a1_15 w K K'} (h : c_slices_Index_api_Six_api_Six a0 a1_0 a1_1 a1_2 a1_3 a1_4 a1_5 a1_6 a1_7 a1_8 a1_9 a1_10 a1_11 a1_12 a1_13 a1_14 a1_15 w K) (hk : ∀ x0 w', K x0 w' → K' x0 w') : c_slices_Index_api_Six_api_Six a0 a1_0 a1_1 a1_2 a1_3 a1_4 a1_5 a1_6 a1_7 a1_8 a1_9 a1_10 a1_11 a1_12 a1_13 a1_14 a1_15 w K' :=
  Calls.mono h fun e w' hh => by obtain ⟨x0, he, hx⟩ := hh; exact ⟨x0, he, hk _ _ hx⟩

/-- goosepond/config.Base$1 -/
abbrev n_config_Base_1 : FuncId := 45
def c_config_Base_1 (a0 : Int) (w : World) (K : Int → Int → Int → Int → Int → Int → Int → Int → Int → Int → Int → Int → Int → Int → Int → Int → World → Prop) : Prop :=
  Calls Try.prog 45 ⟨[(Value.int .i64 a0)]⟩ w fun e w' => ∃ y40 : Int, ∃ y41 : Int, ∃ y42 : Int, ∃ y43 : Int, ∃ y44 : Int, ∃ y45 : Int, ∃ y46 : Int, ∃ y47 : Int, ∃ y48 : Int, ∃ y49 : Int, ∃ y50 : Int, ∃ y51 : Int, ∃ y52 : Int, ∃ y53 : Int, ∃ y54 : Int, ∃ y55 : Int, e = .returned (Value.agg ⟨[(Value.int .u8 y40), (Value.int .u8 y41), (Value.int .u8 y42), (Value.int .u8 y43), (Value.int .u8 y44), (Value.int .u8 y45), (Value.int .u8 y46), (Value.int .u8 y47), (Value.int .u8 y48), (Value.int .u8 y49), (Value.int .u8 y50), (Value.int .u8 y51), (Value.int .u8 y52), (Value.int .u8 y53), (Value.int .u8 y54), (Value.int .u8 y55)]⟩) ∧ K y40 y41 y42 y43 y44 y45 y46 y47 y48 y49 y50 y51 y52 y53 y54 y55 w'
theorem cm_config_Base_1 {a0 w K K'} (h : c_config_Base_1 a0 w K) (hk : ∀ x0 x1 x2 x3 x4 x5 x6 x7 x8 x9 x10 x11 x12 x13 x14 x15 w', K x0 x1 x2 x3 x4 x5 x6 x7 x8 x9 x10 x11 x12 x13 x14 x15 w' → K' x0 x1 x2 x3 x4 x5 x6 x7 x8 x9 x10 x11 x12 x13 x14 x15 w') : c_config_Base_1 a0 w K' :=
  Calls.mono h fun e w' hh => by obtain ⟨x0, x1, x2, x3, x4, x5, x6, x7, x8, x9, x10, x11, x12, x13, x14, x15, he, hx⟩ := hh; exact ⟨x0, x1, x2, x3, x4, x5, x6, x7, x8, x9, x10, x11, x12, x13, x14, x15, he, hk _ _ _ _ _ _ _ _ _ _ _ _ _ _ _ _ _ hx⟩

/-- goosepond/goosepondlaw20.ConfigChecks -/
def s_law20_ConfigChecks (a0_0 : Int) (a0_1 : Int) (a0_2 : Int) (a0_3 : Int) (a0_4 : Int) (a0_5 : Int) (a0_6 : Int) (a0_7 : Int) (a0_8 : Int) (a0_9 : Int) (a0_10 : Int) (a0_11 : Int) (a0_12 : Int) (a0_13 : Int) (a0_14 : Int) (a0_15 : Int) (a0_16 : SliceV) (a0_17 : SliceV) (a0_18 : Int) (a0_19 : Int) (a0_20 : Int) (a0_21 : Int) (a0_22 : Int) (a0_23 : Int) (a0_24 : Int) (a0_25 : Int) (a0_26 : Int) (a0_27 : Int) (a0_28 : Int) (a0_29 : Int) (a0_30 : Int) (a0_31 : Int) (a0_32 : Int) (a0_33 : Int) (a0_34 : Int) (a0_35 : SliceV) (a1_0 : Int) (a1_1 : Int) (a1_2 : Int) (a1_3 : Int) (a1_4 : Int) (a1_5 : Int) (a1_6 : Int) (a1_7 : Int) (a1_8 : Int) (a1_9 : Int) (a1_10 : Int) (a1_11 : Int) (a1_12 : Int) (a1_13 : Int) (a1_14 : Int) (a1_15 : Int) (a2 : Int) (a3 : Int) (w : World) (K : Bool → World → Prop) : Prop :=
 (Al w (.cells ⟨((Value.int .u8 a0_0) :: (Value.int .u8 a0_1) :: (Value.int .u8 a0_2) :: (Value.int .u8 a0_3) :: (Value.int .u8 a0_4) :: (Value.int .u8 a0_5) :: (Value.int .u8 a0_6) :: (Value.int .u8 a0_7) :: (Value.int .u8 a0_8) :: (Value.int .u8 a0_9) :: (Value.int .u8 a0_10) :: (Value.int .u8 a0_11) :: (Value.int .u8 a0_12) :: (Value.int .u8 a0_13) :: (Value.int .u8 a0_14) :: (Value.int .u8 a0_15) :: (Value.slice a0_16.a a0_16.len a0_16.cap) :: (Value.slice a0_17.a a0_17.len a0_17.cap) :: (Value.int .i64 a0_18) :: (Value.int .i64 a0_19) :: (Value.int .i64 a0_20) :: (Value.int .i64 a0_21) :: (Value.int .i64 a0_22) :: (Value.int .i64 a0_23) :: (Value.int .i64 a0_24) :: (Value.int .i64 a0_25) :: (Value.int .i64 a0_26) :: (Value.int .i64 a0_27) :: (Value.int .i64 a0_28) :: (Value.int .i64 a0_29) :: (Value.int .i64 a0_30) :: (Value.int .i64 a0_31) :: (Value.int .i64 a0_32) :: (Value.int .i64 a0_33) :: (Value.int .i64 a0_34) :: (Value.slice a0_35.a a0_35.len a0_35.cap) :: [])⟩ 42) fun a6 w5 =>
 Al w5 (.cells ⟨[(Value.int .u8 a1_0), (Value.int .u8 a1_1), (Value.int .u8 a1_2), (Value.int .u8 a1_3), (Value.int .u8 a1_4), (Value.int .u8 a1_5), (Value.int .u8 a1_6), (Value.int .u8 a1_7), (Value.int .u8 a1_8), (Value.int .u8 a1_9), (Value.int .u8 a1_10), (Value.int .u8 a1_11), (Value.int .u8 a1_12), (Value.int .u8 a1_13), (Value.int .u8 a1_14), (Value.int .u8 a1_15)]⟩ 38) fun a8 w7 =>
 let J9 : Bool → Prop := fun j10 =>
 ((bif j10 then
 c_law20_awake  w7 fun r11 w12 =>
 K r11 w12
 else
 Ld (.int .u8) w7 (a6.add 0) fun x13 =>
 Ld (.int .u8) w7 (a6.add 1) fun x14 =>
 Ld (.int .u8) w7 (a6.add 2) fun x15 =>
 Ld (.int .u8) w7 (a6.add 3) fun x16 =>
 Ld (.int .u8) w7 (a6.add 4) fun x17 =>
 Ld (.int .u8) w7 (a6.add 5) fun x18 =>
 Ld (.int .u8) w7 (a6.add 6) fun x19 =>
 Ld (.int .u8) w7 (a6.add 7) fun x20 =>
 Ld (.int .u8) w7 (a6.add 8) fun x21 =>
 Ld (.int .u8) w7 (a6.add 9) fun x22 =>
 Ld (.int .u8) w7 (a6.add 10) fun x23 =>
 Ld (.int .u8) w7 (a6.add 11) fun x24 =>
 Ld (.int .u8) w7 (a6.add 12) fun x25 =>
 Ld (.int .u8) w7 (a6.add 13) fun x26 =>
 Ld (.int .u8) w7 (a6.add 14) fun x27 =>
 Ld (.int .u8) w7 (a6.add 15) fun x28 =>
 Ld .slice w7 (a6.add 16) fun x29 =>
 Ld .slice w7 (a6.add 17) fun x30 =>
 Ld (.int .i64) w7 (a6.add 18) fun x31 =>
 Ld (.int .i64) w7 (a6.add 19) fun x32 =>
 Ld (.int .i64) w7 (a6.add 20) fun x33 =>
 Ld (.int .i64) w7 (a6.add 21) fun x34 =>
 Ld (.int .i64) w7 (a6.add 22) fun x35 =>
 Ld (.int .i64) w7 (a6.add 23) fun x36 =>
 Ld (.int .i64) w7 (a6.add 24) fun x37 =>
 Ld (.int .i64) w7 (a6.add 25) fun x38 =>
 Ld (.int .i64) w7 (a6.add 26) fun x39 =>
 Ld (.int .i64) w7 (a6.add 27) fun x40 =>
 Ld (.int .i64) w7 (a6.add 28) fun x41 =>
 Ld (.int .i64) w7 (a6.add 29) fun x42 =>
 Ld (.int .i64) w7 (a6.add 30) fun x43 =>
 Ld (.int .i64) w7 (a6.add 31) fun x44 =>
 Ld (.int .i64) w7 (a6.add 32) fun x45 =>
 Ld (.int .i64) w7 (a6.add 33) fun x46 =>
 Ld (.int .i64) w7 (a6.add 34) fun x47 =>
 Ld .slice w7 (a6.add 35) fun x48 =>
 Ld (.int .u8) w7 (a8.add 0) fun x49 =>
 Ld (.int .u8) w7 (a8.add 1) fun x50 =>
 Ld (.int .u8) w7 (a8.add 2) fun x51 =>
 Ld (.int .u8) w7 (a8.add 3) fun x52 =>
 Ld (.int .u8) w7 (a8.add 4) fun x53 =>
 Ld (.int .u8) w7 (a8.add 5) fun x54 =>
 Ld (.int .u8) w7 (a8.add 6) fun x55 =>
 Ld (.int .u8) w7 (a8.add 7) fun x56 =>
 Ld (.int .u8) w7 (a8.add 8) fun x57 =>
 Ld (.int .u8) w7 (a8.add 9) fun x58 =>
 Ld (.int .u8) w7 (a8.add 10) fun x59 =>
 Ld (.int .u8) w7 (a8.add 11) fun x60 =>
 Ld (.int .u8) w7 (a8.add 12) fun x61 =>
 Ld (.int .u8) w7 (a8.add 13) fun x62 =>
 Ld (.int .u8) w7 (a8.add 14) fun x63 =>
 Ld (.int .u8) w7 (a8.add 15) fun x64 =>
 c_config_Softwire x13 x14 x15 x16 x17 x18 x19 x20 x21 x22 x23 x24 x25 x26 x27 x28 x29 x30 x31 x32 x33 x34 x35 x36 x37 x38 x39 x40 x41 x42 x43 x44 x45 x46 x47 x48 x49 x50 x51 x52 x53 x54 x55 x56 x57 x58 x59 x60 x61 x62 x63 x64 w7 fun r65 r66 w67 =>
 Ld (.int .u8) w67 (a6.add 0) fun x68 =>
 Ld (.int .u8) w67 (a6.add 1) fun x69 =>
 Ld (.int .u8) w67 (a6.add 2) fun x70 =>
 Ld (.int .u8) w67 (a6.add 3) fun x71 =>
 Ld (.int .u8) w67 (a6.add 4) fun x72 =>
 Ld (.int .u8) w67 (a6.add 5) fun x73 =>
 Ld (.int .u8) w67 (a6.add 6) fun x74 =>
 Ld (.int .u8) w67 (a6.add 7) fun x75 =>
 Ld (.int .u8) w67 (a6.add 8) fun x76 =>
 Ld (.int .u8) w67 (a6.add 9) fun x77 =>
 Ld (.int .u8) w67 (a6.add 10) fun x78 =>
 Ld (.int .u8) w67 (a6.add 11) fun x79 =>
 Ld (.int .u8) w67 (a6.add 12) fun x80 =>
 Ld (.int .u8) w67 (a6.add 13) fun x81 =>
 Ld (.int .u8) w67 (a6.add 14) fun x82 =>
 Ld (.int .u8) w67 (a6.add 15) fun x83 =>
 Ld .slice w67 (a6.add 16) fun x84 =>
 Ld .slice w67 (a6.add 17) fun x85 =>
 Ld (.int .i64) w67 (a6.add 18) fun x86 =>
 Ld (.int .i64) w67 (a6.add 19) fun x87 =>
 Ld (.int .i64) w67 (a6.add 20) fun x88 =>
 Ld (.int .i64) w67 (a6.add 21) fun x89 =>
 Ld (.int .i64) w67 (a6.add 22) fun x90 =>
 Ld (.int .i64) w67 (a6.add 23) fun x91 =>
 Ld (.int .i64) w67 (a6.add 24) fun x92 =>
 Ld (.int .i64) w67 (a6.add 25) fun x93 =>
 Ld (.int .i64) w67 (a6.add 26) fun x94 =>
 Ld (.int .i64) w67 (a6.add 27) fun x95 =>
 Ld (.int .i64) w67 (a6.add 28) fun x96 =>
 Ld (.int .i64) w67 (a6.add 29) fun x97 =>
 Ld (.int .i64) w67 (a6.add 30) fun x98 =>
 Ld (.int .i64) w67 (a6.add 31) fun x99 =>
 Ld (.int .i64) w67 (a6.add 32) fun x100 =>
 Ld (.int .i64) w67 (a6.add 33) fun x101 =>
 Ld (.int .i64) w67 (a6.add 34) fun x102 =>
 Ld .slice w67 (a6.add 35) fun x103 =>
 Ld (.int .u8) w67 (a8.add 0) fun x104 =>
 Ld (.int .u8) w67 (a8.add 1) fun x105 =>
 Ld (.int .u8) w67 (a8.add 2) fun x106 =>
 Ld (.int .u8) w67 (a8.add 3) fun x107 =>
 Ld (.int .u8) w67 (a8.add 4) fun x108 =>
 Ld (.int .u8) w67 (a8.add 5) fun x109 =>
 Ld (.int .u8) w67 (a8.add 6) fun x110 =>
 Ld (.int .u8) w67 (a8.add 7) fun x111 =>
 Ld (.int .u8) w67 (a8.add 8) fun x112 =>
 Ld (.int .u8) w67 (a8.add 9) fun x113 =>
 Ld (.int .u8) w67 (a8.add 10) fun x114 =>
 Ld (.int .u8) w67 (a8.add 11) fun x115 =>
 Ld (.int .u8) w67 (a8.add 12) fun x116 =>
 Ld (.int .u8) w67 (a8.add 13) fun x117 =>
 Ld (.int .u8) w67 (a8.add 14) fun x118 =>
 Ld (.int .u8) w67 (a8.add 15) fun x119 =>
 c_ref20_Softwire x68 x69 x70 x71 x72 x73 x74 x75 x76 x77 x78 x79 x80 x81 x82 x83 x84 x85 x86 x87 x88 x89 x90 x91 x92 x93 x94 x95 x96 x97 x98 x99 x100 x101 x102 x103 x104 x105 x106 x107 x108 x109 x110 x111 x112 x113 x114 x115 x116 x117 x118 x119 w67 fun r120 r121 w122 =>
 let J123 : Bool → World → Prop := fun j124 w125 =>
 (K j124 w125)
 Ld (.int .u8) w122.drew (a6.add 0) fun x126 =>
 Ld (.int .u8) w122.drew (a6.add 1) fun x127 =>
 Ld (.int .u8) w122.drew (a6.add 2) fun x128 =>
 Ld (.int .u8) w122.drew (a6.add 3) fun x129 =>
 Ld (.int .u8) w122.drew (a6.add 4) fun x130 =>
 Ld (.int .u8) w122.drew (a6.add 5) fun x131 =>
 Ld (.int .u8) w122.drew (a6.add 6) fun x132 =>
 Ld (.int .u8) w122.drew (a6.add 7) fun x133 =>
 Ld (.int .u8) w122.drew (a6.add 8) fun x134 =>
 Ld (.int .u8) w122.drew (a6.add 9) fun x135 =>
 Ld (.int .u8) w122.drew (a6.add 10) fun x136 =>
 Ld (.int .u8) w122.drew (a6.add 11) fun x137 =>
 Ld (.int .u8) w122.drew (a6.add 12) fun x138 =>
 Ld (.int .u8) w122.drew (a6.add 13) fun x139 =>
 Ld (.int .u8) w122.drew (a6.add 14) fun x140 =>
 Ld (.int .u8) w122.drew (a6.add 15) fun x141 =>
 Ld .slice w122.drew (a6.add 16) fun x142 =>
 Ld .slice w122.drew (a6.add 17) fun x143 =>
 Ld (.int .i64) w122.drew (a6.add 18) fun x144 =>
 Ld (.int .i64) w122.drew (a6.add 19) fun x145 =>
 Ld (.int .i64) w122.drew (a6.add 20) fun x146 =>
 Ld (.int .i64) w122.drew (a6.add 21) fun x147 =>
 Ld (.int .i64) w122.drew (a6.add 22) fun x148 =>
 Ld (.int .i64) w122.drew (a6.add 23) fun x149 =>
 Ld (.int .i64) w122.drew (a6.add 24) fun x150 =>
 Ld (.int .i64) w122.drew (a6.add 25) fun x151 =>
 Ld (.int .i64) w122.drew (a6.add 26) fun x152 =>
 Ld (.int .i64) w122.drew (a6.add 27) fun x153 =>
 Ld (.int .i64) w122.drew (a6.add 28) fun x154 =>
 Ld (.int .i64) w122.drew (a6.add 29) fun x155 =>
 Ld (.int .i64) w122.drew (a6.add 30) fun x156 =>
 Ld (.int .i64) w122.drew (a6.add 31) fun x157 =>
 Ld (.int .i64) w122.drew (a6.add 32) fun x158 =>
 Ld (.int .i64) w122.drew (a6.add 33) fun x159 =>
 Ld (.int .i64) w122.drew (a6.add 34) fun x160 =>
 Ld .slice w122.drew (a6.add 35) fun x161 =>
 Ld (.int .u8) w122.drew (a6.add 0) fun x162 =>
 Ld (.int .u8) w122.drew (a6.add 1) fun x163 =>
 Ld (.int .u8) w122.drew (a6.add 2) fun x164 =>
 Ld (.int .u8) w122.drew (a6.add 3) fun x165 =>
 Ld (.int .u8) w122.drew (a6.add 4) fun x166 =>
 Ld (.int .u8) w122.drew (a6.add 5) fun x167 =>
 Ld (.int .u8) w122.drew (a6.add 6) fun x168 =>
 Ld (.int .u8) w122.drew (a6.add 7) fun x169 =>
 Ld (.int .u8) w122.drew (a6.add 8) fun x170 =>
 Ld (.int .u8) w122.drew (a6.add 9) fun x171 =>
 Ld (.int .u8) w122.drew (a6.add 10) fun x172 =>
 Ld (.int .u8) w122.drew (a6.add 11) fun x173 =>
 Ld (.int .u8) w122.drew (a6.add 12) fun x174 =>
 Ld (.int .u8) w122.drew (a6.add 13) fun x175 =>
 Ld (.int .u8) w122.drew (a6.add 14) fun x176 =>
 Ld (.int .u8) w122.drew (a6.add 15) fun x177 =>
 Ld .slice w122.drew (a6.add 16) fun x178 =>
 Ld .slice w122.drew (a6.add 17) fun x179 =>
 Ld (.int .i64) w122.drew (a6.add 18) fun x180 =>
 Ld (.int .i64) w122.drew (a6.add 19) fun x181 =>
 Ld (.int .i64) w122.drew (a6.add 20) fun x182 =>
 Ld (.int .i64) w122.drew (a6.add 21) fun x183 =>
 Ld (.int .i64) w122.drew (a6.add 22) fun x184 =>
 Ld (.int .i64) w122.drew (a6.add 23) fun x185 =>
 Ld (.int .i64) w122.drew (a6.add 24) fun x186 =>
 Ld (.int .i64) w122.drew (a6.add 25) fun x187 =>
 Ld (.int .i64) w122.drew (a6.add 26) fun x188 =>
 Ld (.int .i64) w122.drew (a6.add 27) fun x189 =>
 Ld (.int .i64) w122.drew (a6.add 28) fun x190 =>
 Ld (.int .i64) w122.drew (a6.add 29) fun x191 =>
 Ld (.int .i64) w122.drew (a6.add 30) fun x192 =>
 Ld (.int .i64) w122.drew (a6.add 31) fun x193 =>
 Ld (.int .i64) w122.drew (a6.add 32) fun x194 =>
 Ld (.int .i64) w122.drew (a6.add 33) fun x195 =>
 Ld (.int .i64) w122.drew (a6.add 34) fun x196 =>
 Ld .slice w122.drew (a6.add 35) fun x197 =>
 c_config_Check x126 x127 x128 x129 x130 x131 x132 x133 x134 x135 x136 x137 x138 x139 x140 x141 x142 x143 x144 x145 x146 x147 x148 x149 x150 x151 x152 x153 x154 x155 x156 x157 x158 x159 x160 x161 w122.drew fun r198 w199 =>
 w199.cell? (a6.add 0) = some (Value.int .u8 x162) ∧
 w199.cell? (a6.add 1) = some (Value.int .u8 x163) ∧
 w199.cell? (a6.add 2) = some (Value.int .u8 x164) ∧
 w199.cell? (a6.add 3) = some (Value.int .u8 x165) ∧
 w199.cell? (a6.add 4) = some (Value.int .u8 x166) ∧
 w199.cell? (a6.add 5) = some (Value.int .u8 x167) ∧
 w199.cell? (a6.add 6) = some (Value.int .u8 x168) ∧
 w199.cell? (a6.add 7) = some (Value.int .u8 x169) ∧
 w199.cell? (a6.add 8) = some (Value.int .u8 x170) ∧
 w199.cell? (a6.add 9) = some (Value.int .u8 x171) ∧
 w199.cell? (a6.add 10) = some (Value.int .u8 x172) ∧
 w199.cell? (a6.add 11) = some (Value.int .u8 x173) ∧
 w199.cell? (a6.add 12) = some (Value.int .u8 x174) ∧
 w199.cell? (a6.add 13) = some (Value.int .u8 x175) ∧
 w199.cell? (a6.add 14) = some (Value.int .u8 x176) ∧
 w199.cell? (a6.add 15) = some (Value.int .u8 x177) ∧
 w199.cell? (a6.add 16) = some (Value.slice x178.a x178.len x178.cap) ∧
 w199.cell? (a6.add 17) = some (Value.slice x179.a x179.len x179.cap) ∧
 w199.cell? (a6.add 18) = some (Value.int .i64 x180) ∧
 w199.cell? (a6.add 19) = some (Value.int .i64 x181) ∧
 w199.cell? (a6.add 20) = some (Value.int .i64 x182) ∧
 w199.cell? (a6.add 21) = some (Value.int .i64 x183) ∧
 w199.cell? (a6.add 22) = some (Value.int .i64 x184) ∧
 w199.cell? (a6.add 23) = some (Value.int .i64 x185) ∧
 w199.cell? (a6.add 24) = some (Value.int .i64 x186) ∧
 w199.cell? (a6.add 25) = some (Value.int .i64 x187) ∧
 w199.cell? (a6.add 26) = some (Value.int .i64 x188) ∧
 w199.cell? (a6.add 27) = some (Value.int .i64 x189) ∧
 w199.cell? (a6.add 28) = some (Value.int .i64 x190) ∧
 w199.cell? (a6.add 29) = some (Value.int .i64 x191) ∧
 w199.cell? (a6.add 30) = some (Value.int .i64 x192) ∧
 w199.cell? (a6.add 31) = some (Value.int .i64 x193) ∧
 w199.cell? (a6.add 32) = some (Value.int .i64 x194) ∧
 w199.cell? (a6.add 33) = some (Value.int .i64 x195) ∧
 w199.cell? (a6.add 34) = some (Value.int .i64 x196) ∧
 w199.cell? (a6.add 35) = some (Value.slice x197.a x197.len x197.cap) ∧
 c_ref20_Check x162 x163 x164 x165 x166 x167 x168 x169 x170 x171 x172 x173 x174 x175 x176 x177 x178 x179 x180 x181 x182 x183 x184 x185 x186 x187 x188 x189 x190 x191 x192 x193 x194 x195 x196 x197 w199 fun r200 w201 =>
 (bif (r198 == r200) then
 (bif (r65 == r120) then
 (bif ((r66 : Bool) == r121) then
 Ld (.int .u8) w201 (a6.add 0) fun x202 =>
 Ld (.int .u8) w201 (a6.add 1) fun x203 =>
 Ld (.int .u8) w201 (a6.add 2) fun x204 =>
 Ld (.int .u8) w201 (a6.add 3) fun x205 =>
 Ld (.int .u8) w201 (a6.add 4) fun x206 =>
 Ld (.int .u8) w201 (a6.add 5) fun x207 =>
 Ld (.int .u8) w201 (a6.add 6) fun x208 =>
 Ld (.int .u8) w201 (a6.add 7) fun x209 =>
 Ld (.int .u8) w201 (a6.add 8) fun x210 =>
 Ld (.int .u8) w201 (a6.add 9) fun x211 =>
 Ld (.int .u8) w201 (a6.add 10) fun x212 =>
 Ld (.int .u8) w201 (a6.add 11) fun x213 =>
 Ld (.int .u8) w201 (a6.add 12) fun x214 =>
 Ld (.int .u8) w201 (a6.add 13) fun x215 =>
 Ld (.int .u8) w201 (a6.add 14) fun x216 =>
 Ld (.int .u8) w201 (a6.add 15) fun x217 =>
 Ld .slice w201 (a6.add 16) fun x218 =>
 Ld .slice w201 (a6.add 17) fun x219 =>
 Ld (.int .i64) w201 (a6.add 18) fun x220 =>
 Ld (.int .i64) w201 (a6.add 19) fun x221 =>
 Ld (.int .i64) w201 (a6.add 20) fun x222 =>
 Ld (.int .i64) w201 (a6.add 21) fun x223 =>
 Ld (.int .i64) w201 (a6.add 22) fun x224 =>
 Ld (.int .i64) w201 (a6.add 23) fun x225 =>
 Ld (.int .i64) w201 (a6.add 24) fun x226 =>
 Ld (.int .i64) w201 (a6.add 25) fun x227 =>
 Ld (.int .i64) w201 (a6.add 26) fun x228 =>
 Ld (.int .i64) w201 (a6.add 27) fun x229 =>
 Ld (.int .i64) w201 (a6.add 28) fun x230 =>
 Ld (.int .i64) w201 (a6.add 29) fun x231 =>
 Ld (.int .i64) w201 (a6.add 30) fun x232 =>
 Ld (.int .i64) w201 (a6.add 31) fun x233 =>
 Ld (.int .i64) w201 (a6.add 32) fun x234 =>
 Ld (.int .i64) w201 (a6.add 33) fun x235 =>
 Ld (.int .i64) w201 (a6.add 34) fun x236 =>
 Ld .slice w201 (a6.add 35) fun x237 =>
 Ld (.int .u8) w201 (a6.add 0) fun x238 =>
 Ld (.int .u8) w201 (a6.add 1) fun x239 =>
 Ld (.int .u8) w201 (a6.add 2) fun x240 =>
 Ld (.int .u8) w201 (a6.add 3) fun x241 =>
 Ld (.int .u8) w201 (a6.add 4) fun x242 =>
 Ld (.int .u8) w201 (a6.add 5) fun x243 =>
 Ld (.int .u8) w201 (a6.add 6) fun x244 =>
 Ld (.int .u8) w201 (a6.add 7) fun x245 =>
 Ld (.int .u8) w201 (a6.add 8) fun x246 =>
 Ld (.int .u8) w201 (a6.add 9) fun x247 =>
 Ld (.int .u8) w201 (a6.add 10) fun x248 =>
 Ld (.int .u8) w201 (a6.add 11) fun x249 =>
 Ld (.int .u8) w201 (a6.add 12) fun x250 =>
 Ld (.int .u8) w201 (a6.add 13) fun x251 =>
 Ld (.int .u8) w201 (a6.add 14) fun x252 =>
 Ld (.int .u8) w201 (a6.add 15) fun x253 =>
 Ld .slice w201 (a6.add 16) fun x254 =>
 Ld .slice w201 (a6.add 17) fun x255 =>
 Ld (.int .i64) w201 (a6.add 18) fun x256 =>
 Ld (.int .i64) w201 (a6.add 19) fun x257 =>
 Ld (.int .i64) w201 (a6.add 20) fun x258 =>
 Ld (.int .i64) w201 (a6.add 21) fun x259 =>
 Ld (.int .i64) w201 (a6.add 22) fun x260 =>
 Ld (.int .i64) w201 (a6.add 23) fun x261 =>
 Ld (.int .i64) w201 (a6.add 24) fun x262 =>
 Ld (.int .i64) w201 (a6.add 25) fun x263 =>
 Ld (.int .i64) w201 (a6.add 26) fun x264 =>
 Ld (.int .i64) w201 (a6.add 27) fun x265 =>
 Ld (.int .i64) w201 (a6.add 28) fun x266 =>
 Ld (.int .i64) w201 (a6.add 29) fun x267 =>
 Ld (.int .i64) w201 (a6.add 30) fun x268 =>
 Ld (.int .i64) w201 (a6.add 31) fun x269 =>
 Ld (.int .i64) w201 (a6.add 32) fun x270 =>
 Ld (.int .i64) w201 (a6.add 33) fun x271 =>
 Ld (.int .i64) w201 (a6.add 34) fun x272 =>
 Ld .slice w201 (a6.add 35) fun x273 =>
 c_config_Wait x202 x203 x204 x205 x206 x207 x208 x209 x210 x211 x212 x213 x214 x215 x216 x217 x218 x219 x220 x221 x222 x223 x224 x225 x226 x227 x228 x229 x230 x231 x232 x233 x234 x235 x236 x237 a2 a3 w201 fun r274 w275 =>
 w275.cell? (a6.add 0) = some (Value.int .u8 x238) ∧
 w275.cell? (a6.add 1) = some (Value.int .u8 x239) ∧
 w275.cell? (a6.add 2) = some (Value.int .u8 x240) ∧
 w275.cell? (a6.add 3) = some (Value.int .u8 x241) ∧
 w275.cell? (a6.add 4) = some (Value.int .u8 x242) ∧
 w275.cell? (a6.add 5) = some (Value.int .u8 x243) ∧
 w275.cell? (a6.add 6) = some (Value.int .u8 x244) ∧
 w275.cell? (a6.add 7) = some (Value.int .u8 x245) ∧
 w275.cell? (a6.add 8) = some (Value.int .u8 x246) ∧
 w275.cell? (a6.add 9) = some (Value.int .u8 x247) ∧
 w275.cell? (a6.add 10) = some (Value.int .u8 x248) ∧
 w275.cell? (a6.add 11) = some (Value.int .u8 x249) ∧
 w275.cell? (a6.add 12) = some (Value.int .u8 x250) ∧
 w275.cell? (a6.add 13) = some (Value.int .u8 x251) ∧
 w275.cell? (a6.add 14) = some (Value.int .u8 x252) ∧
 w275.cell? (a6.add 15) = some (Value.int .u8 x253) ∧
 w275.cell? (a6.add 16) = some (Value.slice x254.a x254.len x254.cap) ∧
 w275.cell? (a6.add 17) = some (Value.slice x255.a x255.len x255.cap) ∧
 w275.cell? (a6.add 18) = some (Value.int .i64 x256) ∧
 w275.cell? (a6.add 19) = some (Value.int .i64 x257) ∧
 w275.cell? (a6.add 20) = some (Value.int .i64 x258) ∧
 w275.cell? (a6.add 21) = some (Value.int .i64 x259) ∧
 w275.cell? (a6.add 22) = some (Value.int .i64 x260) ∧
 w275.cell? (a6.add 23) = some (Value.int .i64 x261) ∧
 w275.cell? (a6.add 24) = some (Value.int .i64 x262) ∧
 w275.cell? (a6.add 25) = some (Value.int .i64 x263) ∧
 w275.cell? (a6.add 26) = some (Value.int .i64 x264) ∧
 w275.cell? (a6.add 27) = some (Value.int .i64 x265) ∧
 w275.cell? (a6.add 28) = some (Value.int .i64 x266) ∧
 w275.cell? (a6.add 29) = some (Value.int .i64 x267) ∧
 w275.cell? (a6.add 30) = some (Value.int .i64 x268) ∧
 w275.cell? (a6.add 31) = some (Value.int .i64 x269) ∧
 w275.cell? (a6.add 32) = some (Value.int .i64 x270) ∧
 w275.cell? (a6.add 33) = some (Value.int .i64 x271) ∧
 w275.cell? (a6.add 34) = some (Value.int .i64 x272) ∧
 w275.cell? (a6.add 35) = some (Value.slice x273.a x273.len x273.cap) ∧
 c_ref20_Wait x238 x239 x240 x241 x242 x243 x244 x245 x246 x247 x248 x249 x250 x251 x252 x253 x254 x255 x256 x257 x258 x259 x260 x261 x262 x263 x264 x265 x266 x267 x268 x269 x270 x271 x272 x273 a2 a3 w275 fun r276 w277 =>
 (bif (r274 == r276) then
 c_law20_awake  w277 fun r278 w279 =>
 J123 r278 w279
 else
 J123 false w277)
 else
 J123 false w201)
 else
 J123 false w201)
 else
 J123 false w201)))
 Ld .slice w7 (a6.add 16) fun x280 =>
 (bif (decide ((x280.len : Int) > 200)) then
 J9 true
 else
 Ld .slice w7 (a6.add 17) fun x281 =>
 (bif (decide ((x281.len : Int) > 200)) then
 J9 true
 else
 Ld .slice w7 (a6.add 35) fun x282 =>
 J9 (decide ((x282.len : Int) > 200)))))
theorem e_law20_ConfigChecks (a0_0 : Int) (a0_1 : Int) (a0_2 : Int) (a0_3 : Int) (a0_4 : Int) (a0_5 : Int) (a0_6 : Int) (a0_7 : Int) (a0_8 : Int) (a0_9 : Int) (a0_10 : Int) (a0_11 : Int) (a0_12 : Int) (a0_13 : Int) (a0_14 : Int) (a0_15 : Int) (a0_16 : SliceV) (a0_17 : SliceV) (a0_18 : Int) (a0_19 : Int) (a0_20 : Int) (a0_21 : Int) (a0_22 : Int) (a0_23 : Int) (a0_24 : Int) (a0_25 : Int) (a0_26 : Int) (a0_27 : Int) (a0_28 : Int) (a0_29 : Int) (a0_30 : Int) (a0_31 : Int) (a0_32 : Int) (a0_33 : Int) (a0_34 : Int) (a0_35 : SliceV) (a1_0 : Int) (a1_1 : Int) (a1_2 : Int) (a1_3 : Int) (a1_4 : Int) (a1_5 : Int) (a1_6 : Int) (a1_7 : Int) (a1_8 : Int) (a1_9 : Int) (a1_10 : Int) (a1_11 : Int) (a1_12 : Int) (a1_13 : Int) (a1_14 : Int) (a1_15 : Int) (a2 : Int) (a3 : Int) (w : World) (K : Bool → World → Prop) : den Try.prog 71 (bodyOf Try.f4) none (.seq .leaf (.seq (.seq .leaf (.cond (.seq .leaf .leaf) .leaf)) (.seq .leaf (.seq .leaf (.seq .leaf .leaf))))) (argEnv 0 [(Value.agg ⟨((Value.int .u8 a0_0) :: (Value.int .u8 a0_1) :: (Value.int .u8 a0_2) :: (Value.int .u8 a0_3) :: (Value.int .u8 a0_4) :: (Value.int .u8 a0_5) :: (Value.int .u8 a0_6) :: (Value.int .u8 a0_7) :: (Value.int .u8 a0_8) :: (Value.int .u8 a0_9) :: (Value.int .u8 a0_10) :: (Value.int .u8 a0_11) :: (Value.int .u8 a0_12) :: (Value.int .u8 a0_13) :: (Value.int .u8 a0_14) :: (Value.int .u8 a0_15) :: (Value.slice a0_16.a a0_16.len a0_16.cap) :: (Value.slice a0_17.a a0_17.len a0_17.cap) :: (Value.int .i64 a0_18) :: (Value.int .i64 a0_19) :: (Value.int .i64 a0_20) :: (Value.int .i64 a0_21) :: (Value.int .i64 a0_22) :: (Value.int .i64 a0_23) :: (Value.int .i64 a0_24) :: (Value.int .i64 a0_25) :: (Value.int .i64 a0_26) :: (Value.int .i64 a0_27) :: (Value.int .i64 a0_28) :: (Value.int .i64 a0_29) :: (Value.int .i64 a0_30) :: (Value.int .i64 a0_31) :: (Value.int .i64 a0_32) :: (Value.int .i64 a0_33) :: (Value.int .i64 a0_34) :: (Value.slice a0_35.a a0_35.len a0_35.cap) :: [])⟩), (Value.agg ⟨[(Value.int .u8 a1_0), (Value.int .u8 a1_1), (Value.int .u8 a1_2), (Value.int .u8 a1_3), (Value.int .u8 a1_4), (Value.int .u8 a1_5), (Value.int .u8 a1_6), (Value.int .u8 a1_7), (Value.int .u8 a1_8), (Value.int .u8 a1_9), (Value.int .u8 a1_10), (Value.int .u8 a1_11), (Value.int .u8 a1_12), (Value.int .u8 a1_13), (Value.int .u8 a1_14), (Value.int .u8 a1_15)]⟩), (Value.int .i64 a2), (Value.int .i64 a3)]) [] w (retK Try.prog [.tmp 8] [.one .bool] K) = s_law20_ConfigChecks a0_0 a0_1 a0_2 a0_3 a0_4 a0_5 a0_6 a0_7 a0_8 a0_9 a0_10 a0_11 a0_12 a0_13 a0_14 a0_15 a0_16 a0_17 a0_18 a0_19 a0_20 a0_21 a0_22 a0_23 a0_24 a0_25 a0_26 a0_27 a0_28 a0_29 a0_30 a0_31 a0_32 a0_33 a0_34 a0_35 a1_0 a1_1 a1_2 a1_3 a1_4 a1_5 a1_6 a1_7 a1_8 a1_9 a1_10 a1_11 a1_12 a1_13 a1_14 a1_15 a2 a3 w K := by kernel_rfl
theorem ok_law20_ConfigChecks {a0_0 a0_1 a0_2 a0_3 a0_4 a0_5 a0_6 a0_7 a0_8 a0_9 a0_10 a0_11 a0_12 a0_13 a0_14 a0_15 a0_16 a0_17 a0_18 a0_19 a0_20 a0_21 a0_22 a0_23 a0_24 a0_25 a0_26 a0_27 a0_28 a0_29 a0_30 a0_31 a0_32 a0_33 a0_34 a0_35 a1_0 a1_1 a1_2 a1_3 a1_4 a1_5 a1_6 a1_7 a1_8 a1_9 a1_10 a1_11 a1_12 a1_13 a1_14 a1_15 a2 a3 w K} (h : s_law20_ConfigChecks a0_0 a0_1 a0_2 a0_3 a0_4 a0_5 a0_6 a0_7 a0_8 a0_9 a0_10 a0_11 a0_12 a0_13 a0_14 a0_15 a0_16 a0_17 a0_18 a0_19 a0_20 a0_21 a0_22 a0_23 a0_24 a0_25 a0_26 a0_27 a0_28 a0_29 a0_30 a0_31 a0_32 a0_33 a0_34 a0_35 a1_0 a1_1 a1_2 a1_3 a1_4 a1_5 a1_6 a1_7 a1_8 a1_9 a1_10 a1_11 a1_12 a1_13 a1_14 a1_15 a2 a3 w K) : c_law20_ConfigChecks a0_0 a0_1 a0_2 a0_3 a0_4 a0_5 a0_6 a0_7 a0_8 a0_9 a0_10 a0_11 a0_12 a0_13 a0_14 a0_15 a0_16 a0_17 a0_18 a0_19 a0_20 a0_21 a0_22 a0_23 a0_24 a0_25 a0_26 a0_27 a0_28 a0_29 a0_30 a0_31 a0_32 a0_33 a0_34 a0_35 a1_0 a1_1 a1_2 a1_3 a1_4 a1_5 a1_6 a1_7 a1_8 a1_9 a1_10 a1_11 a1_12 a1_13 a1_14 a1_15 a2 a3 w K :=
  fn_sound pok Try.func4 (fn := Try.f4) (c := bodyOf Try.f4) (nt := 71) (by kernel_rfl) (by kernel_rfl) (rs := [.tmp 8]) (by kernel_rfl) [.one .bool] K (.seq .leaf (.seq (.seq .leaf (.cond (.seq .leaf .leaf) .leaf)) (.seq .leaf (.seq .leaf (.seq .leaf .leaf))))) [(Value.agg ⟨((Value.int .u8 a0_0) :: (Value.int .u8 a0_1) :: (Value.int .u8 a0_2) :: (Value.int .u8 a0_3) :: (Value.int .u8 a0_4) :: (Value.int .u8 a0_5) :: (Value.int .u8 a0_6) :: (Value.int .u8 a0_7) :: (Value.int .u8 a0_8) :: (Value.int .u8 a0_9) :: (Value.int .u8 a0_10) :: (Value.int .u8 a0_11) :: (Value.int .u8 a0_12) :: (Value.int .u8 a0_13) :: (Value.int .u8 a0_14) :: (Value.int .u8 a0_15) :: (Value.slice a0_16.a a0_16.len a0_16.cap) :: (Value.slice a0_17.a a0_17.len a0_17.cap) :: (Value.int .i64 a0_18) :: (Value.int .i64 a0_19) :: (Value.int .i64 a0_20) :: (Value.int .i64 a0_21) :: (Value.int .i64 a0_22) :: (Value.int .i64 a0_23) :: (Value.int .i64 a0_24) :: (Value.int .i64 a0_25) :: (Value.int .i64 a0_26) :: (Value.int .i64 a0_27) :: (Value.int .i64 a0_28) :: (Value.int .i64 a0_29) :: (Value.int .i64 a0_30) :: (Value.int .i64 a0_31) :: (Value.int .i64 a0_32) :: (Value.int .i64 a0_33) :: (Value.int .i64 a0_34) :: (Value.slice a0_35.a a0_35.len a0_35.cap) :: [])⟩), (Value.agg ⟨[(Value.int .u8 a1_0), (Value.int .u8 a1_1), (Value.int .u8 a1_2), (Value.int .u8 a1_3), (Value.int .u8 a1_4), (Value.int .u8 a1_5), (Value.int .u8 a1_6), (Value.int .u8 a1_7), (Value.int .u8 a1_8), (Value.int .u8 a1_9), (Value.int .u8 a1_10), (Value.int .u8 a1_11), (Value.int .u8 a1_12), (Value.int .u8 a1_13), (Value.int .u8 a1_14), (Value.int .u8 a1_15)]⟩), (Value.int .i64 a2), (Value.int .i64 a3)] (by kernel_rfl) w ((e_law20_ConfigChecks a0_0 a0_1 a0_2 a0_3 a0_4 a0_5 a0_6 a0_7 a0_8 a0_9 a0_10 a0_11 a0_12 a0_13 a0_14 a0_15 a0_16 a0_17 a0_18 a0_19 a0_20 a0_21 a0_22 a0_23 a0_24 a0_25 a0_26 a0_27 a0_28 a0_29 a0_30 a0_31 a0_32 a0_33 a0_34 a0_35 a1_0 a1_1 a1_2 a1_3 a1_4 a1_5 a1_6 a1_7 a1_8 a1_9 a1_10 a1_11 a1_12 a1_13 a1_14 a1_15 a2 a3 w K).mpr h)

/-- goosepond/goosepondlaw20.ConfigWaits -/
def s_law20_ConfigWaits (a0_0 : Int) (a0_1 : Int) (a0_2 : Int) (a0_3 : Int) (a0_4 : Int) (a0_5 : Int) (a0_6 : Int) (a0_7 : Int) (a0_8 : Int) (a0_9 : Int) (a0_10 : Int) (a0_11 : Int) (a0_12 : Int) (a0_13 : Int) (a0_14 : Int) (a0_15 : Int) (a0_16 : SliceV) (a0_17 : SliceV) (a0_18 : Int) (a0_19 : Int) (a0_20 : Int) (a0_21 : Int) (a0_22 : Int) (a0_23 : Int) (a0_24 : Int) (a0_25 : Int) (a0_26 : Int) (a0_27 : Int) (a0_28 : Int) (a0_29 : Int) (a0_30 : Int) (a0_31 : Int) (a0_32 : Int) (a0_33 : Int) (a0_34 : Int) (a0_35 : SliceV) (a1 : Int) (w : World) (K : Bool → World → Prop) : Prop :=
 (Al w (.cells ⟨((Value.int .u8 a0_0) :: (Value.int .u8 a0_1) :: (Value.int .u8 a0_2) :: (Value.int .u8 a0_3) :: (Value.int .u8 a0_4) :: (Value.int .u8 a0_5) :: (Value.int .u8 a0_6) :: (Value.int .u8 a0_7) :: (Value.int .u8 a0_8) :: (Value.int .u8 a0_9) :: (Value.int .u8 a0_10) :: (Value.int .u8 a0_11) :: (Value.int .u8 a0_12) :: (Value.int .u8 a0_13) :: (Value.int .u8 a0_14) :: (Value.int .u8 a0_15) :: (Value.slice a0_16.a a0_16.len a0_16.cap) :: (Value.slice a0_17.a a0_17.len a0_17.cap) :: (Value.int .i64 a0_18) :: (Value.int .i64 a0_19) :: (Value.int .i64 a0_20) :: (Value.int .i64 a0_21) :: (Value.int .i64 a0_22) :: (Value.int .i64 a0_23) :: (Value.int .i64 a0_24) :: (Value.int .i64 a0_25) :: (Value.int .i64 a0_26) :: (Value.int .i64 a0_27) :: (Value.int .i64 a0_28) :: (Value.int .i64 a0_29) :: (Value.int .i64 a0_30) :: (Value.int .i64 a0_31) :: (Value.int .i64 a0_32) :: (Value.int .i64 a0_33) :: (Value.int .i64 a0_34) :: (Value.slice a0_35.a a0_35.len a0_35.cap) :: [])⟩ 42) fun a4 w3 =>
 let J5 : Bool → World → Prop := fun j6 w7 =>
 ((bif j6 then
 c_law20_awake  w7 fun r8 w9 =>
 K r8 w9
 else
 let J10 : Bool → World → Prop := fun j11 w12 =>
 (K j11 w12)
 Ld (.int .u8) w7 (a4.add 0) fun x13 =>
 Ld (.int .u8) w7 (a4.add 1) fun x14 =>
 Ld (.int .u8) w7 (a4.add 2) fun x15 =>
 Ld (.int .u8) w7 (a4.add 3) fun x16 =>
 Ld (.int .u8) w7 (a4.add 4) fun x17 =>
 Ld (.int .u8) w7 (a4.add 5) fun x18 =>
 Ld (.int .u8) w7 (a4.add 6) fun x19 =>
 Ld (.int .u8) w7 (a4.add 7) fun x20 =>
 Ld (.int .u8) w7 (a4.add 8) fun x21 =>
 Ld (.int .u8) w7 (a4.add 9) fun x22 =>
 Ld (.int .u8) w7 (a4.add 10) fun x23 =>
 Ld (.int .u8) w7 (a4.add 11) fun x24 =>
 Ld (.int .u8) w7 (a4.add 12) fun x25 =>
 Ld (.int .u8) w7 (a4.add 13) fun x26 =>
 Ld (.int .u8) w7 (a4.add 14) fun x27 =>
 Ld (.int .u8) w7 (a4.add 15) fun x28 =>
 Ld .slice w7 (a4.add 16) fun x29 =>
 Ld .slice w7 (a4.add 17) fun x30 =>
 Ld (.int .i64) w7 (a4.add 18) fun x31 =>
 Ld (.int .i64) w7 (a4.add 19) fun x32 =>
 Ld (.int .i64) w7 (a4.add 20) fun x33 =>
 Ld (.int .i64) w7 (a4.add 21) fun x34 =>
 Ld (.int .i64) w7 (a4.add 22) fun x35 =>
 Ld (.int .i64) w7 (a4.add 23) fun x36 =>
 Ld (.int .i64) w7 (a4.add 24) fun x37 =>
 Ld (.int .i64) w7 (a4.add 25) fun x38 =>
 Ld (.int .i64) w7 (a4.add 26) fun x39 =>
 Ld (.int .i64) w7 (a4.add 27) fun x40 =>
 Ld (.int .i64) w7 (a4.add 28) fun x41 =>
 Ld (.int .i64) w7 (a4.add 29) fun x42 =>
 Ld (.int .i64) w7 (a4.add 30) fun x43 =>
 Ld (.int .i64) w7 (a4.add 31) fun x44 =>
 Ld (.int .i64) w7 (a4.add 32) fun x45 =>
 Ld (.int .i64) w7 (a4.add 33) fun x46 =>
 Ld (.int .i64) w7 (a4.add 34) fun x47 =>
 Ld .slice w7 (a4.add 35) fun x48 =>
 c_config_Wait x13 x14 x15 x16 x17 x18 x19 x20 x21 x22 x23 x24 x25 x26 x27 x28 x29 x30 x31 x32 x33 x34 x35 x36 x37 x38 x39 x40 x41 x42 x43 x44 x45 x46 x47 x48 17 a1 w7 fun r49 w50 =>
 (bif (decide (r49 ≥ 120)) then
 Ld (.int .u8) w50 (a4.add 0) fun x51 =>
 Ld (.int .u8) w50 (a4.add 1) fun x52 =>
 Ld (.int .u8) w50 (a4.add 2) fun x53 =>
 Ld (.int .u8) w50 (a4.add 3) fun x54 =>
 Ld (.int .u8) w50 (a4.add 4) fun x55 =>
 Ld (.int .u8) w50 (a4.add 5) fun x56 =>
 Ld (.int .u8) w50 (a4.add 6) fun x57 =>
 Ld (.int .u8) w50 (a4.add 7) fun x58 =>
 Ld (.int .u8) w50 (a4.add 8) fun x59 =>
 Ld (.int .u8) w50 (a4.add 9) fun x60 =>
 Ld (.int .u8) w50 (a4.add 10) fun x61 =>
 Ld (.int .u8) w50 (a4.add 11) fun x62 =>
 Ld (.int .u8) w50 (a4.add 12) fun x63 =>
 Ld (.int .u8) w50 (a4.add 13) fun x64 =>
 Ld (.int .u8) w50 (a4.add 14) fun x65 =>
 Ld (.int .u8) w50 (a4.add 15) fun x66 =>
 Ld .slice w50 (a4.add 16) fun x67 =>
 Ld .slice w50 (a4.add 17) fun x68 =>
 Ld (.int .i64) w50 (a4.add 18) fun x69 =>
 Ld (.int .i64) w50 (a4.add 19) fun x70 =>
 Ld (.int .i64) w50 (a4.add 20) fun x71 =>
 Ld (.int .i64) w50 (a4.add 21) fun x72 =>
 Ld (.int .i64) w50 (a4.add 22) fun x73 =>
 Ld (.int .i64) w50 (a4.add 23) fun x74 =>
 Ld (.int .i64) w50 (a4.add 24) fun x75 =>
 Ld (.int .i64) w50 (a4.add 25) fun x76 =>
 Ld (.int .i64) w50 (a4.add 26) fun x77 =>
 Ld (.int .i64) w50 (a4.add 27) fun x78 =>
 Ld (.int .i64) w50 (a4.add 28) fun x79 =>
 Ld (.int .i64) w50 (a4.add 29) fun x80 =>
 Ld (.int .i64) w50 (a4.add 30) fun x81 =>
 Ld (.int .i64) w50 (a4.add 31) fun x82 =>
 Ld (.int .i64) w50 (a4.add 32) fun x83 =>
 Ld (.int .i64) w50 (a4.add 33) fun x84 =>
 Ld (.int .i64) w50 (a4.add 34) fun x85 =>
 Ld .slice w50 (a4.add 35) fun x86 =>
 c_config_Wait x51 x52 x53 x54 x55 x56 x57 x58 x59 x60 x61 x62 x63 x64 x65 x66 x67 x68 x69 x70 x71 x72 x73 x74 x75 x76 x77 x78 x79 x80 x81 x82 x83 x84 x85 x86 6 3 w50 fun r87 w88 =>
 (bif (decide (r87 ≥ 7440)) then
 Ld (.int .u8) w88 (a4.add 0) fun x89 =>
 Ld (.int .u8) w88 (a4.add 1) fun x90 =>
 Ld (.int .u8) w88 (a4.add 2) fun x91 =>
 Ld (.int .u8) w88 (a4.add 3) fun x92 =>
 Ld (.int .u8) w88 (a4.add 4) fun x93 =>
 Ld (.int .u8) w88 (a4.add 5) fun x94 =>
 Ld (.int .u8) w88 (a4.add 6) fun x95 =>
 Ld (.int .u8) w88 (a4.add 7) fun x96 =>
 Ld (.int .u8) w88 (a4.add 8) fun x97 =>
 Ld (.int .u8) w88 (a4.add 9) fun x98 =>
 Ld (.int .u8) w88 (a4.add 10) fun x99 =>
 Ld (.int .u8) w88 (a4.add 11) fun x100 =>
 Ld (.int .u8) w88 (a4.add 12) fun x101 =>
 Ld (.int .u8) w88 (a4.add 13) fun x102 =>
 Ld (.int .u8) w88 (a4.add 14) fun x103 =>
 Ld (.int .u8) w88 (a4.add 15) fun x104 =>
 Ld .slice w88 (a4.add 16) fun x105 =>
 Ld .slice w88 (a4.add 17) fun x106 =>
 Ld (.int .i64) w88 (a4.add 18) fun x107 =>
 Ld (.int .i64) w88 (a4.add 19) fun x108 =>
 Ld (.int .i64) w88 (a4.add 20) fun x109 =>
 Ld (.int .i64) w88 (a4.add 21) fun x110 =>
 Ld (.int .i64) w88 (a4.add 22) fun x111 =>
 Ld (.int .i64) w88 (a4.add 23) fun x112 =>
 Ld (.int .i64) w88 (a4.add 24) fun x113 =>
 Ld (.int .i64) w88 (a4.add 25) fun x114 =>
 Ld (.int .i64) w88 (a4.add 26) fun x115 =>
 Ld (.int .i64) w88 (a4.add 27) fun x116 =>
 Ld (.int .i64) w88 (a4.add 28) fun x117 =>
 Ld (.int .i64) w88 (a4.add 29) fun x118 =>
 Ld (.int .i64) w88 (a4.add 30) fun x119 =>
 Ld (.int .i64) w88 (a4.add 31) fun x120 =>
 Ld (.int .i64) w88 (a4.add 32) fun x121 =>
 Ld (.int .i64) w88 (a4.add 33) fun x122 =>
 Ld (.int .i64) w88 (a4.add 34) fun x123 =>
 Ld .slice w88 (a4.add 35) fun x124 =>
 c_config_Wait x89 x90 x91 x92 x93 x94 x95 x96 x97 x98 x99 x100 x101 x102 x103 x104 x105 x106 x107 x108 x109 x110 x111 x112 x113 x114 x115 x116 x117 x118 x119 x120 x121 x122 x123 x124 6 a1 w88 fun r125 w126 =>
 (bif (decide (r125 ≥ 240)) then
 Ld (.int .u8) w126 (a4.add 0) fun x127 =>
 Ld (.int .u8) w126 (a4.add 1) fun x128 =>
 Ld (.int .u8) w126 (a4.add 2) fun x129 =>
 Ld (.int .u8) w126 (a4.add 3) fun x130 =>
 Ld (.int .u8) w126 (a4.add 4) fun x131 =>
 Ld (.int .u8) w126 (a4.add 5) fun x132 =>
 Ld (.int .u8) w126 (a4.add 6) fun x133 =>
 Ld (.int .u8) w126 (a4.add 7) fun x134 =>
 Ld (.int .u8) w126 (a4.add 8) fun x135 =>
 Ld (.int .u8) w126 (a4.add 9) fun x136 =>
 Ld (.int .u8) w126 (a4.add 10) fun x137 =>
 Ld (.int .u8) w126 (a4.add 11) fun x138 =>
 Ld (.int .u8) w126 (a4.add 12) fun x139 =>
 Ld (.int .u8) w126 (a4.add 13) fun x140 =>
 Ld (.int .u8) w126 (a4.add 14) fun x141 =>
 Ld (.int .u8) w126 (a4.add 15) fun x142 =>
 Ld .slice w126 (a4.add 16) fun x143 =>
 Ld .slice w126 (a4.add 17) fun x144 =>
 Ld (.int .i64) w126 (a4.add 18) fun x145 =>
 Ld (.int .i64) w126 (a4.add 19) fun x146 =>
 Ld (.int .i64) w126 (a4.add 20) fun x147 =>
 Ld (.int .i64) w126 (a4.add 21) fun x148 =>
 Ld (.int .i64) w126 (a4.add 22) fun x149 =>
 Ld (.int .i64) w126 (a4.add 23) fun x150 =>
 Ld (.int .i64) w126 (a4.add 24) fun x151 =>
 Ld (.int .i64) w126 (a4.add 25) fun x152 =>
 Ld (.int .i64) w126 (a4.add 26) fun x153 =>
 Ld (.int .i64) w126 (a4.add 27) fun x154 =>
 Ld (.int .i64) w126 (a4.add 28) fun x155 =>
 Ld (.int .i64) w126 (a4.add 29) fun x156 =>
 Ld (.int .i64) w126 (a4.add 30) fun x157 =>
 Ld (.int .i64) w126 (a4.add 31) fun x158 =>
 Ld (.int .i64) w126 (a4.add 32) fun x159 =>
 Ld (.int .i64) w126 (a4.add 33) fun x160 =>
 Ld (.int .i64) w126 (a4.add 34) fun x161 =>
 Ld .slice w126 (a4.add 35) fun x162 =>
 c_config_Wait x127 x128 x129 x130 x131 x132 x133 x134 x135 x136 x137 x138 x139 x140 x141 x142 x143 x144 x145 x146 x147 x148 x149 x150 x151 x152 x153 x154 x155 x156 x157 x158 x159 x160 x161 x162 1 a1 w126 fun r163 w164 =>
 (bif (decide (r163 ≥ 60)) then
 c_law20_awake  w164 fun r165 w166 =>
 J10 r165 w166
 else
 J10 false w164)
 else
 J10 false w126)
 else
 J10 false w88)
 else
 J10 false w50)))
 Ld .slice w3 (a4.add 16) fun x167 =>
 (bif (decide ((x167.len : Int) > 200)) then
 J5 true w3
 else
 Ld .slice w3 (a4.add 17) fun x168 =>
 (bif (decide ((x168.len : Int) > 200)) then
 J5 true w3
 else
 Ld .slice w3 (a4.add 35) fun x169 =>
 (bif (decide ((x169.len : Int) > 200)) then
 J5 true w3
 else
 Ld (.int .u8) w3 (a4.add 0) fun x170 =>
 Ld (.int .u8) w3 (a4.add 1) fun x171 =>
 Ld (.int .u8) w3 (a4.add 2) fun x172 =>
 Ld (.int .u8) w3 (a4.add 3) fun x173 =>
 Ld (.int .u8) w3 (a4.add 4) fun x174 =>
 Ld (.int .u8) w3 (a4.add 5) fun x175 =>
 Ld (.int .u8) w3 (a4.add 6) fun x176 =>
 Ld (.int .u8) w3 (a4.add 7) fun x177 =>
 Ld (.int .u8) w3 (a4.add 8) fun x178 =>
 Ld (.int .u8) w3 (a4.add 9) fun x179 =>
 Ld (.int .u8) w3 (a4.add 10) fun x180 =>
 Ld (.int .u8) w3 (a4.add 11) fun x181 =>
 Ld (.int .u8) w3 (a4.add 12) fun x182 =>
 Ld (.int .u8) w3 (a4.add 13) fun x183 =>
 Ld (.int .u8) w3 (a4.add 14) fun x184 =>
 Ld (.int .u8) w3 (a4.add 15) fun x185 =>
 Ld .slice w3 (a4.add 16) fun x186 =>
 Ld .slice w3 (a4.add 17) fun x187 =>
 Ld (.int .i64) w3 (a4.add 18) fun x188 =>
 Ld (.int .i64) w3 (a4.add 19) fun x189 =>
 Ld (.int .i64) w3 (a4.add 20) fun x190 =>
 Ld (.int .i64) w3 (a4.add 21) fun x191 =>
 Ld (.int .i64) w3 (a4.add 22) fun x192 =>
 Ld (.int .i64) w3 (a4.add 23) fun x193 =>
 Ld (.int .i64) w3 (a4.add 24) fun x194 =>
 Ld (.int .i64) w3 (a4.add 25) fun x195 =>
 Ld (.int .i64) w3 (a4.add 26) fun x196 =>
 Ld (.int .i64) w3 (a4.add 27) fun x197 =>
 Ld (.int .i64) w3 (a4.add 28) fun x198 =>
 Ld (.int .i64) w3 (a4.add 29) fun x199 =>
 Ld (.int .i64) w3 (a4.add 30) fun x200 =>
 Ld (.int .i64) w3 (a4.add 31) fun x201 =>
 Ld (.int .i64) w3 (a4.add 32) fun x202 =>
 Ld (.int .i64) w3 (a4.add 33) fun x203 =>
 Ld (.int .i64) w3 (a4.add 34) fun x204 =>
 Ld .slice w3 (a4.add 35) fun x205 =>
 c_config_Check x170 x171 x172 x173 x174 x175 x176 x177 x178 x179 x180 x181 x182 x183 x184 x185 x186 x187 x188 x189 x190 x191 x192 x193 x194 x195 x196 x197 x198 x199 x200 x201 x202 x203 x204 x205 w3 fun r206 w207 =>
 J5 (r206 != 0) w207))))
theorem e_law20_ConfigWaits (a0_0 : Int) (a0_1 : Int) (a0_2 : Int) (a0_3 : Int) (a0_4 : Int) (a0_5 : Int) (a0_6 : Int) (a0_7 : Int) (a0_8 : Int) (a0_9 : Int) (a0_10 : Int) (a0_11 : Int) (a0_12 : Int) (a0_13 : Int) (a0_14 : Int) (a0_15 : Int) (a0_16 : SliceV) (a0_17 : SliceV) (a0_18 : Int) (a0_19 : Int) (a0_20 : Int) (a0_21 : Int) (a0_22 : Int) (a0_23 : Int) (a0_24 : Int) (a0_25 : Int) (a0_26 : Int) (a0_27 : Int) (a0_28 : Int) (a0_29 : Int) (a0_30 : Int) (a0_31 : Int) (a0_32 : Int) (a0_33 : Int) (a0_34 : Int) (a0_35 : SliceV) (a1 : Int) (w : World) (K : Bool → World → Prop) : den Try.prog 51 (bodyOf Try.f5) none (.seq .leaf (.seq (.seq .leaf (.cond (.seq .leaf .leaf) .leaf)) (.seq .leaf .leaf))) (argEnv 0 [(Value.agg ⟨((Value.int .u8 a0_0) :: (Value.int .u8 a0_1) :: (Value.int .u8 a0_2) :: (Value.int .u8 a0_3) :: (Value.int .u8 a0_4) :: (Value.int .u8 a0_5) :: (Value.int .u8 a0_6) :: (Value.int .u8 a0_7) :: (Value.int .u8 a0_8) :: (Value.int .u8 a0_9) :: (Value.int .u8 a0_10) :: (Value.int .u8 a0_11) :: (Value.int .u8 a0_12) :: (Value.int .u8 a0_13) :: (Value.int .u8 a0_14) :: (Value.int .u8 a0_15) :: (Value.slice a0_16.a a0_16.len a0_16.cap) :: (Value.slice a0_17.a a0_17.len a0_17.cap) :: (Value.int .i64 a0_18) :: (Value.int .i64 a0_19) :: (Value.int .i64 a0_20) :: (Value.int .i64 a0_21) :: (Value.int .i64 a0_22) :: (Value.int .i64 a0_23) :: (Value.int .i64 a0_24) :: (Value.int .i64 a0_25) :: (Value.int .i64 a0_26) :: (Value.int .i64 a0_27) :: (Value.int .i64 a0_28) :: (Value.int .i64 a0_29) :: (Value.int .i64 a0_30) :: (Value.int .i64 a0_31) :: (Value.int .i64 a0_32) :: (Value.int .i64 a0_33) :: (Value.int .i64 a0_34) :: (Value.slice a0_35.a a0_35.len a0_35.cap) :: [])⟩), (Value.int .i64 a1)]) [] w (retK Try.prog [.tmp 4] [.one .bool] K) = s_law20_ConfigWaits a0_0 a0_1 a0_2 a0_3 a0_4 a0_5 a0_6 a0_7 a0_8 a0_9 a0_10 a0_11 a0_12 a0_13 a0_14 a0_15 a0_16 a0_17 a0_18 a0_19 a0_20 a0_21 a0_22 a0_23 a0_24 a0_25 a0_26 a0_27 a0_28 a0_29 a0_30 a0_31 a0_32 a0_33 a0_34 a0_35 a1 w K := by kernel_rfl
theorem ok_law20_ConfigWaits {a0_0 a0_1 a0_2 a0_3 a0_4 a0_5 a0_6 a0_7 a0_8 a0_9 a0_10 a0_11 a0_12 a0_13 a0_14 a0_15 a0_16 a0_17 a0_18 a0_19 a0_20 a0_21 a0_22 a0_23 a0_24 a0_25 a0_26 a0_27 a0_28 a0_29 a0_30 a0_31 a0_32 a0_33 a0_34 a0_35 a1 w K} (h : s_law20_ConfigWaits a0_0 a0_1 a0_2 a0_3 a0_4 a0_5 a0_6 a0_7 a0_8 a0_9 a0_10 a0_11 a0_12 a0_13 a0_14 a0_15 a0_16 a0_17 a0_18 a0_19 a0_20 a0_21 a0_22 a0_23 a0_24 a0_25 a0_26 a0_27 a0_28 a0_29 a0_30 a0_31 a0_32 a0_33 a0_34 a0_35 a1 w K) : c_law20_ConfigWaits a0_0 a0_1 a0_2 a0_3 a0_4 a0_5 a0_6 a0_7 a0_8 a0_9 a0_10 a0_11 a0_12 a0_13 a0_14 a0_15 a0_16 a0_17 a0_18 a0_19 a0_20 a0_21 a0_22 a0_23 a0_24 a0_25 a0_26 a0_27 a0_28 a0_29 a0_30 a0_31 a0_32 a0_33 a0_34 a0_35 a1 w K :=
  fn_sound pok Try.func5 (fn := Try.f5) (c := bodyOf Try.f5) (nt := 51) (by kernel_rfl) (by kernel_rfl) (rs := [.tmp 4]) (by kernel_rfl) [.one .bool] K (.seq .leaf (.seq (.seq .leaf (.cond (.seq .leaf .leaf) .leaf)) (.seq .leaf .leaf))) [(Value.agg ⟨((Value.int .u8 a0_0) :: (Value.int .u8 a0_1) :: (Value.int .u8 a0_2) :: (Value.int .u8 a0_3) :: (Value.int .u8 a0_4) :: (Value.int .u8 a0_5) :: (Value.int .u8 a0_6) :: (Value.int .u8 a0_7) :: (Value.int .u8 a0_8) :: (Value.int .u8 a0_9) :: (Value.int .u8 a0_10) :: (Value.int .u8 a0_11) :: (Value.int .u8 a0_12) :: (Value.int .u8 a0_13) :: (Value.int .u8 a0_14) :: (Value.int .u8 a0_15) :: (Value.slice a0_16.a a0_16.len a0_16.cap) :: (Value.slice a0_17.a a0_17.len a0_17.cap) :: (Value.int .i64 a0_18) :: (Value.int .i64 a0_19) :: (Value.int .i64 a0_20) :: (Value.int .i64 a0_21) :: (Value.int .i64 a0_22) :: (Value.int .i64 a0_23) :: (Value.int .i64 a0_24) :: (Value.int .i64 a0_25) :: (Value.int .i64 a0_26) :: (Value.int .i64 a0_27) :: (Value.int .i64 a0_28) :: (Value.int .i64 a0_29) :: (Value.int .i64 a0_30) :: (Value.int .i64 a0_31) :: (Value.int .i64 a0_32) :: (Value.int .i64 a0_33) :: (Value.int .i64 a0_34) :: (Value.slice a0_35.a a0_35.len a0_35.cap) :: [])⟩), (Value.int .i64 a1)] (by kernel_rfl) w ((e_law20_ConfigWaits a0_0 a0_1 a0_2 a0_3 a0_4 a0_5 a0_6 a0_7 a0_8 a0_9 a0_10 a0_11 a0_12 a0_13 a0_14 a0_15 a0_16 a0_17 a0_18 a0_19 a0_20 a0_21 a0_22 a0_23 a0_24 a0_25 a0_26 a0_27 a0_28 a0_29 a0_30 a0_31 a0_32 a0_33 a0_34 a0_35 a1 w K).mpr h)

/-- goosepond/goosepondlaw20.ConfigBase -/
def s_law20_ConfigBase (a0_0 : Int) (a0_1 : Int) (a0_2 : Int) (a0_3 : Int) (a0_4 : Int) (a0_5 : Int) (a0_6 : Int) (a0_7 : Int) (a0_8 : Int) (a0_9 : Int) (a0_10 : Int) (a0_11 : Int) (a0_12 : Int) (a0_13 : Int) (a0_14 : Int) (a0_15 : Int) (a1 : Int) (w : World) (K : Bool → World → Prop) : Prop :=
 (Al w (.cells ⟨[(Value.int .u8 a0_0), (Value.int .u8 a0_1), (Value.int .u8 a0_2), (Value.int .u8 a0_3), (Value.int .u8 a0_4), (Value.int .u8 a0_5), (Value.int .u8 a0_6), (Value.int .u8 a0_7), (Value.int .u8 a0_8), (Value.int .u8 a0_9), (Value.int .u8 a0_10), (Value.int .u8 a0_11), (Value.int .u8 a0_12), (Value.int .u8 a0_13), (Value.int .u8 a0_14), (Value.int .u8 a0_15)]⟩ 38) fun a4 w3 =>
 c_config_Base  w3 fun r5 r6 r7 r8 r9 r10 r11 r12 r13 r14 r15 r16 r17 r18 r19 r20 r21 r22 r23 r24 r25 r26 r27 r28 r29 r30 r31 r32 r33 r34 r35 r36 r37 r38 r39 r40 w41 =>
 Al w41 (.cells ⟨((Value.int .u8 0) :: (Value.int .u8 0) :: (Value.int .u8 0) :: (Value.int .u8 0) :: (Value.int .u8 0) :: (Value.int .u8 0) :: (Value.int .u8 0) :: (Value.int .u8 0) :: (Value.int .u8 0) :: (Value.int .u8 0) :: (Value.int .u8 0) :: (Value.int .u8 0) :: (Value.int .u8 0) :: (Value.int .u8 0) :: (Value.int .u8 0) :: (Value.int .u8 0) :: (Value.slice none 0 0) :: (Value.slice none 0 0) :: (Value.int .i64 0) :: (Value.int .i64 0) :: (Value.int .i64 0) :: (Value.int .i64 0) :: (Value.int .i64 0) :: (Value.int .i64 0) :: (Value.int .i64 0) :: (Value.int .i64 0) :: (Value.int .i64 0) :: (Value.int .i64 0) :: (Value.int .i64 0) :: (Value.int .i64 0) :: (Value.int .i64 0) :: (Value.int .i64 0) :: (Value.int .i64 0) :: (Value.int .i64 0) :: (Value.int .i64 0) :: (Value.slice none 0 0) :: [])⟩ 42) fun a43 w42 =>
 StN ((Value.int .u8 r5) :: (Value.int .u8 r6) :: (Value.int .u8 r7) :: (Value.int .u8 r8) :: (Value.int .u8 r9) :: (Value.int .u8 r10) :: (Value.int .u8 r11) :: (Value.int .u8 r12) :: (Value.int .u8 r13) :: (Value.int .u8 r14) :: (Value.int .u8 r15) :: (Value.int .u8 r16) :: (Value.int .u8 r17) :: (Value.int .u8 r18) :: (Value.int .u8 r19) :: (Value.int .u8 r20) :: (Value.slice r21.a r21.len r21.cap) :: (Value.slice r22.a r22.len r22.cap) :: (Value.int .i64 r23) :: (Value.int .i64 r24) :: (Value.int .i64 r25) :: (Value.int .i64 r26) :: (Value.int .i64 r27) :: (Value.int .i64 r28) :: (Value.int .i64 r29) :: (Value.int .i64 r30) :: (Value.int .i64 r31) :: (Value.int .i64 r32) :: (Value.int .i64 r33) :: (Value.int .i64 r34) :: (Value.int .i64 r35) :: (Value.int .i64 r36) :: (Value.int .i64 r37) :: (Value.int .i64 r38) :: (Value.int .i64 r39) :: (Value.slice r40.a r40.len r40.cap) :: []) w42 a43 0 fun w44 =>
 let J45 : Bool → Prop := fun j46 =>
 ((bif j46 then
 K false w44
 else
 Ld .slice w44.drew (a43.add 16) fun x47 =>
 Ld .slice w44.drew (a43.add 17) fun x48 =>
 Ld (.int .u8) w44.drew (a4.add 0) fun x49 =>
 Ld (.int .u8) w44.drew (a4.add 1) fun x50 =>
 Ld (.int .u8) w44.drew (a4.add 2) fun x51 =>
 Ld (.int .u8) w44.drew (a4.add 3) fun x52 =>
 Ld (.int .u8) w44.drew (a4.add 4) fun x53 =>
 Ld (.int .u8) w44.drew (a4.add 5) fun x54 =>
 Ld (.int .u8) w44.drew (a4.add 6) fun x55 =>
 Ld (.int .u8) w44.drew (a4.add 7) fun x56 =>
 Ld (.int .u8) w44.drew (a4.add 8) fun x57 =>
 Ld (.int .u8) w44.drew (a4.add 9) fun x58 =>
 Ld (.int .u8) w44.drew (a4.add 10) fun x59 =>
 Ld (.int .u8) w44.drew (a4.add 11) fun x60 =>
 Ld (.int .u8) w44.drew (a4.add 12) fun x61 =>
 Ld (.int .u8) w44.drew (a4.add 13) fun x62 =>
 Ld (.int .u8) w44.drew (a4.add 14) fun x63 =>
 Ld (.int .u8) w44.drew (a4.add 15) fun x64 =>
 AtIx x47 16 0 fun a65 =>
 StN [(Value.int .u8 x49), (Value.int .u8 x50), (Value.int .u8 x51), (Value.int .u8 x52), (Value.int .u8 x53), (Value.int .u8 x54), (Value.int .u8 x55), (Value.int .u8 x56), (Value.int .u8 x57), (Value.int .u8 x58), (Value.int .u8 x59), (Value.int .u8 x60), (Value.int .u8 x61), (Value.int .u8 x62), (Value.int .u8 x63), (Value.int .u8 x64)] w44.drew a65 0 fun w66 =>
 w66.cell? (a43.add 17) = some (Value.slice x48.a x48.len x48.cap) ∧
 AtIx x48 1 0 fun a67 =>
 St w66 a67 (Value.int .i64 a1) fun w68 =>
 c_config_Base  w68 fun r69 r70 r71 r72 r73 r74 r75 r76 r77 r78 r79 r80 r81 r82 r83 r84 r85 r86 r87 r88 r89 r90 r91 r92 r93 r94 r95 r96 r97 r98 r99 r100 r101 r102 r103 r104 w105 =>
 c_ref20_Base  w105 fun r106 r107 r108 r109 r110 r111 r112 r113 r114 r115 r116 r117 r118 r119 r120 r121 r122 r123 r124 r125 r126 r127 r128 r129 r130 r131 r132 r133 r134 r135 r136 r137 r138 r139 r140 r141 w142 =>
 Al w142 (.cells ⟨((Value.int .u8 0) :: (Value.int .u8 0) :: (Value.int .u8 0) :: (Value.int .u8 0) :: (Value.int .u8 0) :: (Value.int .u8 0) :: (Value.int .u8 0) :: (Value.int .u8 0) :: (Value.int .u8 0) :: (Value.int .u8 0) :: (Value.int .u8 0) :: (Value.int .u8 0) :: (Value.int .u8 0) :: (Value.int .u8 0) :: (Value.int .u8 0) :: (Value.int .u8 0) :: (Value.slice none 0 0) :: (Value.slice none 0 0) :: (Value.int .i64 0) :: (Value.int .i64 0) :: (Value.int .i64 0) :: (Value.int .i64 0) :: (Value.int .i64 0) :: (Value.int .i64 0) :: (Value.int .i64 0) :: (Value.int .i64 0) :: (Value.int .i64 0) :: (Value.int .i64 0) :: (Value.int .i64 0) :: (Value.int .i64 0) :: (Value.int .i64 0) :: (Value.int .i64 0) :: (Value.int .i64 0) :: (Value.int .i64 0) :: (Value.int .i64 0) :: (Value.slice none 0 0) :: [])⟩ 42) fun a144 w143 =>
 Al w143 (.cells ⟨((Value.int .u8 0) :: (Value.int .u8 0) :: (Value.int .u8 0) :: (Value.int .u8 0) :: (Value.int .u8 0) :: (Value.int .u8 0) :: (Value.int .u8 0) :: (Value.int .u8 0) :: (Value.int .u8 0) :: (Value.int .u8 0) :: (Value.int .u8 0) :: (Value.int .u8 0) :: (Value.int .u8 0) :: (Value.int .u8 0) :: (Value.int .u8 0) :: (Value.int .u8 0) :: (Value.slice none 0 0) :: (Value.slice none 0 0) :: (Value.int .i64 0) :: (Value.int .i64 0) :: (Value.int .i64 0) :: (Value.int .i64 0) :: (Value.int .i64 0) :: (Value.int .i64 0) :: (Value.int .i64 0) :: (Value.int .i64 0) :: (Value.int .i64 0) :: (Value.int .i64 0) :: (Value.int .i64 0) :: (Value.int .i64 0) :: (Value.int .i64 0) :: (Value.int .i64 0) :: (Value.int .i64 0) :: (Value.int .i64 0) :: (Value.int .i64 0) :: (Value.slice none 0 0) :: [])⟩ 42) fun a146 w145 =>
 StN ((Value.int .u8 r69) :: (Value.int .u8 r70) :: (Value.int .u8 r71) :: (Value.int .u8 r72) :: (Value.int .u8 r73) :: (Value.int .u8 r74) :: (Value.int .u8 r75) :: (Value.int .u8 r76) :: (Value.int .u8 r77) :: (Value.int .u8 r78) :: (Value.int .u8 r79) :: (Value.int .u8 r80) :: (Value.int .u8 r81) :: (Value.int .u8 r82) :: (Value.int .u8 r83) :: (Value.int .u8 r84) :: (Value.slice r85.a r85.len r85.cap) :: (Value.slice r86.a r86.len r86.cap) :: (Value.int .i64 r87) :: (Value.int .i64 r88) :: (Value.int .i64 r89) :: (Value.int .i64 r90) :: (Value.int .i64 r91) :: (Value.int .i64 r92) :: (Value.int .i64 r93) :: (Value.int .i64 r94) :: (Value.int .i64 r95) :: (Value.int .i64 r96) :: (Value.int .i64 r97) :: (Value.int .i64 r98) :: (Value.int .i64 r99) :: (Value.int .i64 r100) :: (Value.int .i64 r101) :: (Value.int .i64 r102) :: (Value.int .i64 r103) :: (Value.slice r104.a r104.len r104.cap) :: []) w145 a144 0 fun w147 =>
 StN ((Value.int .u8 r106) :: (Value.int .u8 r107) :: (Value.int .u8 r108) :: (Value.int .u8 r109) :: (Value.int .u8 r110) :: (Value.int .u8 r111) :: (Value.int .u8 r112) :: (Value.int .u8 r113) :: (Value.int .u8 r114) :: (Value.int .u8 r115) :: (Value.int .u8 r116) :: (Value.int .u8 r117) :: (Value.int .u8 r118) :: (Value.int .u8 r119) :: (Value.int .u8 r120) :: (Value.int .u8 r121) :: (Value.slice r122.a r122.len r122.cap) :: (Value.slice r123.a r123.len r123.cap) :: (Value.int .i64 r124) :: (Value.int .i64 r125) :: (Value.int .i64 r126) :: (Value.int .i64 r127) :: (Value.int .i64 r128) :: (Value.int .i64 r129) :: (Value.int .i64 r130) :: (Value.int .i64 r131) :: (Value.int .i64 r132) :: (Value.int .i64 r133) :: (Value.int .i64 r134) :: (Value.int .i64 r135) :: (Value.int .i64 r136) :: (Value.int .i64 r137) :: (Value.int .i64 r138) :: (Value.int .i64 r139) :: (Value.int .i64 r140) :: (Value.slice r141.a r141.len r141.cap) :: []) w147 a146 0 fun w148 =>
 let J149 : Bool → Prop := fun j150 =>
 ((bif j150 then
 K false w148
 else
 let J151 : Bool → World → Prop := fun j152 w153 =>
 (JoinP (S := (Bool × Unit) × World) (fun s154 =>
 let J155 : Bool → Prop := fun j156 =>
 (JoinP (S := (Bool × Unit) × World) (fun s157 =>
 K s157.1.1 s157.2) fun J158 =>
 (bif j152 then
 (bif s154.1.1 then
 (bif j156 then
 Ld (.int .i64) s154.2 (a144.add 30) fun x159 =>
 Ld (.int .i64) s154.2 (a146.add 30) fun x160 =>
 (bif (x159 == x160) then
 Ld (.int .i64) s154.2 (a144.add 31) fun x161 =>
 Ld (.int .i64) s154.2 (a146.add 31) fun x162 =>
 (bif (x161 == x162) then
 Ld (.int .i64) s154.2 (a144.add 32) fun x163 =>
 Ld (.int .i64) s154.2 (a146.add 32) fun x164 =>
 (bif (x163 == x164) then
 Ld (.int .i64) s154.2 (a144.add 33) fun x165 =>
 Ld (.int .i64) s154.2 (a146.add 33) fun x166 =>
 (bif (x165 == x166) then
 Ld (.int .i64) s154.2 (a144.add 34) fun x167 =>
 Ld (.int .i64) s154.2 (a146.add 34) fun x168 =>
 (bif (x167 == x168) then
 Ld (.int .u8) s154.2 (a144.add 0) fun x169 =>
 Ld (.int .u8) s154.2 (a144.add 1) fun x170 =>
 Ld (.int .u8) s154.2 (a144.add 2) fun x171 =>
 Ld (.int .u8) s154.2 (a144.add 3) fun x172 =>
 Ld (.int .u8) s154.2 (a144.add 4) fun x173 =>
 Ld (.int .u8) s154.2 (a144.add 5) fun x174 =>
 Ld (.int .u8) s154.2 (a144.add 6) fun x175 =>
 Ld (.int .u8) s154.2 (a144.add 7) fun x176 =>
 Ld (.int .u8) s154.2 (a144.add 8) fun x177 =>
 Ld (.int .u8) s154.2 (a144.add 9) fun x178 =>
 Ld (.int .u8) s154.2 (a144.add 10) fun x179 =>
 Ld (.int .u8) s154.2 (a144.add 11) fun x180 =>
 Ld (.int .u8) s154.2 (a144.add 12) fun x181 =>
 Ld (.int .u8) s154.2 (a144.add 13) fun x182 =>
 Ld (.int .u8) s154.2 (a144.add 14) fun x183 =>
 Ld (.int .u8) s154.2 (a144.add 15) fun x184 =>
 Ld .slice s154.2 (a144.add 16) fun x185 =>
 Ld .slice s154.2 (a144.add 17) fun x186 =>
 Ld (.int .i64) s154.2 (a144.add 18) fun x187 =>
 Ld (.int .i64) s154.2 (a144.add 19) fun x188 =>
 Ld (.int .i64) s154.2 (a144.add 20) fun x189 =>
 Ld (.int .i64) s154.2 (a144.add 21) fun x190 =>
 Ld (.int .i64) s154.2 (a144.add 22) fun x191 =>
 Ld (.int .i64) s154.2 (a144.add 23) fun x192 =>
 Ld (.int .i64) s154.2 (a144.add 24) fun x193 =>
 Ld (.int .i64) s154.2 (a144.add 25) fun x194 =>
 Ld (.int .i64) s154.2 (a144.add 26) fun x195 =>
 Ld (.int .i64) s154.2 (a144.add 27) fun x196 =>
 Ld (.int .i64) s154.2 (a144.add 28) fun x197 =>
 Ld (.int .i64) s154.2 (a144.add 29) fun x198 =>
 Ld (.int .i64) s154.2 (a144.add 30) fun x199 =>
 Ld (.int .i64) s154.2 (a144.add 31) fun x200 =>
 Ld (.int .i64) s154.2 (a144.add 32) fun x201 =>
 Ld (.int .i64) s154.2 (a144.add 33) fun x202 =>
 Ld (.int .i64) s154.2 (a144.add 34) fun x203 =>
 Ld .slice s154.2 (a144.add 35) fun x204 =>
 c_config_Check x169 x170 x171 x172 x173 x174 x175 x176 x177 x178 x179 x180 x181 x182 x183 x184 x185 x186 x187 x188 x189 x190 x191 x192 x193 x194 x195 x196 x197 x198 x199 x200 x201 x202 x203 x204 s154.2 fun r205 w206 =>
 (bif (r205 == 0) then
 c_law20_awake  w206 fun r207 w208 =>
 J158 ((r207, ()), w208)
 else
 J158 ((false, ()), w206))
 else
 J158 ((false, ()), s154.2))
 else
 J158 ((false, ()), s154.2))
 else
 J158 ((false, ()), s154.2))
 else
 J158 ((false, ()), s154.2))
 else
 J158 ((false, ()), s154.2))
 else
 J158 ((false, ()), s154.2))
 else
 J158 ((false, ()), s154.2))
 else
 J158 ((false, ()), s154.2)))
 Ld (.int .i64) s154.2 (a144.add 25) fun x209 =>
 Ld (.int .i64) s154.2 (a146.add 25) fun x210 =>
 (bif (x209 == x210) then
 Ld (.int .i64) s154.2 (a144.add 26) fun x211 =>
 Ld (.int .i64) s154.2 (a146.add 26) fun x212 =>
 (bif (x211 == x212) then
 Ld (.int .i64) s154.2 (a144.add 27) fun x213 =>
 Ld (.int .i64) s154.2 (a146.add 27) fun x214 =>
 (bif (x213 == x214) then
 Ld (.int .i64) s154.2 (a144.add 28) fun x215 =>
 Ld (.int .i64) s154.2 (a146.add 28) fun x216 =>
 J155 (x215 == x216)
 else
 J155 false)
 else
 J155 false)
 else
 J155 false)) fun J217 =>
 Ld (.int .i64) w153 (a144.add 18) fun x218 =>
 Ld (.int .i64) w153 (a146.add 18) fun x219 =>
 (bif (x218 == x219) then
 Ld (.int .i64) w153 (a144.add 19) fun x220 =>
 Ld (.int .i64) w153 (a146.add 19) fun x221 =>
 (bif (x220 == x221) then
 Ld (.int .i64) w153 (a144.add 20) fun x222 =>
 Ld (.int .i64) w153 (a146.add 20) fun x223 =>
 (bif (x222 == x223) then
 Ld (.int .i64) w153 (a144.add 21) fun x224 =>
 Ld (.int .i64) w153 (a146.add 21) fun x225 =>
 (bif (x224 == x225) then
 Ld (.int .i64) w153 (a144.add 22) fun x226 =>
 Ld (.int .i64) w153 (a146.add 22) fun x227 =>
 (bif (x226 == x227) then
 Ld (.int .i64) w153 (a144.add 23) fun x228 =>
 Ld (.int .i64) w153 (a146.add 23) fun x229 =>
 (bif (x228 == x229) then
 Ld (.int .i64) w153 (a144.add 24) fun x230 =>
 Ld (.int .i64) w153 (a146.add 24) fun x231 =>
 (bif (x230 == x231) then
 Ld (.int .i64) w153 (a144.add 29) fun x232 =>
 Ld (.int .i64) w153 (a146.add 29) fun x233 =>
 J217 (((x232 == x233), ()), w153)
 else
 J217 ((false, ()), w153))
 else
 J217 ((false, ()), w153))
 else
 J217 ((false, ()), w153))
 else
 J217 ((false, ()), w153))
 else
 J217 ((false, ()), w153))
 else
 J217 ((false, ()), w153))
 else
 J217 ((false, ()), w153)))
 Ld (.int .u8) w148.drew (a144.add 0) fun x234 =>
 Ld (.int .u8) w148.drew (a144.add 1) fun x235 =>
 Ld (.int .u8) w148.drew (a144.add 2) fun x236 =>
 Ld (.int .u8) w148.drew (a144.add 3) fun x237 =>
 Ld (.int .u8) w148.drew (a144.add 4) fun x238 =>
 Ld (.int .u8) w148.drew (a144.add 5) fun x239 =>
 Ld (.int .u8) w148.drew (a144.add 6) fun x240 =>
 Ld (.int .u8) w148.drew (a144.add 7) fun x241 =>
 Ld (.int .u8) w148.drew (a144.add 8) fun x242 =>
 Ld (.int .u8) w148.drew (a144.add 9) fun x243 =>
 Ld (.int .u8) w148.drew (a144.add 10) fun x244 =>
 Ld (.int .u8) w148.drew (a144.add 11) fun x245 =>
 Ld (.int .u8) w148.drew (a144.add 12) fun x246 =>
 Ld (.int .u8) w148.drew (a144.add 13) fun x247 =>
 Ld (.int .u8) w148.drew (a144.add 14) fun x248 =>
 Ld (.int .u8) w148.drew (a144.add 15) fun x249 =>
 Ld (.int .u8) w148.drew (a146.add 0) fun x250 =>
 Ld (.int .u8) w148.drew (a146.add 1) fun x251 =>
 Ld (.int .u8) w148.drew (a146.add 2) fun x252 =>
 Ld (.int .u8) w148.drew (a146.add 3) fun x253 =>
 Ld (.int .u8) w148.drew (a146.add 4) fun x254 =>
 Ld (.int .u8) w148.drew (a146.add 5) fun x255 =>
 Ld (.int .u8) w148.drew (a146.add 6) fun x256 =>
 Ld (.int .u8) w148.drew (a146.add 7) fun x257 =>
 Ld (.int .u8) w148.drew (a146.add 8) fun x258 =>
 Ld (.int .u8) w148.drew (a146.add 9) fun x259 =>
 Ld (.int .u8) w148.drew (a146.add 10) fun x260 =>
 Ld (.int .u8) w148.drew (a146.add 11) fun x261 =>
 Ld (.int .u8) w148.drew (a146.add 12) fun x262 =>
 Ld (.int .u8) w148.drew (a146.add 13) fun x263 =>
 Ld (.int .u8) w148.drew (a146.add 14) fun x264 =>
 Ld (.int .u8) w148.drew (a146.add 15) fun x265 =>
 (bif ((x234 == x250) && ((x235 == x251) && ((x236 == x252) && ((x237 == x253) && ((x238 == x254) && ((x239 == x255) && ((x240 == x256) && ((x241 == x257) && ((x242 == x258) && ((x243 == x259) && ((x244 == x260) && ((x245 == x261) && ((x246 == x262) && ((x247 == x263) && ((x248 == x264) && ((x249 == x265) && true)))))))))))))))) then
 Ld .slice w148.drew (a144.add 16) fun x266 =>
 AtIx x266 16 0 fun a267 =>
 Ld (.int .u8) w148.drew (a267.add 0) fun x268 =>
 Ld (.int .u8) w148.drew (a267.add 1) fun x269 =>
 Ld (.int .u8) w148.drew (a267.add 2) fun x270 =>
 Ld (.int .u8) w148.drew (a267.add 3) fun x271 =>
 Ld (.int .u8) w148.drew (a267.add 4) fun x272 =>
 Ld (.int .u8) w148.drew (a267.add 5) fun x273 =>
 Ld (.int .u8) w148.drew (a267.add 6) fun x274 =>
 Ld (.int .u8) w148.drew (a267.add 7) fun x275 =>
 Ld (.int .u8) w148.drew (a267.add 8) fun x276 =>
 Ld (.int .u8) w148.drew (a267.add 9) fun x277 =>
 Ld (.int .u8) w148.drew (a267.add 10) fun x278 =>
 Ld (.int .u8) w148.drew (a267.add 11) fun x279 =>
 Ld (.int .u8) w148.drew (a267.add 12) fun x280 =>
 Ld (.int .u8) w148.drew (a267.add 13) fun x281 =>
 Ld (.int .u8) w148.drew (a267.add 14) fun x282 =>
 Ld (.int .u8) w148.drew (a267.add 15) fun x283 =>
 Ld .slice w148.drew (a146.add 16) fun x284 =>
 AtIx x284 16 0 fun a285 =>
 Ld (.int .u8) w148.drew (a285.add 0) fun x286 =>
 Ld (.int .u8) w148.drew (a285.add 1) fun x287 =>
 Ld (.int .u8) w148.drew (a285.add 2) fun x288 =>
 Ld (.int .u8) w148.drew (a285.add 3) fun x289 =>
 Ld (.int .u8) w148.drew (a285.add 4) fun x290 =>
 Ld (.int .u8) w148.drew (a285.add 5) fun x291 =>
 Ld (.int .u8) w148.drew (a285.add 6) fun x292 =>
 Ld (.int .u8) w148.drew (a285.add 7) fun x293 =>
 Ld (.int .u8) w148.drew (a285.add 8) fun x294 =>
 Ld (.int .u8) w148.drew (a285.add 9) fun x295 =>
 Ld (.int .u8) w148.drew (a285.add 10) fun x296 =>
 Ld (.int .u8) w148.drew (a285.add 11) fun x297 =>
 Ld (.int .u8) w148.drew (a285.add 12) fun x298 =>
 Ld (.int .u8) w148.drew (a285.add 13) fun x299 =>
 Ld (.int .u8) w148.drew (a285.add 14) fun x300 =>
 Ld (.int .u8) w148.drew (a285.add 15) fun x301 =>
 (bif ((x268 == x286) && ((x269 == x287) && ((x270 == x288) && ((x271 == x289) && ((x272 == x290) && ((x273 == x291) && ((x274 == x292) && ((x275 == x293) && ((x276 == x294) && ((x277 == x295) && ((x278 == x296) && ((x279 == x297) && ((x280 == x298) && ((x281 == x299) && ((x282 == x300) && ((x283 == x301) && true)))))))))))))))) then
 Ld .slice w148.drew (a144.add 16) fun x302 =>
 AtIx x302 16 1 fun a303 =>
 Ld (.int .u8) w148.drew (a303.add 0) fun x304 =>
 Ld (.int .u8) w148.drew (a303.add 1) fun x305 =>
 Ld (.int .u8) w148.drew (a303.add 2) fun x306 =>
 Ld (.int .u8) w148.drew (a303.add 3) fun x307 =>
 Ld (.int .u8) w148.drew (a303.add 4) fun x308 =>
 Ld (.int .u8) w148.drew (a303.add 5) fun x309 =>
 Ld (.int .u8) w148.drew (a303.add 6) fun x310 =>
 Ld (.int .u8) w148.drew (a303.add 7) fun x311 =>
 Ld (.int .u8) w148.drew (a303.add 8) fun x312 =>
 Ld (.int .u8) w148.drew (a303.add 9) fun x313 =>
 Ld (.int .u8) w148.drew (a303.add 10) fun x314 =>
 Ld (.int .u8) w148.drew (a303.add 11) fun x315 =>
 Ld (.int .u8) w148.drew (a303.add 12) fun x316 =>
 Ld (.int .u8) w148.drew (a303.add 13) fun x317 =>
 Ld (.int .u8) w148.drew (a303.add 14) fun x318 =>
 Ld (.int .u8) w148.drew (a303.add 15) fun x319 =>
 Ld .slice w148.drew (a146.add 16) fun x320 =>
 AtIx x320 16 1 fun a321 =>
 Ld (.int .u8) w148.drew (a321.add 0) fun x322 =>
 Ld (.int .u8) w148.drew (a321.add 1) fun x323 =>
 Ld (.int .u8) w148.drew (a321.add 2) fun x324 =>
 Ld (.int .u8) w148.drew (a321.add 3) fun x325 =>
 Ld (.int .u8) w148.drew (a321.add 4) fun x326 =>
 Ld (.int .u8) w148.drew (a321.add 5) fun x327 =>
 Ld (.int .u8) w148.drew (a321.add 6) fun x328 =>
 Ld (.int .u8) w148.drew (a321.add 7) fun x329 =>
 Ld (.int .u8) w148.drew (a321.add 8) fun x330 =>
 Ld (.int .u8) w148.drew (a321.add 9) fun x331 =>
 Ld (.int .u8) w148.drew (a321.add 10) fun x332 =>
 Ld (.int .u8) w148.drew (a321.add 11) fun x333 =>
 Ld (.int .u8) w148.drew (a321.add 12) fun x334 =>
 Ld (.int .u8) w148.drew (a321.add 13) fun x335 =>
 Ld (.int .u8) w148.drew (a321.add 14) fun x336 =>
 Ld (.int .u8) w148.drew (a321.add 15) fun x337 =>
 (bif ((x304 == x322) && ((x305 == x323) && ((x306 == x324) && ((x307 == x325) && ((x308 == x326) && ((x309 == x327) && ((x310 == x328) && ((x311 == x329) && ((x312 == x330) && ((x313 == x331) && ((x314 == x332) && ((x315 == x333) && ((x316 == x334) && ((x317 == x335) && ((x318 == x336) && ((x319 == x337) && true)))))))))))))))) then
 Ld .slice w148.drew (a144.add 17) fun x338 =>
 AtIx x338 1 0 fun a339 =>
 Ld (.int .i64) w148.drew a339 fun x340 =>
 Ld .slice w148.drew (a146.add 17) fun x341 =>
 AtIx x341 1 0 fun a342 =>
 Ld (.int .i64) w148.drew a342 fun x343 =>
 (bif (x340 == x343) then
 Ld .slice w148.drew (a144.add 35) fun x344 =>
 J151 ((x344.len : Int) == 0) w148.drew
 else
 J151 false w148.drew)
 else
 J151 false w148.drew)
 else
 J151 false w148.drew)
 else
 J151 false w148.drew)))
 Ld .slice w148 (a144.add 16) fun x345 =>
 (bif ((x345.len : Int) != 2) then
 J149 true
 else
 Ld .slice w148 (a144.add 17) fun x346 =>
 J149 ((x346.len : Int) != 1))))
 Ld .slice w44 (a43.add 16) fun x347 =>
 (bif ((x347.len : Int) != 2) then
 J45 true
 else
 Ld .slice w44 (a43.add 17) fun x348 =>
 J45 ((x348.len : Int) != 1)))
theorem e_law20_ConfigBase (a0_0 : Int) (a0_1 : Int) (a0_2 : Int) (a0_3 : Int) (a0_4 : Int) (a0_5 : Int) (a0_6 : Int) (a0_7 : Int) (a0_8 : Int) (a0_9 : Int) (a0_10 : Int) (a0_11 : Int) (a0_12 : Int) (a0_13 : Int) (a0_14 : Int) (a0_15 : Int) (a1 : Int) (w : World) (K : Bool → World → Prop) : den Try.prog 216 (bodyOf Try.f6) none (.seq .leaf (.seq .leaf (.seq (.seq .leaf (.cond (.seq .leaf .leaf) .leaf)) (.seq .leaf (.seq .leaf (.seq (.seq .leaf (.cond (.seq .leaf .leaf) .leaf)) (.seq .leaf (.join [(9, .sh (.one .bool))] .leaf (.seq .leaf (.join [(4, .sh (.one .bool))] .leaf .leaf)))))))))) (argEnv 0 [(Value.agg ⟨[(Value.int .u8 a0_0), (Value.int .u8 a0_1), (Value.int .u8 a0_2), (Value.int .u8 a0_3), (Value.int .u8 a0_4), (Value.int .u8 a0_5), (Value.int .u8 a0_6), (Value.int .u8 a0_7), (Value.int .u8 a0_8), (Value.int .u8 a0_9), (Value.int .u8 a0_10), (Value.int .u8 a0_11), (Value.int .u8 a0_12), (Value.int .u8 a0_13), (Value.int .u8 a0_14), (Value.int .u8 a0_15)]⟩), (Value.int .i64 a1)]) [] w (retK Try.prog [.tmp 4] [.one .bool] K) = s_law20_ConfigBase a0_0 a0_1 a0_2 a0_3 a0_4 a0_5 a0_6 a0_7 a0_8 a0_9 a0_10 a0_11 a0_12 a0_13 a0_14 a0_15 a1 w K := by kernel_rfl
theorem ok_law20_ConfigBase {a0_0 a0_1 a0_2 a0_3 a0_4 a0_5 a0_6 a0_7 a0_8 a0_9 a0_10 a0_11 a0_12 a0_13 a0_14 a0_15 a1 w K} (h : s_law20_ConfigBase a0_0 a0_1 a0_2 a0_3 a0_4 a0_5 a0_6 a0_7 a0_8 a0_9 a0_10 a0_11 a0_12 a0_13 a0_14 a0_15 a1 w K) : c_law20_ConfigBase a0_0 a0_1 a0_2 a0_3 a0_4 a0_5 a0_6 a0_7 a0_8 a0_9 a0_10 a0_11 a0_12 a0_13 a0_14 a0_15 a1 w K :=
  fn_sound pok Try.func6 (fn := Try.f6) (c := bodyOf Try.f6) (nt := 216) (by kernel_rfl) (by kernel_rfl) (rs := [.tmp 4]) (by kernel_rfl) [.one .bool] K (.seq .leaf (.seq .leaf (.seq (.seq .leaf (.cond (.seq .leaf .leaf) .leaf)) (.seq .leaf (.seq .leaf (.seq (.seq .leaf (.cond (.seq .leaf .leaf) .leaf)) (.seq .leaf (.join [(9, .sh (.one .bool))] .leaf (.seq .leaf (.join [(4, .sh (.one .bool))] .leaf .leaf)))))))))) [(Value.agg ⟨[(Value.int .u8 a0_0), (Value.int .u8 a0_1), (Value.int .u8 a0_2), (Value.int .u8 a0_3), (Value.int .u8 a0_4), (Value.int .u8 a0_5), (Value.int .u8 a0_6), (Value.int .u8 a0_7), (Value.int .u8 a0_8), (Value.int .u8 a0_9), (Value.int .u8 a0_10), (Value.int .u8 a0_11), (Value.int .u8 a0_12), (Value.int .u8 a0_13), (Value.int .u8 a0_14), (Value.int .u8 a0_15)]⟩), (Value.int .i64 a1)] (by kernel_rfl) w ((e_law20_ConfigBase a0_0 a0_1 a0_2 a0_3 a0_4 a0_5 a0_6 a0_7 a0_8 a0_9 a0_10 a0_11 a0_12 a0_13 a0_14 a0_15 a1 w K).mpr h)

/-- goosepond/goosepondlaw20.awake -/
def s_law20_awake  (w : World) (K : Bool → World → Prop) : Prop :=
 (c_config_Base  w fun r1 r2 r3 r4 r5 r6 r7 r8 r9 r10 r11 r12 r13 r14 r15 r16 r17 r18 r19 r20 r21 r22 r23 r24 r25 r26 r27 r28 r29 r30 r31 r32 r33 r34 r35 r36 w37 =>
 Al w37 (.cells ⟨((Value.int .u8 0) :: (Value.int .u8 0) :: (Value.int .u8 0) :: (Value.int .u8 0) :: (Value.int .u8 0) :: (Value.int .u8 0) :: (Value.int .u8 0) :: (Value.int .u8 0) :: (Value.int .u8 0) :: (Value.int .u8 0) :: (Value.int .u8 0) :: (Value.int .u8 0) :: (Value.int .u8 0) :: (Value.int .u8 0) :: (Value.int .u8 0) :: (Value.int .u8 0) :: (Value.slice none 0 0) :: (Value.slice none 0 0) :: (Value.int .i64 0) :: (Value.int .i64 0) :: (Value.int .i64 0) :: (Value.int .i64 0) :: (Value.int .i64 0) :: (Value.int .i64 0) :: (Value.int .i64 0) :: (Value.int .i64 0) :: (Value.int .i64 0) :: (Value.int .i64 0) :: (Value.int .i64 0) :: (Value.int .i64 0) :: (Value.int .i64 0) :: (Value.int .i64 0) :: (Value.int .i64 0) :: (Value.int .i64 0) :: (Value.int .i64 0) :: (Value.slice none 0 0) :: [])⟩ 42) fun a39 w38 =>
 StN ((Value.int .u8 r1) :: (Value.int .u8 r2) :: (Value.int .u8 r3) :: (Value.int .u8 r4) :: (Value.int .u8 r5) :: (Value.int .u8 r6) :: (Value.int .u8 r7) :: (Value.int .u8 r8) :: (Value.int .u8 r9) :: (Value.int .u8 r10) :: (Value.int .u8 r11) :: (Value.int .u8 r12) :: (Value.int .u8 r13) :: (Value.int .u8 r14) :: (Value.int .u8 r15) :: (Value.int .u8 r16) :: (Value.slice r17.a r17.len r17.cap) :: (Value.slice r18.a r18.len r18.cap) :: (Value.int .i64 r19) :: (Value.int .i64 r20) :: (Value.int .i64 r21) :: (Value.int .i64 r22) :: (Value.int .i64 r23) :: (Value.int .i64 r24) :: (Value.int .i64 r25) :: (Value.int .i64 r26) :: (Value.int .i64 r27) :: (Value.int .i64 r28) :: (Value.int .i64 r29) :: (Value.int .i64 r30) :: (Value.int .i64 r31) :: (Value.int .i64 r32) :: (Value.int .i64 r33) :: (Value.int .i64 r34) :: (Value.int .i64 r35) :: (Value.slice r36.a r36.len r36.cap) :: []) w38 a39 0 fun w40 =>
 Ld .slice w40 (a39.add 16) fun x41 =>
 (bif ((x41.len : Int) != 2) then
 K false w40
 else
 Ld (.int .u8) w40.drew (a39.add 0) fun x42 =>
 Ld (.int .u8) w40.drew (a39.add 1) fun x43 =>
 Ld (.int .u8) w40.drew (a39.add 2) fun x44 =>
 Ld (.int .u8) w40.drew (a39.add 3) fun x45 =>
 Ld (.int .u8) w40.drew (a39.add 4) fun x46 =>
 Ld (.int .u8) w40.drew (a39.add 5) fun x47 =>
 Ld (.int .u8) w40.drew (a39.add 6) fun x48 =>
 Ld (.int .u8) w40.drew (a39.add 7) fun x49 =>
 Ld (.int .u8) w40.drew (a39.add 8) fun x50 =>
 Ld (.int .u8) w40.drew (a39.add 9) fun x51 =>
 Ld (.int .u8) w40.drew (a39.add 10) fun x52 =>
 Ld (.int .u8) w40.drew (a39.add 11) fun x53 =>
 Ld (.int .u8) w40.drew (a39.add 12) fun x54 =>
 Ld (.int .u8) w40.drew (a39.add 13) fun x55 =>
 Ld (.int .u8) w40.drew (a39.add 14) fun x56 =>
 Ld (.int .u8) w40.drew (a39.add 15) fun x57 =>
 Ld .slice w40.drew (a39.add 16) fun x58 =>
 Ld .slice w40.drew (a39.add 17) fun x59 =>
 Ld (.int .i64) w40.drew (a39.add 18) fun x60 =>
 Ld (.int .i64) w40.drew (a39.add 19) fun x61 =>
 Ld (.int .i64) w40.drew (a39.add 20) fun x62 =>
 Ld (.int .i64) w40.drew (a39.add 21) fun x63 =>
 Ld (.int .i64) w40.drew (a39.add 22) fun x64 =>
 Ld (.int .i64) w40.drew (a39.add 23) fun x65 =>
 Ld (.int .i64) w40.drew (a39.add 24) fun x66 =>
 Ld (.int .i64) w40.drew (a39.add 25) fun x67 =>
 Ld (.int .i64) w40.drew (a39.add 26) fun x68 =>
 Ld (.int .i64) w40.drew (a39.add 27) fun x69 =>
 Ld (.int .i64) w40.drew (a39.add 28) fun x70 =>
 Ld (.int .i64) w40.drew (a39.add 29) fun x71 =>
 Ld (.int .i64) w40.drew (a39.add 30) fun x72 =>
 Ld (.int .i64) w40.drew (a39.add 31) fun x73 =>
 Ld (.int .i64) w40.drew (a39.add 32) fun x74 =>
 Ld (.int .i64) w40.drew (a39.add 33) fun x75 =>
 Ld (.int .i64) w40.drew (a39.add 34) fun x76 =>
 Ld .slice w40.drew (a39.add 35) fun x77 =>
 Ld .slice w40.drew (a39.add 16) fun x78 =>
 AtIx x78 16 1 fun a79 =>
 Ld (.int .u8) w40.drew (a79.add 0) fun x80 =>
 Ld (.int .u8) w40.drew (a79.add 1) fun x81 =>
 Ld (.int .u8) w40.drew (a79.add 2) fun x82 =>
 Ld (.int .u8) w40.drew (a79.add 3) fun x83 =>
 Ld (.int .u8) w40.drew (a79.add 4) fun x84 =>
 Ld (.int .u8) w40.drew (a79.add 5) fun x85 =>
 Ld (.int .u8) w40.drew (a79.add 6) fun x86 =>
 Ld (.int .u8) w40.drew (a79.add 7) fun x87 =>
 Ld (.int .u8) w40.drew (a79.add 8) fun x88 =>
 Ld (.int .u8) w40.drew (a79.add 9) fun x89 =>
 Ld (.int .u8) w40.drew (a79.add 10) fun x90 =>
 Ld (.int .u8) w40.drew (a79.add 11) fun x91 =>
 Ld (.int .u8) w40.drew (a79.add 12) fun x92 =>
 Ld (.int .u8) w40.drew (a79.add 13) fun x93 =>
 Ld (.int .u8) w40.drew (a79.add 14) fun x94 =>
 Ld (.int .u8) w40.drew (a79.add 15) fun x95 =>
 c_config_Softwire x42 x43 x44 x45 x46 x47 x48 x49 x50 x51 x52 x53 x54 x55 x56 x57 x58 x59 x60 x61 x62 x63 x64 x65 x66 x67 x68 x69 x70 x71 x72 x73 x74 x75 x76 x77 x80 x81 x82 x83 x84 x85 x86 x87 x88 x89 x90 x91 x92 x93 x94 x95 w40.drew fun r96 r97 w98 =>
 let J99 : Bool → World → Prop := fun j100 w101 =>
 (K j100 w101)
 Ld (.int .u8) w98 (a39.add 0) fun x102 =>
 Ld (.int .u8) w98 (a39.add 1) fun x103 =>
 Ld (.int .u8) w98 (a39.add 2) fun x104 =>
 Ld (.int .u8) w98 (a39.add 3) fun x105 =>
 Ld (.int .u8) w98 (a39.add 4) fun x106 =>
 Ld (.int .u8) w98 (a39.add 5) fun x107 =>
 Ld (.int .u8) w98 (a39.add 6) fun x108 =>
 Ld (.int .u8) w98 (a39.add 7) fun x109 =>
 Ld (.int .u8) w98 (a39.add 8) fun x110 =>
 Ld (.int .u8) w98 (a39.add 9) fun x111 =>
 Ld (.int .u8) w98 (a39.add 10) fun x112 =>
 Ld (.int .u8) w98 (a39.add 11) fun x113 =>
 Ld (.int .u8) w98 (a39.add 12) fun x114 =>
 Ld (.int .u8) w98 (a39.add 13) fun x115 =>
 Ld (.int .u8) w98 (a39.add 14) fun x116 =>
 Ld (.int .u8) w98 (a39.add 15) fun x117 =>
 Ld .slice w98 (a39.add 16) fun x118 =>
 Ld .slice w98 (a39.add 17) fun x119 =>
 Ld (.int .i64) w98 (a39.add 18) fun x120 =>
 Ld (.int .i64) w98 (a39.add 19) fun x121 =>
 Ld (.int .i64) w98 (a39.add 20) fun x122 =>
 Ld (.int .i64) w98 (a39.add 21) fun x123 =>
 Ld (.int .i64) w98 (a39.add 22) fun x124 =>
 Ld (.int .i64) w98 (a39.add 23) fun x125 =>
 Ld (.int .i64) w98 (a39.add 24) fun x126 =>
 Ld (.int .i64) w98 (a39.add 25) fun x127 =>
 Ld (.int .i64) w98 (a39.add 26) fun x128 =>
 Ld (.int .i64) w98 (a39.add 27) fun x129 =>
 Ld (.int .i64) w98 (a39.add 28) fun x130 =>
 Ld (.int .i64) w98 (a39.add 29) fun x131 =>
 Ld (.int .i64) w98 (a39.add 30) fun x132 =>
 Ld (.int .i64) w98 (a39.add 31) fun x133 =>
 Ld (.int .i64) w98 (a39.add 32) fun x134 =>
 Ld (.int .i64) w98 (a39.add 33) fun x135 =>
 Ld (.int .i64) w98 (a39.add 34) fun x136 =>
 Ld .slice w98 (a39.add 35) fun x137 =>
 c_config_Check x102 x103 x104 x105 x106 x107 x108 x109 x110 x111 x112 x113 x114 x115 x116 x117 x118 x119 x120 x121 x122 x123 x124 x125 x126 x127 x128 x129 x130 x131 x132 x133 x134 x135 x136 x137 w98 fun r138 w139 =>
 (bif (r138 == 0) then
 (bif r97 then
 (bif (r96 == 1) then
 Ld (.int .u8) w139 (a39.add 0) fun x140 =>
 Ld (.int .u8) w139 (a39.add 1) fun x141 =>
 Ld (.int .u8) w139 (a39.add 2) fun x142 =>
 Ld (.int .u8) w139 (a39.add 3) fun x143 =>
 Ld (.int .u8) w139 (a39.add 4) fun x144 =>
 Ld (.int .u8) w139 (a39.add 5) fun x145 =>
 Ld (.int .u8) w139 (a39.add 6) fun x146 =>
 Ld (.int .u8) w139 (a39.add 7) fun x147 =>
 Ld (.int .u8) w139 (a39.add 8) fun x148 =>
 Ld (.int .u8) w139 (a39.add 9) fun x149 =>
 Ld (.int .u8) w139 (a39.add 10) fun x150 =>
 Ld (.int .u8) w139 (a39.add 11) fun x151 =>
 Ld (.int .u8) w139 (a39.add 12) fun x152 =>
 Ld (.int .u8) w139 (a39.add 13) fun x153 =>
 Ld (.int .u8) w139 (a39.add 14) fun x154 =>
 Ld (.int .u8) w139 (a39.add 15) fun x155 =>
 Ld .slice w139 (a39.add 16) fun x156 =>
 Ld .slice w139 (a39.add 17) fun x157 =>
 Ld (.int .i64) w139 (a39.add 18) fun x158 =>
 Ld (.int .i64) w139 (a39.add 19) fun x159 =>
 Ld (.int .i64) w139 (a39.add 20) fun x160 =>
 Ld (.int .i64) w139 (a39.add 21) fun x161 =>
 Ld (.int .i64) w139 (a39.add 22) fun x162 =>
 Ld (.int .i64) w139 (a39.add 23) fun x163 =>
 Ld (.int .i64) w139 (a39.add 24) fun x164 =>
 Ld (.int .i64) w139 (a39.add 25) fun x165 =>
 Ld (.int .i64) w139 (a39.add 26) fun x166 =>
 Ld (.int .i64) w139 (a39.add 27) fun x167 =>
 Ld (.int .i64) w139 (a39.add 28) fun x168 =>
 Ld (.int .i64) w139 (a39.add 29) fun x169 =>
 Ld (.int .i64) w139 (a39.add 30) fun x170 =>
 Ld (.int .i64) w139 (a39.add 31) fun x171 =>
 Ld (.int .i64) w139 (a39.add 32) fun x172 =>
 Ld (.int .i64) w139 (a39.add 33) fun x173 =>
 Ld (.int .i64) w139 (a39.add 34) fun x174 =>
 Ld .slice w139 (a39.add 35) fun x175 =>
 c_config_Wait x140 x141 x142 x143 x144 x145 x146 x147 x148 x149 x150 x151 x152 x153 x154 x155 x156 x157 x158 x159 x160 x161 x162 x163 x164 x165 x166 x167 x168 x169 x170 x171 x172 x173 x174 x175 6 3 w139 fun r176 w177 =>
 J99 (r176 == 7440) w177
 else
 J99 false w139)
 else
 J99 false w139)
 else
 J99 false w139)))
theorem e_law20_awake  (w : World) (K : Bool → World → Prop) : den Try.prog 33 (bodyOf Try.f13) none (.seq .leaf (.seq .leaf (.seq (.seq .leaf (.cond (.seq .leaf .leaf) .leaf)) (.seq .leaf (.seq .leaf .leaf))))) (argEnv 0 []) [] w (retK Try.prog [.tmp 0] [.one .bool] K) = s_law20_awake  w K := by kernel_rfl
theorem ok_law20_awake { w K} (h : s_law20_awake  w K) : c_law20_awake  w K :=
  fn_sound pok Try.func13 (fn := Try.f13) (c := bodyOf Try.f13) (nt := 33) (by kernel_rfl) (by kernel_rfl) (rs := [.tmp 0]) (by kernel_rfl) [.one .bool] K (.seq .leaf (.seq .leaf (.seq (.seq .leaf (.cond (.seq .leaf .leaf) .leaf)) (.seq .leaf (.seq .leaf .leaf))))) [] (by kernel_rfl) w ((e_law20_awake  w K).mpr h)

/-- goosepond/config.Softwire -/
def s_config_Softwire (a0_0 : Int) (a0_1 : Int) (a0_2 : Int) (a0_3 : Int) (a0_4 : Int) (a0_5 : Int) (a0_6 : Int) (a0_7 : Int) (a0_8 : Int) (a0_9 : Int) (a0_10 : Int) (a0_11 : Int) (a0_12 : Int) (a0_13 : Int) (a0_14 : Int) (a0_15 : Int) (a0_16 : SliceV) (a0_17 : SliceV) (a0_18 : Int) (a0_19 : Int) (a0_20 : Int) (a0_21 : Int) (a0_22 : Int) (a0_23 : Int) (a0_24 : Int) (a0_25 : Int) (a0_26 : Int) (a0_27 : Int) (a0_28 : Int) (a0_29 : Int) (a0_30 : Int) (a0_31 : Int) (a0_32 : Int) (a0_33 : Int) (a0_34 : Int) (a0_35 : SliceV) (a1_0 : Int) (a1_1 : Int) (a1_2 : Int) (a1_3 : Int) (a1_4 : Int) (a1_5 : Int) (a1_6 : Int) (a1_7 : Int) (a1_8 : Int) (a1_9 : Int) (a1_10 : Int) (a1_11 : Int) (a1_12 : Int) (a1_13 : Int) (a1_14 : Int) (a1_15 : Int) (w : World) (K : Int → Bool → World → Prop) : Prop :=
 (Al w (.cells ⟨((Value.int .u8 a0_0) :: (Value.int .u8 a0_1) :: (Value.int .u8 a0_2) :: (Value.int .u8 a0_3) :: (Value.int .u8 a0_4) :: (Value.int .u8 a0_5) :: (Value.int .u8 a0_6) :: (Value.int .u8 a0_7) :: (Value.int .u8 a0_8) :: (Value.int .u8 a0_9) :: (Value.int .u8 a0_10) :: (Value.int .u8 a0_11) :: (Value.int .u8 a0_12) :: (Value.int .u8 a0_13) :: (Value.int .u8 a0_14) :: (Value.int .u8 a0_15) :: (Value.slice a0_16.a a0_16.len a0_16.cap) :: (Value.slice a0_17.a a0_17.len a0_17.cap) :: (Value.int .i64 a0_18) :: (Value.int .i64 a0_19) :: (Value.int .i64 a0_20) :: (Value.int .i64 a0_21) :: (Value.int .i64 a0_22) :: (Value.int .i64 a0_23) :: (Value.int .i64 a0_24) :: (Value.int .i64 a0_25) :: (Value.int .i64 a0_26) :: (Value.int .i64 a0_27) :: (Value.int .i64 a0_28) :: (Value.int .i64 a0_29) :: (Value.int .i64 a0_30) :: (Value.int .i64 a0_31) :: (Value.int .i64 a0_32) :: (Value.int .i64 a0_33) :: (Value.int .i64 a0_34) :: (Value.slice a0_35.a a0_35.len a0_35.cap) :: [])⟩ 42) fun a4 w3 =>
 Al w3 (.cells ⟨[(Value.int .u8 a1_0), (Value.int .u8 a1_1), (Value.int .u8 a1_2), (Value.int .u8 a1_3), (Value.int .u8 a1_4), (Value.int .u8 a1_5), (Value.int .u8 a1_6), (Value.int .u8 a1_7), (Value.int .u8 a1_8), (Value.int .u8 a1_9), (Value.int .u8 a1_10), (Value.int .u8 a1_11), (Value.int .u8 a1_12), (Value.int .u8 a1_13), (Value.int .u8 a1_14), (Value.int .u8 a1_15)]⟩ 38) fun a6 w5 =>
 Ld .slice w5 (a4.add 16) fun x7 =>
 Ld (.int .u8) w5 (a6.add 0) fun x8 =>
 Ld (.int .u8) w5 (a6.add 1) fun x9 =>
 Ld (.int .u8) w5 (a6.add 2) fun x10 =>
 Ld (.int .u8) w5 (a6.add 3) fun x11 =>
 Ld (.int .u8) w5 (a6.add 4) fun x12 =>
 Ld (.int .u8) w5 (a6.add 5) fun x13 =>
 Ld (.int .u8) w5 (a6.add 6) fun x14 =>
 Ld (.int .u8) w5 (a6.add 7) fun x15 =>
 Ld (.int .u8) w5 (a6.add 8) fun x16 =>
 Ld (.int .u8) w5 (a6.add 9) fun x17 =>
 Ld (.int .u8) w5 (a6.add 10) fun x18 =>
 Ld (.int .u8) w5 (a6.add 11) fun x19 =>
 Ld (.int .u8) w5 (a6.add 12) fun x20 =>
 Ld (.int .u8) w5 (a6.add 13) fun x21 =>
 Ld (.int .u8) w5 (a6.add 14) fun x22 =>
 Ld (.int .u8) w5 (a6.add 15) fun x23 =>
 c_slices_Index_api_Six_api_Six x7 x8 x9 x10 x11 x12 x13 x14 x15 x16 x17 x18 x19 x20 x21 x22 x23 w5 fun r24 w25 =>
 K (if (0 : Int) > r24 then 0 else r24) (decide (r24 ≥ 0)) w25)
theorem e_config_Softwire (a0_0 : Int) (a0_1 : Int) (a0_2 : Int) (a0_3 : Int) (a0_4 : Int) (a0_5 : Int) (a0_6 : Int) (a0_7 : Int) (a0_8 : Int) (a0_9 : Int) (a0_10 : Int) (a0_11 : Int) (a0_12 : Int) (a0_13 : Int) (a0_14 : Int) (a0_15 : Int) (a0_16 : SliceV) (a0_17 : SliceV) (a0_18 : Int) (a0_19 : Int) (a0_20 : Int) (a0_21 : Int) (a0_22 : Int) (a0_23 : Int) (a0_24 : Int) (a0_25 : Int) (a0_26 : Int) (a0_27 : Int) (a0_28 : Int) (a0_29 : Int) (a0_30 : Int) (a0_31 : Int) (a0_32 : Int) (a0_33 : Int) (a0_34 : Int) (a0_35 : SliceV) (a1_0 : Int) (a1_1 : Int) (a1_2 : Int) (a1_3 : Int) (a1_4 : Int) (a1_5 : Int) (a1_6 : Int) (a1_7 : Int) (a1_8 : Int) (a1_9 : Int) (a1_10 : Int) (a1_11 : Int) (a1_12 : Int) (a1_13 : Int) (a1_14 : Int) (a1_15 : Int) (w : World) (K : Int → Bool → World → Prop) : den Try.prog 15 (bodyOf Try.f14) none (.seq .leaf (.seq .leaf (.seq .leaf .leaf))) (argEnv 0 [(Value.agg ⟨((Value.int .u8 a0_0) :: (Value.int .u8 a0_1) :: (Value.int .u8 a0_2) :: (Value.int .u8 a0_3) :: (Value.int .u8 a0_4) :: (Value.int .u8 a0_5) :: (Value.int .u8 a0_6) :: (Value.int .u8 a0_7) :: (Value.int .u8 a0_8) :: (Value.int .u8 a0_9) :: (Value.int .u8 a0_10) :: (Value.int .u8 a0_11) :: (Value.int .u8 a0_12) :: (Value.int .u8 a0_13) :: (Value.int .u8 a0_14) :: (Value.int .u8 a0_15) :: (Value.slice a0_16.a a0_16.len a0_16.cap) :: (Value.slice a0_17.a a0_17.len a0_17.cap) :: (Value.int .i64 a0_18) :: (Value.int .i64 a0_19) :: (Value.int .i64 a0_20) :: (Value.int .i64 a0_21) :: (Value.int .i64 a0_22) :: (Value.int .i64 a0_23) :: (Value.int .i64 a0_24) :: (Value.int .i64 a0_25) :: (Value.int .i64 a0_26) :: (Value.int .i64 a0_27) :: (Value.int .i64 a0_28) :: (Value.int .i64 a0_29) :: (Value.int .i64 a0_30) :: (Value.int .i64 a0_31) :: (Value.int .i64 a0_32) :: (Value.int .i64 a0_33) :: (Value.int .i64 a0_34) :: (Value.slice a0_35.a a0_35.len a0_35.cap) :: [])⟩), (Value.agg ⟨[(Value.int .u8 a1_0), (Value.int .u8 a1_1), (Value.int .u8 a1_2), (Value.int .u8 a1_3), (Value.int .u8 a1_4), (Value.int .u8 a1_5), (Value.int .u8 a1_6), (Value.int .u8 a1_7), (Value.int .u8 a1_8), (Value.int .u8 a1_9), (Value.int .u8 a1_10), (Value.int .u8 a1_11), (Value.int .u8 a1_12), (Value.int .u8 a1_13), (Value.int .u8 a1_14), (Value.int .u8 a1_15)]⟩)]) [] w (retK Try.prog [.tmp 4, .tmp 5] [.one (.int .i64), .one .bool] K) = s_config_Softwire a0_0 a0_1 a0_2 a0_3 a0_4 a0_5 a0_6 a0_7 a0_8 a0_9 a0_10 a0_11 a0_12 a0_13 a0_14 a0_15 a0_16 a0_17 a0_18 a0_19 a0_20 a0_21 a0_22 a0_23 a0_24 a0_25 a0_26 a0_27 a0_28 a0_29 a0_30 a0_31 a0_32 a0_33 a0_34 a0_35 a1_0 a1_1 a1_2 a1_3 a1_4 a1_5 a1_6 a1_7 a1_8 a1_9 a1_10 a1_11 a1_12 a1_13 a1_14 a1_15 w K := by kernel_rfl
theorem ok_config_Softwire {a0_0 a0_1 a0_2 a0_3 a0_4 a0_5 a0_6 a0_7 a0_8 a0_9 a0_10 a0_11 a0_12 a0_13 a0_14 a0_15 a0_16 a0_17 a0_18 a0_19 a0_20 a0_21 a0_22 a0_23 a0_24 a0_25 a0_26 a0_27 a0_28 a0_29 a0_30 a0_31 a0_32 a0_33 a0_34 a0_35 a1_0 a1_1 a1_2 a1_3 a1_4 a1_5 a1_6 a1_7 a1_8 a1_9 a1_10 a1_11 a1_12 a1_13 a1_14 a1_15 w K} (h : s_config_Softwire a0_0 a0_1 a0_2 a0_3 a0_4 a0_5 a0_6 a0_7 a0_8 a0_9 a0_10 a0_11 a0_12 a0_13 a0_14 a0_15 a0_16 a0_17 a0_18 a0_19 a0_20 a0_21 a0_22 a0_23 a0_24 a0_25 a0_26 a0_27 a0_28 a0_29 a0_30 a0_31 a0_32 a0_33 a0_34 a0_35 a1_0 a1_1 a1_2 a1_3 a1_4 a1_5 a1_6 a1_7 a1_8 a1_9 a1_10 a1_11 a1_12 a1_13 a1_14 a1_15 w K) : c_config_Softwire a0_0 a0_1 a0_2 a0_3 a0_4 a0_5 a0_6 a0_7 a0_8 a0_9 a0_10 a0_11 a0_12 a0_13 a0_14 a0_15 a0_16 a0_17 a0_18 a0_19 a0_20 a0_21 a0_22 a0_23 a0_24 a0_25 a0_26 a0_27 a0_28 a0_29 a0_30 a0_31 a0_32 a0_33 a0_34 a0_35 a1_0 a1_1 a1_2 a1_3 a1_4 a1_5 a1_6 a1_7 a1_8 a1_9 a1_10 a1_11 a1_12 a1_13 a1_14 a1_15 w K :=
  fn_sound pok Try.func14 (fn := Try.f14) (c := bodyOf Try.f14) (nt := 15) (by kernel_rfl) (by kernel_rfl) (rs := [.tmp 4, .tmp 5]) (by kernel_rfl) [.one (.int .i64), .one .bool] K (.seq .leaf (.seq .leaf (.seq .leaf .leaf))) [(Value.agg ⟨((Value.int .u8 a0_0) :: (Value.int .u8 a0_1) :: (Value.int .u8 a0_2) :: (Value.int .u8 a0_3) :: (Value.int .u8 a0_4) :: (Value.int .u8 a0_5) :: (Value.int .u8 a0_6) :: (Value.int .u8 a0_7) :: (Value.int .u8 a0_8) :: (Value.int .u8 a0_9) :: (Value.int .u8 a0_10) :: (Value.int .u8 a0_11) :: (Value.int .u8 a0_12) :: (Value.int .u8 a0_13) :: (Value.int .u8 a0_14) :: (Value.int .u8 a0_15) :: (Value.slice a0_16.a a0_16.len a0_16.cap) :: (Value.slice a0_17.a a0_17.len a0_17.cap) :: (Value.int .i64 a0_18) :: (Value.int .i64 a0_19) :: (Value.int .i64 a0_20) :: (Value.int .i64 a0_21) :: (Value.int .i64 a0_22) :: (Value.int .i64 a0_23) :: (Value.int .i64 a0_24) :: (Value.int .i64 a0_25) :: (Value.int .i64 a0_26) :: (Value.int .i64 a0_27) :: (Value.int .i64 a0_28) :: (Value.int .i64 a0_29) :: (Value.int .i64 a0_30) :: (Value.int .i64 a0_31) :: (Value.int .i64 a0_32) :: (Value.int .i64 a0_33) :: (Value.int .i64 a0_34) :: (Value.slice a0_35.a a0_35.len a0_35.cap) :: [])⟩), (Value.agg ⟨[(Value.int .u8 a1_0), (Value.int .u8 a1_1), (Value.int .u8 a1_2), (Value.int .u8 a1_3), (Value.int .u8 a1_4), (Value.int .u8 a1_5), (Value.int .u8 a1_6), (Value.int .u8 a1_7), (Value.int .u8 a1_8), (Value.int .u8 a1_9), (Value.int .u8 a1_10), (Value.int .u8 a1_11), (Value.int .u8 a1_12), (Value.int .u8 a1_13), (Value.int .u8 a1_14), (Value.int .u8 a1_15)]⟩)] (by kernel_rfl) w ((e_config_Softwire a0_0 a0_1 a0_2 a0_3 a0_4 a0_5 a0_6 a0_7 a0_8 a0_9 a0_10 a0_11 a0_12 a0_13 a0_14 a0_15 a0_16 a0_17 a0_18 a0_19 a0_20 a0_21 a0_22 a0_23 a0_24 a0_25 a0_26 a0_27 a0_28 a0_29 a0_30 a0_31 a0_32 a0_33 a0_34 a0_35 a1_0 a1_1 a1_2 a1_3 a1_4 a1_5 a1_6 a1_7 a1_8 a1_9 a1_10 a1_11 a1_12 a1_13 a1_14 a1_15 w K).mpr h)

/-- goosepond/goosepondref20.Softwire -/
def s_ref20_Softwire (a0_0 : Int) (a0_1 : Int) (a0_2 : Int) (a0_3 : Int) (a0_4 : Int) (a0_5 : Int) (a0_6 : Int) (a0_7 : Int) (a0_8 : Int) (a0_9 : Int) (a0_10 : Int) (a0_11 : Int) (a0_12 : Int) (a0_13 : Int) (a0_14 : Int) (a0_15 : Int) (a0_16 : SliceV) (a0_17 : SliceV) (a0_18 : Int) (a0_19 : Int) (a0_20 : Int) (a0_21 : Int) (a0_22 : Int) (a0_23 : Int) (a0_24 : Int) (a0_25 : Int) (a0_26 : Int) (a0_27 : Int) (a0_28 : Int) (a0_29 : Int) (a0_30 : Int) (a0_31 : Int) (a0_32 : Int) (a0_33 : Int) (a0_34 : Int) (a0_35 : SliceV) (a1_0 : Int) (a1_1 : Int) (a1_2 : Int) (a1_3 : Int) (a1_4 : Int) (a1_5 : Int) (a1_6 : Int) (a1_7 : Int) (a1_8 : Int) (a1_9 : Int) (a1_10 : Int) (a1_11 : Int) (a1_12 : Int) (a1_13 : Int) (a1_14 : Int) (a1_15 : Int) (w : World) (K : Int → Bool → World → Prop) : Prop :=
 (Al w (.cells ⟨((Value.int .u8 a0_0) :: (Value.int .u8 a0_1) :: (Value.int .u8 a0_2) :: (Value.int .u8 a0_3) :: (Value.int .u8 a0_4) :: (Value.int .u8 a0_5) :: (Value.int .u8 a0_6) :: (Value.int .u8 a0_7) :: (Value.int .u8 a0_8) :: (Value.int .u8 a0_9) :: (Value.int .u8 a0_10) :: (Value.int .u8 a0_11) :: (Value.int .u8 a0_12) :: (Value.int .u8 a0_13) :: (Value.int .u8 a0_14) :: (Value.int .u8 a0_15) :: (Value.slice a0_16.a a0_16.len a0_16.cap) :: (Value.slice a0_17.a a0_17.len a0_17.cap) :: (Value.int .i64 a0_18) :: (Value.int .i64 a0_19) :: (Value.int .i64 a0_20) :: (Value.int .i64 a0_21) :: (Value.int .i64 a0_22) :: (Value.int .i64 a0_23) :: (Value.int .i64 a0_24) :: (Value.int .i64 a0_25) :: (Value.int .i64 a0_26) :: (Value.int .i64 a0_27) :: (Value.int .i64 a0_28) :: (Value.int .i64 a0_29) :: (Value.int .i64 a0_30) :: (Value.int .i64 a0_31) :: (Value.int .i64 a0_32) :: (Value.int .i64 a0_33) :: (Value.int .i64 a0_34) :: (Value.slice a0_35.a a0_35.len a0_35.cap) :: [])⟩ 42) fun a4 w3 =>
 Al w3 (.cells ⟨[(Value.int .u8 a1_0), (Value.int .u8 a1_1), (Value.int .u8 a1_2), (Value.int .u8 a1_3), (Value.int .u8 a1_4), (Value.int .u8 a1_5), (Value.int .u8 a1_6), (Value.int .u8 a1_7), (Value.int .u8 a1_8), (Value.int .u8 a1_9), (Value.int .u8 a1_10), (Value.int .u8 a1_11), (Value.int .u8 a1_12), (Value.int .u8 a1_13), (Value.int .u8 a1_14), (Value.int .u8 a1_15)]⟩ 38) fun a6 w5 =>
 LoopP (S := Int × Unit) (fun s7 w8 next9 =>
 Ld .slice w8 (a4.add 16) fun x10 =>
 (bif (decide (s7.1 < (x10.len : Int))) then
 Ld .slice w8.drew (a4.add 16) fun x11 =>
 AtIx x11 16 s7.1 fun a12 =>
 Ld (.int .u8) w8.drew (a12.add 0) fun x13 =>
 Ld (.int .u8) w8.drew (a12.add 1) fun x14 =>
 Ld (.int .u8) w8.drew (a12.add 2) fun x15 =>
 Ld (.int .u8) w8.drew (a12.add 3) fun x16 =>
 Ld (.int .u8) w8.drew (a12.add 4) fun x17 =>
 Ld (.int .u8) w8.drew (a12.add 5) fun x18 =>
 Ld (.int .u8) w8.drew (a12.add 6) fun x19 =>
 Ld (.int .u8) w8.drew (a12.add 7) fun x20 =>
 Ld (.int .u8) w8.drew (a12.add 8) fun x21 =>
 Ld (.int .u8) w8.drew (a12.add 9) fun x22 =>
 Ld (.int .u8) w8.drew (a12.add 10) fun x23 =>
 Ld (.int .u8) w8.drew (a12.add 11) fun x24 =>
 Ld (.int .u8) w8.drew (a12.add 12) fun x25 =>
 Ld (.int .u8) w8.drew (a12.add 13) fun x26 =>
 Ld (.int .u8) w8.drew (a12.add 14) fun x27 =>
 Ld (.int .u8) w8.drew (a12.add 15) fun x28 =>
 Ld (.int .u8) w8.drew (a6.add 0) fun x29 =>
 Ld (.int .u8) w8.drew (a6.add 1) fun x30 =>
 Ld (.int .u8) w8.drew (a6.add 2) fun x31 =>
 Ld (.int .u8) w8.drew (a6.add 3) fun x32 =>
 Ld (.int .u8) w8.drew (a6.add 4) fun x33 =>
 Ld (.int .u8) w8.drew (a6.add 5) fun x34 =>
 Ld (.int .u8) w8.drew (a6.add 6) fun x35 =>
 Ld (.int .u8) w8.drew (a6.add 7) fun x36 =>
 Ld (.int .u8) w8.drew (a6.add 8) fun x37 =>
 Ld (.int .u8) w8.drew (a6.add 9) fun x38 =>
 Ld (.int .u8) w8.drew (a6.add 10) fun x39 =>
 Ld (.int .u8) w8.drew (a6.add 11) fun x40 =>
 Ld (.int .u8) w8.drew (a6.add 12) fun x41 =>
 Ld (.int .u8) w8.drew (a6.add 13) fun x42 =>
 Ld (.int .u8) w8.drew (a6.add 14) fun x43 =>
 Ld (.int .u8) w8.drew (a6.add 15) fun x44 =>
 (bif ((x13 == x29) && ((x14 == x30) && ((x15 == x31) && ((x16 == x32) && ((x17 == x33) && ((x18 == x34) && ((x19 == x35) && ((x20 == x36) && ((x21 == x37) && ((x22 == x38) && ((x23 == x39) && ((x24 == x40) && ((x25 == x41) && ((x26 == x42) && ((x27 == x43) && ((x28 == x44) && true)))))))))))))))) then
 K s7.1 true w8.drew
 else
 next9 ((IntKind.i64.wrap (s7.1 + 1)), ()) w8.drew)
 else
 K 0 false w8)) (0, ()) w5)
theorem e_ref20_Softwire (a0_0 : Int) (a0_1 : Int) (a0_2 : Int) (a0_3 : Int) (a0_4 : Int) (a0_5 : Int) (a0_6 : Int) (a0_7 : Int) (a0_8 : Int) (a0_9 : Int) (a0_10 : Int) (a0_11 : Int) (a0_12 : Int) (a0_13 : Int) (a0_14 : Int) (a0_15 : Int) (a0_16 : SliceV) (a0_17 : SliceV) (a0_18 : Int) (a0_19 : Int) (a0_20 : Int) (a0_21 : Int) (a0_22 : Int) (a0_23 : Int) (a0_24 : Int) (a0_25 : Int) (a0_26 : Int) (a0_27 : Int) (a0_28 : Int) (a0_29 : Int) (a0_30 : Int) (a0_31 : Int) (a0_32 : Int) (a0_33 : Int) (a0_34 : Int) (a0_35 : SliceV) (a1_0 : Int) (a1_1 : Int) (a1_2 : Int) (a1_3 : Int) (a1_4 : Int) (a1_5 : Int) (a1_6 : Int) (a1_7 : Int) (a1_8 : Int) (a1_9 : Int) (a1_10 : Int) (a1_11 : Int) (a1_12 : Int) (a1_13 : Int) (a1_14 : Int) (a1_15 : Int) (w : World) (K : Int → Bool → World → Prop) : den Try.prog 22 (bodyOf Try.f15) none (.seq .leaf (.seq (.seq .leaf (.blk (.loop [(6, (.int .i64))] (.seq (.seq .leaf (.cond .leaf .leaf)) (.seq (.blk (.seq .leaf (.cond (.seq .leaf .leaf) .leaf))) .leaf))))) (.seq .leaf .leaf))) (argEnv 0 [(Value.agg ⟨((Value.int .u8 a0_0) :: (Value.int .u8 a0_1) :: (Value.int .u8 a0_2) :: (Value.int .u8 a0_3) :: (Value.int .u8 a0_4) :: (Value.int .u8 a0_5) :: (Value.int .u8 a0_6) :: (Value.int .u8 a0_7) :: (Value.int .u8 a0_8) :: (Value.int .u8 a0_9) :: (Value.int .u8 a0_10) :: (Value.int .u8 a0_11) :: (Value.int .u8 a0_12) :: (Value.int .u8 a0_13) :: (Value.int .u8 a0_14) :: (Value.int .u8 a0_15) :: (Value.slice a0_16.a a0_16.len a0_16.cap) :: (Value.slice a0_17.a a0_17.len a0_17.cap) :: (Value.int .i64 a0_18) :: (Value.int .i64 a0_19) :: (Value.int .i64 a0_20) :: (Value.int .i64 a0_21) :: (Value.int .i64 a0_22) :: (Value.int .i64 a0_23) :: (Value.int .i64 a0_24) :: (Value.int .i64 a0_25) :: (Value.int .i64 a0_26) :: (Value.int .i64 a0_27) :: (Value.int .i64 a0_28) :: (Value.int .i64 a0_29) :: (Value.int .i64 a0_30) :: (Value.int .i64 a0_31) :: (Value.int .i64 a0_32) :: (Value.int .i64 a0_33) :: (Value.int .i64 a0_34) :: (Value.slice a0_35.a a0_35.len a0_35.cap) :: [])⟩), (Value.agg ⟨[(Value.int .u8 a1_0), (Value.int .u8 a1_1), (Value.int .u8 a1_2), (Value.int .u8 a1_3), (Value.int .u8 a1_4), (Value.int .u8 a1_5), (Value.int .u8 a1_6), (Value.int .u8 a1_7), (Value.int .u8 a1_8), (Value.int .u8 a1_9), (Value.int .u8 a1_10), (Value.int .u8 a1_11), (Value.int .u8 a1_12), (Value.int .u8 a1_13), (Value.int .u8 a1_14), (Value.int .u8 a1_15)]⟩)]) [] w (retK Try.prog [.tmp 4, .tmp 5] [.one (.int .i64), .one .bool] K) = s_ref20_Softwire a0_0 a0_1 a0_2 a0_3 a0_4 a0_5 a0_6 a0_7 a0_8 a0_9 a0_10 a0_11 a0_12 a0_13 a0_14 a0_15 a0_16 a0_17 a0_18 a0_19 a0_20 a0_21 a0_22 a0_23 a0_24 a0_25 a0_26 a0_27 a0_28 a0_29 a0_30 a0_31 a0_32 a0_33 a0_34 a0_35 a1_0 a1_1 a1_2 a1_3 a1_4 a1_5 a1_6 a1_7 a1_8 a1_9 a1_10 a1_11 a1_12 a1_13 a1_14 a1_15 w K := by kernel_rfl
theorem ok_ref20_Softwire {a0_0 a0_1 a0_2 a0_3 a0_4 a0_5 a0_6 a0_7 a0_8 a0_9 a0_10 a0_11 a0_12 a0_13 a0_14 a0_15 a0_16 a0_17 a0_18 a0_19 a0_20 a0_21 a0_22 a0_23 a0_24 a0_25 a0_26 a0_27 a0_28 a0_29 a0_30 a0_31 a0_32 a0_33 a0_34 a0_35 a1_0 a1_1 a1_2 a1_3 a1_4 a1_5 a1_6 a1_7 a1_8 a1_9 a1_10 a1_11 a1_12 a1_13 a1_14 a1_15 w K} (h : s_ref20_Softwire a0_0 a0_1 a0_2 a0_3 a0_4 a0_5 a0_6 a0_7 a0_8 a0_9 a0_10 a0_11 a0_12 a0_13 a0_14 a0_15 a0_16 a0_17 a0_18 a0_19 a0_20 a0_21 a0_22 a0_23 a0_24 a0_25 a0_26 a0_27 a0_28 a0_29 a0_30 a0_31 a0_32 a0_33 a0_34 a0_35 a1_0 a1_1 a1_2 a1_3 a1_4 a1_5 a1_6 a1_7 a1_8 a1_9 a1_10 a1_11 a1_12 a1_13 a1_14 a1_15 w K) : c_ref20_Softwire a0_0 a0_1 a0_2 a0_3 a0_4 a0_5 a0_6 a0_7 a0_8 a0_9 a0_10 a0_11 a0_12 a0_13 a0_14 a0_15 a0_16 a0_17 a0_18 a0_19 a0_20 a0_21 a0_22 a0_23 a0_24 a0_25 a0_26 a0_27 a0_28 a0_29 a0_30 a0_31 a0_32 a0_33 a0_34 a0_35 a1_0 a1_1 a1_2 a1_3 a1_4 a1_5 a1_6 a1_7 a1_8 a1_9 a1_10 a1_11 a1_12 a1_13 a1_14 a1_15 w K :=
  fn_sound pok Try.func15 (fn := Try.f15) (c := bodyOf Try.f15) (nt := 22) (by kernel_rfl) (by kernel_rfl) (rs := [.tmp 4, .tmp 5]) (by kernel_rfl) [.one (.int .i64), .one .bool] K (.seq .leaf (.seq (.seq .leaf (.blk (.loop [(6, (.int .i64))] (.seq (.seq .leaf (.cond .leaf .leaf)) (.seq (.blk (.seq .leaf (.cond (.seq .leaf .leaf) .leaf))) .leaf))))) (.seq .leaf .leaf))) [(Value.agg ⟨((Value.int .u8 a0_0) :: (Value.int .u8 a0_1) :: (Value.int .u8 a0_2) :: (Value.int .u8 a0_3) :: (Value.int .u8 a0_4) :: (Value.int .u8 a0_5) :: (Value.int .u8 a0_6) :: (Value.int .u8 a0_7) :: (Value.int .u8 a0_8) :: (Value.int .u8 a0_9) :: (Value.int .u8 a0_10) :: (Value.int .u8 a0_11) :: (Value.int .u8 a0_12) :: (Value.int .u8 a0_13) :: (Value.int .u8 a0_14) :: (Value.int .u8 a0_15) :: (Value.slice a0_16.a a0_16.len a0_16.cap) :: (Value.slice a0_17.a a0_17.len a0_17.cap) :: (Value.int .i64 a0_18) :: (Value.int .i64 a0_19) :: (Value.int .i64 a0_20) :: (Value.int .i64 a0_21) :: (Value.int .i64 a0_22) :: (Value.int .i64 a0_23) :: (Value.int .i64 a0_24) :: (Value.int .i64 a0_25) :: (Value.int .i64 a0_26) :: (Value.int .i64 a0_27) :: (Value.int .i64 a0_28) :: (Value.int .i64 a0_29) :: (Value.int .i64 a0_30) :: (Value.int .i64 a0_31) :: (Value.int .i64 a0_32) :: (Value.int .i64 a0_33) :: (Value.int .i64 a0_34) :: (Value.slice a0_35.a a0_35.len a0_35.cap) :: [])⟩), (Value.agg ⟨[(Value.int .u8 a1_0), (Value.int .u8 a1_1), (Value.int .u8 a1_2), (Value.int .u8 a1_3), (Value.int .u8 a1_4), (Value.int .u8 a1_5), (Value.int .u8 a1_6), (Value.int .u8 a1_7), (Value.int .u8 a1_8), (Value.int .u8 a1_9), (Value.int .u8 a1_10), (Value.int .u8 a1_11), (Value.int .u8 a1_12), (Value.int .u8 a1_13), (Value.int .u8 a1_14), (Value.int .u8 a1_15)]⟩)] (by kernel_rfl) w ((e_ref20_Softwire a0_0 a0_1 a0_2 a0_3 a0_4 a0_5 a0_6 a0_7 a0_8 a0_9 a0_10 a0_11 a0_12 a0_13 a0_14 a0_15 a0_16 a0_17 a0_18 a0_19 a0_20 a0_21 a0_22 a0_23 a0_24 a0_25 a0_26 a0_27 a0_28 a0_29 a0_30 a0_31 a0_32 a0_33 a0_34 a0_35 a1_0 a1_1 a1_2 a1_3 a1_4 a1_5 a1_6 a1_7 a1_8 a1_9 a1_10 a1_11 a1_12 a1_13 a1_14 a1_15 w K).mpr h)

/-- goosepond/config.Wait -/
def s_config_Wait (a0_0 : Int) (a0_1 : Int) (a0_2 : Int) (a0_3 : Int) (a0_4 : Int) (a0_5 : Int) (a0_6 : Int) (a0_7 : Int) (a0_8 : Int) (a0_9 : Int) (a0_10 : Int) (a0_11 : Int) (a0_12 : Int) (a0_13 : Int) (a0_14 : Int) (a0_15 : Int) (a0_16 : SliceV) (a0_17 : SliceV) (a0_18 : Int) (a0_19 : Int) (a0_20 : Int) (a0_21 : Int) (a0_22 : Int) (a0_23 : Int) (a0_24 : Int) (a0_25 : Int) (a0_26 : Int) (a0_27 : Int) (a0_28 : Int) (a0_29 : Int) (a0_30 : Int) (a0_31 : Int) (a0_32 : Int) (a0_33 : Int) (a0_34 : Int) (a0_35 : SliceV) (a1 : Int) (a2 : Int) (w : World) (K : Int → World → Prop) : Prop :=
 (Al w (.cells ⟨((Value.int .u8 a0_0) :: (Value.int .u8 a0_1) :: (Value.int .u8 a0_2) :: (Value.int .u8 a0_3) :: (Value.int .u8 a0_4) :: (Value.int .u8 a0_5) :: (Value.int .u8 a0_6) :: (Value.int .u8 a0_7) :: (Value.int .u8 a0_8) :: (Value.int .u8 a0_9) :: (Value.int .u8 a0_10) :: (Value.int .u8 a0_11) :: (Value.int .u8 a0_12) :: (Value.int .u8 a0_13) :: (Value.int .u8 a0_14) :: (Value.int .u8 a0_15) :: (Value.slice a0_16.a a0_16.len a0_16.cap) :: (Value.slice a0_17.a a0_17.len a0_17.cap) :: (Value.int .i64 a0_18) :: (Value.int .i64 a0_19) :: (Value.int .i64 a0_20) :: (Value.int .i64 a0_21) :: (Value.int .i64 a0_22) :: (Value.int .i64 a0_23) :: (Value.int .i64 a0_24) :: (Value.int .i64 a0_25) :: (Value.int .i64 a0_26) :: (Value.int .i64 a0_27) :: (Value.int .i64 a0_28) :: (Value.int .i64 a0_29) :: (Value.int .i64 a0_30) :: (Value.int .i64 a0_31) :: (Value.int .i64 a0_32) :: (Value.int .i64 a0_33) :: (Value.int .i64 a0_34) :: (Value.slice a0_35.a a0_35.len a0_35.cap) :: [])⟩ 42) fun a5 w4 =>
 (bif (a1 == 17) then
 Ld (.int .i64) w4 (a5.add 30) fun x6 =>
 K x6 w4
 else
 (bif (a1 == 1) then
 Ld (.int .i64) w4 (a5.add 33) fun x7 =>
 K x7 w4
 else
 (bif (a1 == 6) then
 (bif (a2 == 3) then
 Ld (.int .i64) w4 (a5.add 31) fun x8 =>
 K x8 w4
 else
 Ld (.int .i64) w4 (a5.add 32) fun x9 =>
 K x9 w4)
 else
 K 0 w4))))
theorem e_config_Wait (a0_0 : Int) (a0_1 : Int) (a0_2 : Int) (a0_3 : Int) (a0_4 : Int) (a0_5 : Int) (a0_6 : Int) (a0_7 : Int) (a0_8 : Int) (a0_9 : Int) (a0_10 : Int) (a0_11 : Int) (a0_12 : Int) (a0_13 : Int) (a0_14 : Int) (a0_15 : Int) (a0_16 : SliceV) (a0_17 : SliceV) (a0_18 : Int) (a0_19 : Int) (a0_20 : Int) (a0_21 : Int) (a0_22 : Int) (a0_23 : Int) (a0_24 : Int) (a0_25 : Int) (a0_26 : Int) (a0_27 : Int) (a0_28 : Int) (a0_29 : Int) (a0_30 : Int) (a0_31 : Int) (a0_32 : Int) (a0_33 : Int) (a0_34 : Int) (a0_35 : SliceV) (a1 : Int) (a2 : Int) (w : World) (K : Int → World → Prop) : den Try.prog 24 (bodyOf Try.f18) none (.seq .leaf (.seq (.seq .leaf (.blk (.seq .leaf (.cond (.seq .leaf .leaf) (.seq .leaf (.cond (.seq .leaf .leaf) (.seq .leaf (.cond (.seq (.seq .leaf (.cond (.seq .leaf .leaf) .leaf)) (.seq .leaf .leaf)) .leaf)))))))) (.seq .leaf .leaf))) (argEnv 0 [(Value.agg ⟨((Value.int .u8 a0_0) :: (Value.int .u8 a0_1) :: (Value.int .u8 a0_2) :: (Value.int .u8 a0_3) :: (Value.int .u8 a0_4) :: (Value.int .u8 a0_5) :: (Value.int .u8 a0_6) :: (Value.int .u8 a0_7) :: (Value.int .u8 a0_8) :: (Value.int .u8 a0_9) :: (Value.int .u8 a0_10) :: (Value.int .u8 a0_11) :: (Value.int .u8 a0_12) :: (Value.int .u8 a0_13) :: (Value.int .u8 a0_14) :: (Value.int .u8 a0_15) :: (Value.slice a0_16.a a0_16.len a0_16.cap) :: (Value.slice a0_17.a a0_17.len a0_17.cap) :: (Value.int .i64 a0_18) :: (Value.int .i64 a0_19) :: (Value.int .i64 a0_20) :: (Value.int .i64 a0_21) :: (Value.int .i64 a0_22) :: (Value.int .i64 a0_23) :: (Value.int .i64 a0_24) :: (Value.int .i64 a0_25) :: (Value.int .i64 a0_26) :: (Value.int .i64 a0_27) :: (Value.int .i64 a0_28) :: (Value.int .i64 a0_29) :: (Value.int .i64 a0_30) :: (Value.int .i64 a0_31) :: (Value.int .i64 a0_32) :: (Value.int .i64 a0_33) :: (Value.int .i64 a0_34) :: (Value.slice a0_35.a a0_35.len a0_35.cap) :: [])⟩), (Value.int .i64 a1), (Value.int .i64 a2)]) [] w (retK Try.prog [.tmp 6] [.one (.int .i64)] K) = s_config_Wait a0_0 a0_1 a0_2 a0_3 a0_4 a0_5 a0_6 a0_7 a0_8 a0_9 a0_10 a0_11 a0_12 a0_13 a0_14 a0_15 a0_16 a0_17 a0_18 a0_19 a0_20 a0_21 a0_22 a0_23 a0_24 a0_25 a0_26 a0_27 a0_28 a0_29 a0_30 a0_31 a0_32 a0_33 a0_34 a0_35 a1 a2 w K := by kernel_rfl
theorem ok_config_Wait {a0_0 a0_1 a0_2 a0_3 a0_4 a0_5 a0_6 a0_7 a0_8 a0_9 a0_10 a0_11 a0_12 a0_13 a0_14 a0_15 a0_16 a0_17 a0_18 a0_19 a0_20 a0_21 a0_22 a0_23 a0_24 a0_25 a0_26 a0_27 a0_28 a0_29 a0_30 a0_31 a0_32 a0_33 a0_34 a0_35 a1 a2 w K} (h : s_config_Wait a0_0 a0_1 a0_2 a0_3 a0_4 a0_5 a0_6 a0_7 a0_8 a0_9 a0_10 a0_11 a0_12 a0_13 a0_14 a0_15 a0_16 a0_17 a0_18 a0_19 a0_20 a0_21 a0_22 a0_23 a0_24 a0_25 a0_26 a0_27 a0_28 a0_29 a0_30 a0_31 a0_32 a0_33 a0_34 a0_35 a1 a2 w K) : c_config_Wait a0_0 a0_1 a0_2 a0_3 a0_4 a0_5 a0_6 a0_7 a0_8 a0_9 a0_10 a0_11 a0_12 a0_13 a0_14 a0_15 a0_16 a0_17 a0_18 a0_19 a0_20 a0_21 a0_22 a0_23 a0_24 a0_25 a0_26 a0_27 a0_28 a0_29 a0_30 a0_31 a0_32 a0_33 a0_34 a0_35 a1 a2 w K :=
  fn_sound pok Try.func18 (fn := Try.f18) (c := bodyOf Try.f18) (nt := 24) (by kernel_rfl) (by kernel_rfl) (rs := [.tmp 6]) (by kernel_rfl) [.one (.int .i64)] K (.seq .leaf (.seq (.seq .leaf (.blk (.seq .leaf (.cond (.seq .leaf .leaf) (.seq .leaf (.cond (.seq .leaf .leaf) (.seq .leaf (.cond (.seq (.seq .leaf (.cond (.seq .leaf .leaf) .leaf)) (.seq .leaf .leaf)) .leaf)))))))) (.seq .leaf .leaf))) [(Value.agg ⟨((Value.int .u8 a0_0) :: (Value.int .u8 a0_1) :: (Value.int .u8 a0_2) :: (Value.int .u8 a0_3) :: (Value.int .u8 a0_4) :: (Value.int .u8 a0_5) :: (Value.int .u8 a0_6) :: (Value.int .u8 a0_7) :: (Value.int .u8 a0_8) :: (Value.int .u8 a0_9) :: (Value.int .u8 a0_10) :: (Value.int .u8 a0_11) :: (Value.int .u8 a0_12) :: (Value.int .u8 a0_13) :: (Value.int .u8 a0_14) :: (Value.int .u8 a0_15) :: (Value.slice a0_16.a a0_16.len a0_16.cap) :: (Value.slice a0_17.a a0_17.len a0_17.cap) :: (Value.int .i64 a0_18) :: (Value.int .i64 a0_19) :: (Value.int .i64 a0_20) :: (Value.int .i64 a0_21) :: (Value.int .i64 a0_22) :: (Value.int .i64 a0_23) :: (Value.int .i64 a0_24) :: (Value.int .i64 a0_25) :: (Value.int .i64 a0_26) :: (Value.int .i64 a0_27) :: (Value.int .i64 a0_28) :: (Value.int .i64 a0_29) :: (Value.int .i64 a0_30) :: (Value.int .i64 a0_31) :: (Value.int .i64 a0_32) :: (Value.int .i64 a0_33) :: (Value.int .i64 a0_34) :: (Value.slice a0_35.a a0_35.len a0_35.cap) :: [])⟩), (Value.int .i64 a1), (Value.int .i64 a2)] (by kernel_rfl) w ((e_config_Wait a0_0 a0_1 a0_2 a0_3 a0_4 a0_5 a0_6 a0_7 a0_8 a0_9 a0_10 a0_11 a0_12 a0_13 a0_14 a0_15 a0_16 a0_17 a0_18 a0_19 a0_20 a0_21 a0_22 a0_23 a0_24 a0_25 a0_26 a0_27 a0_28 a0_29 a0_30 a0_31 a0_32 a0_33 a0_34 a0_35 a1 a2 w K).mpr h)

/-- goosepond/goosepondref20.Wait -/
def s_ref20_Wait (a0_0 : Int) (a0_1 : Int) (a0_2 : Int) (a0_3 : Int) (a0_4 : Int) (a0_5 : Int) (a0_6 : Int) (a0_7 : Int) (a0_8 : Int) (a0_9 : Int) (a0_10 : Int) (a0_11 : Int) (a0_12 : Int) (a0_13 : Int) (a0_14 : Int) (a0_15 : Int) (a0_16 : SliceV) (a0_17 : SliceV) (a0_18 : Int) (a0_19 : Int) (a0_20 : Int) (a0_21 : Int) (a0_22 : Int) (a0_23 : Int) (a0_24 : Int) (a0_25 : Int) (a0_26 : Int) (a0_27 : Int) (a0_28 : Int) (a0_29 : Int) (a0_30 : Int) (a0_31 : Int) (a0_32 : Int) (a0_33 : Int) (a0_34 : Int) (a0_35 : SliceV) (a1 : Int) (a2 : Int) (w : World) (K : Int → World → Prop) : Prop :=
 (Al w (.cells ⟨((Value.int .u8 a0_0) :: (Value.int .u8 a0_1) :: (Value.int .u8 a0_2) :: (Value.int .u8 a0_3) :: (Value.int .u8 a0_4) :: (Value.int .u8 a0_5) :: (Value.int .u8 a0_6) :: (Value.int .u8 a0_7) :: (Value.int .u8 a0_8) :: (Value.int .u8 a0_9) :: (Value.int .u8 a0_10) :: (Value.int .u8 a0_11) :: (Value.int .u8 a0_12) :: (Value.int .u8 a0_13) :: (Value.int .u8 a0_14) :: (Value.int .u8 a0_15) :: (Value.slice a0_16.a a0_16.len a0_16.cap) :: (Value.slice a0_17.a a0_17.len a0_17.cap) :: (Value.int .i64 a0_18) :: (Value.int .i64 a0_19) :: (Value.int .i64 a0_20) :: (Value.int .i64 a0_21) :: (Value.int .i64 a0_22) :: (Value.int .i64 a0_23) :: (Value.int .i64 a0_24) :: (Value.int .i64 a0_25) :: (Value.int .i64 a0_26) :: (Value.int .i64 a0_27) :: (Value.int .i64 a0_28) :: (Value.int .i64 a0_29) :: (Value.int .i64 a0_30) :: (Value.int .i64 a0_31) :: (Value.int .i64 a0_32) :: (Value.int .i64 a0_33) :: (Value.int .i64 a0_34) :: (Value.slice a0_35.a a0_35.len a0_35.cap) :: [])⟩ 42) fun a5 w4 =>
 (bif (a1 == 17) then
 Ld (.int .i64) w4 (a5.add 30) fun x6 =>
 K x6 w4
 else
 (bif (a1 == 1) then
 Ld (.int .i64) w4 (a5.add 33) fun x7 =>
 K x7 w4
 else
 let J8 : Bool → Prop := fun j9 =>
 ((bif j9 then
 Ld (.int .i64) w4 (a5.add 31) fun x10 =>
 K x10 w4
 else
 (bif (a1 == 6) then
 Ld (.int .i64) w4 (a5.add 32) fun x11 =>
 K x11 w4
 else
 K 0 w4)))
 (bif (a1 == 6) then
 J8 (a2 == 3)
 else
 J8 false))))
theorem e_ref20_Wait (a0_0 : Int) (a0_1 : Int) (a0_2 : Int) (a0_3 : Int) (a0_4 : Int) (a0_5 : Int) (a0_6 : Int) (a0_7 : Int) (a0_8 : Int) (a0_9 : Int) (a0_10 : Int) (a0_11 : Int) (a0_12 : Int) (a0_13 : Int) (a0_14 : Int) (a0_15 : Int) (a0_16 : SliceV) (a0_17 : SliceV) (a0_18 : Int) (a0_19 : Int) (a0_20 : Int) (a0_21 : Int) (a0_22 : Int) (a0_23 : Int) (a0_24 : Int) (a0_25 : Int) (a0_26 : Int) (a0_27 : Int) (a0_28 : Int) (a0_29 : Int) (a0_30 : Int) (a0_31 : Int) (a0_32 : Int) (a0_33 : Int) (a0_34 : Int) (a0_35 : SliceV) (a1 : Int) (a2 : Int) (w : World) (K : Int → World → Prop) : den Try.prog 31 (bodyOf Try.f19) none (.seq .leaf (.seq (.blk (.seq .leaf (.cond (.seq .leaf .leaf) (.seq .leaf (.cond (.seq .leaf .leaf) (.seq .leaf (.cond (.seq .leaf .leaf) (.seq .leaf (.cond (.seq .leaf .leaf) .leaf))))))))) (.seq .leaf .leaf))) (argEnv 0 [(Value.agg ⟨((Value.int .u8 a0_0) :: (Value.int .u8 a0_1) :: (Value.int .u8 a0_2) :: (Value.int .u8 a0_3) :: (Value.int .u8 a0_4) :: (Value.int .u8 a0_5) :: (Value.int .u8 a0_6) :: (Value.int .u8 a0_7) :: (Value.int .u8 a0_8) :: (Value.int .u8 a0_9) :: (Value.int .u8 a0_10) :: (Value.int .u8 a0_11) :: (Value.int .u8 a0_12) :: (Value.int .u8 a0_13) :: (Value.int .u8 a0_14) :: (Value.int .u8 a0_15) :: (Value.slice a0_16.a a0_16.len a0_16.cap) :: (Value.slice a0_17.a a0_17.len a0_17.cap) :: (Value.int .i64 a0_18) :: (Value.int .i64 a0_19) :: (Value.int .i64 a0_20) :: (Value.int .i64 a0_21) :: (Value.int .i64 a0_22) :: (Value.int .i64 a0_23) :: (Value.int .i64 a0_24) :: (Value.int .i64 a0_25) :: (Value.int .i64 a0_26) :: (Value.int .i64 a0_27) :: (Value.int .i64 a0_28) :: (Value.int .i64 a0_29) :: (Value.int .i64 a0_30) :: (Value.int .i64 a0_31) :: (Value.int .i64 a0_32) :: (Value.int .i64 a0_33) :: (Value.int .i64 a0_34) :: (Value.slice a0_35.a a0_35.len a0_35.cap) :: [])⟩), (Value.int .i64 a1), (Value.int .i64 a2)]) [] w (retK Try.prog [.tmp 6] [.one (.int .i64)] K) = s_ref20_Wait a0_0 a0_1 a0_2 a0_3 a0_4 a0_5 a0_6 a0_7 a0_8 a0_9 a0_10 a0_11 a0_12 a0_13 a0_14 a0_15 a0_16 a0_17 a0_18 a0_19 a0_20 a0_21 a0_22 a0_23 a0_24 a0_25 a0_26 a0_27 a0_28 a0_29 a0_30 a0_31 a0_32 a0_33 a0_34 a0_35 a1 a2 w K := by kernel_rfl
theorem ok_ref20_Wait {a0_0 a0_1 a0_2 a0_3 a0_4 a0_5 a0_6 a0_7 a0_8 a0_9 a0_10 a0_11 a0_12 a0_13 a0_14 a0_15 a0_16 a0_17 a0_18 a0_19 a0_20 a0_21 a0_22 a0_23 a0_24 a0_25 a0_26 a0_27 a0_28 a0_29 a0_30 a0_31 a0_32 a0_33 a0_34 a0_35 a1 a2 w K} (h : s_ref20_Wait a0_0 a0_1 a0_2 a0_3 a0_4 a0_5 a0_6 a0_7 a0_8 a0_9 a0_10 a0_11 a0_12 a0_13 a0_14 a0_15 a0_16 a0_17 a0_18 a0_19 a0_20 a0_21 a0_22 a0_23 a0_24 a0_25 a0_26 a0_27 a0_28 a0_29 a0_30 a0_31 a0_32 a0_33 a0_34 a0_35 a1 a2 w K) : c_ref20_Wait a0_0 a0_1 a0_2 a0_3 a0_4 a0_5 a0_6 a0_7 a0_8 a0_9 a0_10 a0_11 a0_12 a0_13 a0_14 a0_15 a0_16 a0_17 a0_18 a0_19 a0_20 a0_21 a0_22 a0_23 a0_24 a0_25 a0_26 a0_27 a0_28 a0_29 a0_30 a0_31 a0_32 a0_33 a0_34 a0_35 a1 a2 w K :=
  fn_sound pok Try.func19 (fn := Try.f19) (c := bodyOf Try.f19) (nt := 31) (by kernel_rfl) (by kernel_rfl) (rs := [.tmp 6]) (by kernel_rfl) [.one (.int .i64)] K (.seq .leaf (.seq (.blk (.seq .leaf (.cond (.seq .leaf .leaf) (.seq .leaf (.cond (.seq .leaf .leaf) (.seq .leaf (.cond (.seq .leaf .leaf) (.seq .leaf (.cond (.seq .leaf .leaf) .leaf))))))))) (.seq .leaf .leaf))) [(Value.agg ⟨((Value.int .u8 a0_0) :: (Value.int .u8 a0_1) :: (Value.int .u8 a0_2) :: (Value.int .u8 a0_3) :: (Value.int .u8 a0_4) :: (Value.int .u8 a0_5) :: (Value.int .u8 a0_6) :: (Value.int .u8 a0_7) :: (Value.int .u8 a0_8) :: (Value.int .u8 a0_9) :: (Value.int .u8 a0_10) :: (Value.int .u8 a0_11) :: (Value.int .u8 a0_12) :: (Value.int .u8 a0_13) :: (Value.int .u8 a0_14) :: (Value.int .u8 a0_15) :: (Value.slice a0_16.a a0_16.len a0_16.cap) :: (Value.slice a0_17.a a0_17.len a0_17.cap) :: (Value.int .i64 a0_18) :: (Value.int .i64 a0_19) :: (Value.int .i64 a0_20) :: (Value.int .i64 a0_21) :: (Value.int .i64 a0_22) :: (Value.int .i64 a0_23) :: (Value.int .i64 a0_24) :: (Value.int .i64 a0_25) :: (Value.int .i64 a0_26) :: (Value.int .i64 a0_27) :: (Value.int .i64 a0_28) :: (Value.int .i64 a0_29) :: (Value.int .i64 a0_30) :: (Value.int .i64 a0_31) :: (Value.int .i64 a0_32) :: (Value.int .i64 a0_33) :: (Value.int .i64 a0_34) :: (Value.slice a0_35.a a0_35.len a0_35.cap) :: [])⟩), (Value.int .i64 a1), (Value.int .i64 a2)] (by kernel_rfl) w ((e_ref20_Wait a0_0 a0_1 a0_2 a0_3 a0_4 a0_5 a0_6 a0_7 a0_8 a0_9 a0_10 a0_11 a0_12 a0_13 a0_14 a0_15 a0_16 a0_17 a0_18 a0_19 a0_20 a0_21 a0_22 a0_23 a0_24 a0_25 a0_26 a0_27 a0_28 a0_29 a0_30 a0_31 a0_32 a0_33 a0_34 a0_35 a1 a2 w K).mpr h)

/-- goosepond/config.Base -/
def s_config_Base  (w : World) (K : Int → Int → Int → Int → Int → Int → Int → Int → Int → Int → Int → Int → Int → Int → Int → Int → SliceV → SliceV → Int → Int → Int → Int → Int → Int → Int → Int → Int → Int → Int → Int → Int → Int → Int → Int → Int → SliceV → World → Prop) : Prop :=
 (Al w (.cells ⟨((Value.int .u8 0) :: (Value.int .u8 0) :: (Value.int .u8 0) :: (Value.int .u8 0) :: (Value.int .u8 0) :: (Value.int .u8 0) :: (Value.int .u8 0) :: (Value.int .u8 0) :: (Value.int .u8 0) :: (Value.int .u8 0) :: (Value.int .u8 0) :: (Value.int .u8 0) :: (Value.int .u8 0) :: (Value.int .u8 0) :: (Value.int .u8 0) :: (Value.int .u8 0) :: (Value.slice none 0 0) :: (Value.slice none 0 0) :: (Value.int .i64 0) :: (Value.int .i64 0) :: (Value.int .i64 0) :: (Value.int .i64 0) :: (Value.int .i64 0) :: (Value.int .i64 0) :: (Value.int .i64 0) :: (Value.int .i64 0) :: (Value.int .i64 0) :: (Value.int .i64 0) :: (Value.int .i64 0) :: (Value.int .i64 0) :: (Value.int .i64 0) :: (Value.int .i64 0) :: (Value.int .i64 0) :: (Value.int .i64 0) :: (Value.int .i64 0) :: (Value.slice none 0 0) :: [])⟩ 42) fun a2 w1 =>
 CallV Try.prog [.agg [(.int .u8), (.int .u8), (.int .u8), (.int .u8), (.int .u8), (.int .u8), (.int .u8), (.int .u8), (.int .u8), (.int .u8), (.int .u8), (.int .u8), (.int .u8), (.int .u8), (.int .u8), (.int .u8)]] (Value.func (.func 45) #[] #[]) [(Value.int .i64 0)] w1 fun r3 w4 =>
 ∃ r5 : Int, ∃ r6 : Int, ∃ r7 : Int, ∃ r8 : Int, ∃ r9 : Int, ∃ r10 : Int, ∃ r11 : Int, ∃ r12 : Int, ∃ r13 : Int, ∃ r14 : Int, ∃ r15 : Int, ∃ r16 : Int, ∃ r17 : Int, ∃ r18 : Int, ∃ r19 : Int, ∃ r20 : Int, r3 = (Value.agg ⟨[(Value.int .u8 r5), (Value.int .u8 r6), (Value.int .u8 r7), (Value.int .u8 r8), (Value.int .u8 r9), (Value.int .u8 r10), (Value.int .u8 r11), (Value.int .u8 r12), (Value.int .u8 r13), (Value.int .u8 r14), (Value.int .u8 r15), (Value.int .u8 r16), (Value.int .u8 r17), (Value.int .u8 r18), (Value.int .u8 r19), (Value.int .u8 r20)]⟩) ∧
 CallV Try.prog [.agg [(.int .u8), (.int .u8), (.int .u8), (.int .u8), (.int .u8), (.int .u8), (.int .u8), (.int .u8), (.int .u8), (.int .u8), (.int .u8), (.int .u8), (.int .u8), (.int .u8), (.int .u8), (.int .u8)]] (Value.func (.func 45) #[] #[]) [(Value.int .i64 1)] w4 fun r21 w22 =>
 ∃ r23 : Int, ∃ r24 : Int, ∃ r25 : Int, ∃ r26 : Int, ∃ r27 : Int, ∃ r28 : Int, ∃ r29 : Int, ∃ r30 : Int, ∃ r31 : Int, ∃ r32 : Int, ∃ r33 : Int, ∃ r34 : Int, ∃ r35 : Int, ∃ r36 : Int, ∃ r37 : Int, ∃ r38 : Int, r21 = (Value.agg ⟨[(Value.int .u8 r23), (Value.int .u8 r24), (Value.int .u8 r25), (Value.int .u8 r26), (Value.int .u8 r27), (Value.int .u8 r28), (Value.int .u8 r29), (Value.int .u8 r30), (Value.int .u8 r31), (Value.int .u8 r32), (Value.int .u8 r33), (Value.int .u8 r34), (Value.int .u8 r35), (Value.int .u8 r36), (Value.int .u8 r37), (Value.int .u8 r38)]⟩) ∧
 CallV Try.prog [.agg [(.int .u8), (.int .u8), (.int .u8), (.int .u8), (.int .u8), (.int .u8), (.int .u8), (.int .u8), (.int .u8), (.int .u8), (.int .u8), (.int .u8), (.int .u8), (.int .u8), (.int .u8), (.int .u8)]] (Value.func (.func 45) #[] #[]) [(Value.int .i64 2)] w22 fun r39 w40 =>
 ∃ r41 : Int, ∃ r42 : Int, ∃ r43 : Int, ∃ r44 : Int, ∃ r45 : Int, ∃ r46 : Int, ∃ r47 : Int, ∃ r48 : Int, ∃ r49 : Int, ∃ r50 : Int, ∃ r51 : Int, ∃ r52 : Int, ∃ r53 : Int, ∃ r54 : Int, ∃ r55 : Int, ∃ r56 : Int, r39 = (Value.agg ⟨[(Value.int .u8 r41), (Value.int .u8 r42), (Value.int .u8 r43), (Value.int .u8 r44), (Value.int .u8 r45), (Value.int .u8 r46), (Value.int .u8 r47), (Value.int .u8 r48), (Value.int .u8 r49), (Value.int .u8 r50), (Value.int .u8 r51), (Value.int .u8 r52), (Value.int .u8 r53), (Value.int .u8 r54), (Value.int .u8 r55), (Value.int .u8 r56)]⟩) ∧
 Al w40 (.cells ⟨((Value.int .u8 r23) :: (Value.int .u8 r24) :: (Value.int .u8 r25) :: (Value.int .u8 r26) :: (Value.int .u8 r27) :: (Value.int .u8 r28) :: (Value.int .u8 r29) :: (Value.int .u8 r30) :: (Value.int .u8 r31) :: (Value.int .u8 r32) :: (Value.int .u8 r33) :: (Value.int .u8 r34) :: (Value.int .u8 r35) :: (Value.int .u8 r36) :: (Value.int .u8 r37) :: (Value.int .u8 r38) :: (Value.int .u8 r41) :: (Value.int .u8 r42) :: (Value.int .u8 r43) :: (Value.int .u8 r44) :: (Value.int .u8 r45) :: (Value.int .u8 r46) :: (Value.int .u8 r47) :: (Value.int .u8 r48) :: (Value.int .u8 r49) :: (Value.int .u8 r50) :: (Value.int .u8 r51) :: (Value.int .u8 r52) :: (Value.int .u8 r53) :: (Value.int .u8 r54) :: (Value.int .u8 r55) :: (Value.int .u8 r56) :: [])⟩ 38) fun a58 w57 =>
 Al w57 (.cells ⟨[(Value.int .i64 3325256705)]⟩ 3) fun a60 w59 =>
 Al w59 (.cells ⟨((Value.int .u8 0) :: (Value.int .u8 0) :: (Value.int .u8 0) :: (Value.int .u8 0) :: (Value.int .u8 0) :: (Value.int .u8 0) :: (Value.int .u8 0) :: (Value.int .u8 0) :: (Value.int .u8 0) :: (Value.int .u8 0) :: (Value.int .u8 0) :: (Value.int .u8 0) :: (Value.int .u8 0) :: (Value.int .u8 0) :: (Value.int .u8 0) :: (Value.int .u8 0) :: (Value.slice none 0 0) :: (Value.slice none 0 0) :: (Value.int .i64 0) :: (Value.int .i64 0) :: (Value.int .i64 0) :: (Value.int .i64 0) :: (Value.int .i64 0) :: (Value.int .i64 0) :: (Value.int .i64 0) :: (Value.int .i64 0) :: (Value.int .i64 0) :: (Value.int .i64 0) :: (Value.int .i64 0) :: (Value.int .i64 0) :: (Value.int .i64 0) :: (Value.int .i64 0) :: (Value.int .i64 0) :: (Value.int .i64 0) :: (Value.int .i64 0) :: (Value.slice none 0 0) :: [])⟩ 42) fun a62 w61 =>
 StN ((Value.int .u8 r5) :: (Value.int .u8 r6) :: (Value.int .u8 r7) :: (Value.int .u8 r8) :: (Value.int .u8 r9) :: (Value.int .u8 r10) :: (Value.int .u8 r11) :: (Value.int .u8 r12) :: (Value.int .u8 r13) :: (Value.int .u8 r14) :: (Value.int .u8 r15) :: (Value.int .u8 r16) :: (Value.int .u8 r17) :: (Value.int .u8 r18) :: (Value.int .u8 r19) :: (Value.int .u8 r20) :: (Value.slice (some a58) 2 2) :: (Value.slice (some a60) 1 1) :: (Value.int .i64 0) :: (Value.int .i64 0) :: (Value.int .i64 0) :: (Value.int .i64 0) :: (Value.int .i64 0) :: (Value.int .i64 0) :: (Value.int .i64 0) :: (Value.int .i64 0) :: (Value.int .i64 0) :: (Value.int .i64 0) :: (Value.int .i64 0) :: (Value.int .i64 0) :: (Value.int .i64 0) :: (Value.int .i64 0) :: (Value.int .i64 0) :: (Value.int .i64 0) :: (Value.int .i64 0) :: (Value.slice none 0 0) :: []) w61 a62 0 fun w63 =>
 St w63 (a62.add 18) (Value.int .i64 1024) fun w64 =>
 St w64 (a62.add 19) (Value.int .i64 65535) fun w65 =>
 St w65 (a62.add 20) (Value.int .i64 16) fun w66 =>
 St w66 (a62.add 21) (Value.int .i64 64) fun w67 =>
 St w67 (a62.add 22) (Value.int .i64 128) fun w68 =>
 St w68 (a62.add 23) (Value.int .i64 8) fun w69 =>
 St w69 (a62.add 24) (Value.int .i64 1048576) fun w70 =>
 St w70 (a62.add 25) (Value.int .i64 1500) fun w71 =>
 St w71 (a62.add 26) (Value.int .i64 1500) fun w72 =>
 St w72 (a62.add 27) (Value.int .i64 64) fun w73 =>
 St w73 (a62.add 29) (Value.int .i64 2) fun w74 =>
 St w74 (a62.add 30) (Value.int .i64 300) fun w75 =>
 St w75 (a62.add 31) (Value.int .i64 7440) fun w76 =>
 St w76 (a62.add 32) (Value.int .i64 240) fun w77 =>
 St w77 (a62.add 33) (Value.int .i64 60) fun w78 =>
 St w78 (a62.add 34) (Value.int .i64 60) fun w79 =>
 Ld (.int .u8) w79 (a62.add 0) fun x80 =>
 Ld (.int .u8) w79 (a62.add 1) fun x81 =>
 Ld (.int .u8) w79 (a62.add 2) fun x82 =>
 Ld (.int .u8) w79 (a62.add 3) fun x83 =>
 Ld (.int .u8) w79 (a62.add 4) fun x84 =>
 Ld (.int .u8) w79 (a62.add 5) fun x85 =>
 Ld (.int .u8) w79 (a62.add 6) fun x86 =>
 Ld (.int .u8) w79 (a62.add 7) fun x87 =>
 Ld (.int .u8) w79 (a62.add 8) fun x88 =>
 Ld (.int .u8) w79 (a62.add 9) fun x89 =>
 Ld (.int .u8) w79 (a62.add 10) fun x90 =>
 Ld (.int .u8) w79 (a62.add 11) fun x91 =>
 Ld (.int .u8) w79 (a62.add 12) fun x92 =>
 Ld (.int .u8) w79 (a62.add 13) fun x93 =>
 Ld (.int .u8) w79 (a62.add 14) fun x94 =>
 Ld (.int .u8) w79 (a62.add 15) fun x95 =>
 Ld .slice w79 (a62.add 16) fun x96 =>
 Ld .slice w79 (a62.add 17) fun x97 =>
 Ld (.int .i64) w79 (a62.add 18) fun x98 =>
 Ld (.int .i64) w79 (a62.add 19) fun x99 =>
 Ld (.int .i64) w79 (a62.add 20) fun x100 =>
 Ld (.int .i64) w79 (a62.add 21) fun x101 =>
 Ld (.int .i64) w79 (a62.add 22) fun x102 =>
 Ld (.int .i64) w79 (a62.add 23) fun x103 =>
 Ld (.int .i64) w79 (a62.add 24) fun x104 =>
 Ld (.int .i64) w79 (a62.add 25) fun x105 =>
 Ld (.int .i64) w79 (a62.add 26) fun x106 =>
 Ld (.int .i64) w79 (a62.add 27) fun x107 =>
 Ld (.int .i64) w79 (a62.add 28) fun x108 =>
 Ld (.int .i64) w79 (a62.add 29) fun x109 =>
 Ld (.int .i64) w79 (a62.add 30) fun x110 =>
 Ld (.int .i64) w79 (a62.add 31) fun x111 =>
 Ld (.int .i64) w79 (a62.add 32) fun x112 =>
 Ld (.int .i64) w79 (a62.add 33) fun x113 =>
 Ld (.int .i64) w79 (a62.add 34) fun x114 =>
 Ld .slice w79 (a62.add 35) fun x115 =>
 StN ((Value.int .u8 x80) :: (Value.int .u8 x81) :: (Value.int .u8 x82) :: (Value.int .u8 x83) :: (Value.int .u8 x84) :: (Value.int .u8 x85) :: (Value.int .u8 x86) :: (Value.int .u8 x87) :: (Value.int .u8 x88) :: (Value.int .u8 x89) :: (Value.int .u8 x90) :: (Value.int .u8 x91) :: (Value.int .u8 x92) :: (Value.int .u8 x93) :: (Value.int .u8 x94) :: (Value.int .u8 x95) :: (Value.slice x96.a x96.len x96.cap) :: (Value.slice x97.a x97.len x97.cap) :: (Value.int .i64 x98) :: (Value.int .i64 x99) :: (Value.int .i64 x100) :: (Value.int .i64 x101) :: (Value.int .i64 x102) :: (Value.int .i64 x103) :: (Value.int .i64 x104) :: (Value.int .i64 x105) :: (Value.int .i64 x106) :: (Value.int .i64 x107) :: (Value.int .i64 x108) :: (Value.int .i64 x109) :: (Value.int .i64 x110) :: (Value.int .i64 x111) :: (Value.int .i64 x112) :: (Value.int .i64 x113) :: (Value.int .i64 x114) :: (Value.slice x115.a x115.len x115.cap) :: []) w79 a2 0 fun w116 =>
 Ld (.int .u8) w116 (a2.add 0) fun y117 =>
 Ld (.int .u8) w116 (a2.add 1) fun y118 =>
 Ld (.int .u8) w116 (a2.add 2) fun y119 =>
 Ld (.int .u8) w116 (a2.add 3) fun y120 =>
 Ld (.int .u8) w116 (a2.add 4) fun y121 =>
 Ld (.int .u8) w116 (a2.add 5) fun y122 =>
 Ld (.int .u8) w116 (a2.add 6) fun y123 =>
 Ld (.int .u8) w116 (a2.add 7) fun y124 =>
 Ld (.int .u8) w116 (a2.add 8) fun y125 =>
 Ld (.int .u8) w116 (a2.add 9) fun y126 =>
 Ld (.int .u8) w116 (a2.add 10) fun y127 =>
 Ld (.int .u8) w116 (a2.add 11) fun y128 =>
 Ld (.int .u8) w116 (a2.add 12) fun y129 =>
 Ld (.int .u8) w116 (a2.add 13) fun y130 =>
 Ld (.int .u8) w116 (a2.add 14) fun y131 =>
 Ld (.int .u8) w116 (a2.add 15) fun y132 =>
 Ld .slice w116 (a2.add 16) fun y133 =>
 Ld .slice w116 (a2.add 17) fun y134 =>
 Ld (.int .i64) w116 (a2.add 18) fun y135 =>
 Ld (.int .i64) w116 (a2.add 19) fun y136 =>
 Ld (.int .i64) w116 (a2.add 20) fun y137 =>
 Ld (.int .i64) w116 (a2.add 21) fun y138 =>
 Ld (.int .i64) w116 (a2.add 22) fun y139 =>
 Ld (.int .i64) w116 (a2.add 23) fun y140 =>
 Ld (.int .i64) w116 (a2.add 24) fun y141 =>
 Ld (.int .i64) w116 (a2.add 25) fun y142 =>
 Ld (.int .i64) w116 (a2.add 26) fun y143 =>
 Ld (.int .i64) w116 (a2.add 27) fun y144 =>
 Ld (.int .i64) w116 (a2.add 28) fun y145 =>
 Ld (.int .i64) w116 (a2.add 29) fun y146 =>
 Ld (.int .i64) w116 (a2.add 30) fun y147 =>
 Ld (.int .i64) w116 (a2.add 31) fun y148 =>
 Ld (.int .i64) w116 (a2.add 32) fun y149 =>
 Ld (.int .i64) w116 (a2.add 33) fun y150 =>
 Ld (.int .i64) w116 (a2.add 34) fun y151 =>
 Ld .slice w116 (a2.add 35) fun y152 =>
 K y117 y118 y119 y120 y121 y122 y123 y124 y125 y126 y127 y128 y129 y130 y131 y132 y133 y134 y135 y136 y137 y138 y139 y140 y141 y142 y143 y144 y145 y146 y147 y148 y149 y150 y151 y152 w116)
theorem e_config_Base  (w : World) (K : Int → Int → Int → Int → Int → Int → Int → Int → Int → Int → Int → Int → Int → Int → Int → Int → SliceV → SliceV → Int → Int → Int → Int → Int → Int → Int → Int → Int → Int → Int → Int → Int → Int → Int → Int → Int → SliceV → World → Prop) : den Try.prog 29 (bodyOf Try.f20) none (.seq .leaf (.seq .leaf (.seq .leaf (.seq .leaf (.seq .leaf (.seq .leaf (.seq .leaf (.seq .leaf (.seq .leaf (.seq .leaf .leaf)))))))))) (argEnv 0 []) [] w (retK Try.prog [.cell 0 42] [.agg ((.int .u8) :: (.int .u8) :: (.int .u8) :: (.int .u8) :: (.int .u8) :: (.int .u8) :: (.int .u8) :: (.int .u8) :: (.int .u8) :: (.int .u8) :: (.int .u8) :: (.int .u8) :: (.int .u8) :: (.int .u8) :: (.int .u8) :: (.int .u8) :: .slice :: .slice :: (.int .i64) :: (.int .i64) :: (.int .i64) :: (.int .i64) :: (.int .i64) :: (.int .i64) :: (.int .i64) :: (.int .i64) :: (.int .i64) :: (.int .i64) :: (.int .i64) :: (.int .i64) :: (.int .i64) :: (.int .i64) :: (.int .i64) :: (.int .i64) :: (.int .i64) :: .slice :: [])] K) = s_config_Base  w K := by kernel_rfl
theorem ok_config_Base { w K} (h : s_config_Base  w K) : c_config_Base  w K := by
  have t := fn_sound pok Try.func20 (fn := Try.f20) (c := bodyOf Try.f20) (nt := 29) (by kernel_rfl) (by kernel_rfl) (rs := [.cell 0 42]) (by kernel_rfl) [.agg ((.int .u8) :: (.int .u8) :: (.int .u8) :: (.int .u8) :: (.int .u8) :: (.int .u8) :: (.int .u8) :: (.int .u8) :: (.int .u8) :: (.int .u8) :: (.int .u8) :: (.int .u8) :: (.int .u8) :: (.int .u8) :: (.int .u8) :: (.int .u8) :: .slice :: .slice :: (.int .i64) :: (.int .i64) :: (.int .i64) :: (.int .i64) :: (.int .i64) :: (.int .i64) :: (.int .i64) :: (.int .i64) :: (.int .i64) :: (.int .i64) :: (.int .i64) :: (.int .i64) :: (.int .i64) :: (.int .i64) :: (.int .i64) :: (.int .i64) :: (.int .i64) :: .slice :: [])] K (.seq .leaf (.seq .leaf (.seq .leaf (.seq .leaf (.seq .leaf (.seq .leaf (.seq .leaf (.seq .leaf (.seq .leaf (.seq .leaf .leaf)))))))))) [] (by kernel_rfl) w ((e_config_Base  w K).mpr h)
  exact Eq.mp (by kernel_rfl) t

/-- goosepond/goosepondref20.Base -/
def s_ref20_Base  (w : World) (K : Int → Int → Int → Int → Int → Int → Int → Int → Int → Int → Int → Int → Int → Int → Int → Int → SliceV → SliceV → Int → Int → Int → Int → Int → Int → Int → Int → Int → Int → Int → Int → Int → Int → Int → Int → Int → SliceV → World → Prop) : Prop :=
 (Al w (.cells ⟨((Value.int .u8 0) :: (Value.int .u8 0) :: (Value.int .u8 0) :: (Value.int .u8 0) :: (Value.int .u8 0) :: (Value.int .u8 0) :: (Value.int .u8 0) :: (Value.int .u8 0) :: (Value.int .u8 0) :: (Value.int .u8 0) :: (Value.int .u8 0) :: (Value.int .u8 0) :: (Value.int .u8 0) :: (Value.int .u8 0) :: (Value.int .u8 0) :: (Value.int .u8 0) :: (Value.slice none 0 0) :: (Value.slice none 0 0) :: (Value.int .i64 0) :: (Value.int .i64 0) :: (Value.int .i64 0) :: (Value.int .i64 0) :: (Value.int .i64 0) :: (Value.int .i64 0) :: (Value.int .i64 0) :: (Value.int .i64 0) :: (Value.int .i64 0) :: (Value.int .i64 0) :: (Value.int .i64 0) :: (Value.int .i64 0) :: (Value.int .i64 0) :: (Value.int .i64 0) :: (Value.int .i64 0) :: (Value.int .i64 0) :: (Value.int .i64 0) :: (Value.slice none 0 0) :: [])⟩ 42) fun a2 w1 =>
 Al w1 (.cells ⟨[(Value.int .i64 8193), (Value.int .i64 3512), (Value.int .i64 0), (Value.int .i64 0), (Value.int .i64 0), (Value.int .i64 0), (Value.int .i64 0), (Value.int .i64 1)]⟩ 3) fun a4 w3 =>
 c_ref04_Of ⟨(some a4), 8, 8⟩ w3 fun r5 r6 r7 r8 r9 r10 r11 r12 r13 r14 r15 r16 r17 r18 r19 r20 w21 =>
 Al w21 (.cells ⟨[(Value.int .i64 8193), (Value.int .i64 3512), (Value.int .i64 1), (Value.int .i64 0), (Value.int .i64 0), (Value.int .i64 0), (Value.int .i64 0), (Value.int .i64 1)]⟩ 3) fun a23 w22 =>
 c_ref04_Of ⟨(some a23), 8, 8⟩ w22 fun r24 r25 r26 r27 r28 r29 r30 r31 r32 r33 r34 r35 r36 r37 r38 r39 w40 =>
 Al w40 (.cells ⟨[(Value.int .i64 8193), (Value.int .i64 3512), (Value.int .i64 2), (Value.int .i64 0), (Value.int .i64 0), (Value.int .i64 0), (Value.int .i64 0), (Value.int .i64 1)]⟩ 3) fun a42 w41 =>
 c_ref04_Of ⟨(some a42), 8, 8⟩ w41 fun r43 r44 r45 r46 r47 r48 r49 r50 r51 r52 r53 r54 r55 r56 r57 r58 w59 =>
 Al w59 (.cells ⟨((Value.int .u8 r24) :: (Value.int .u8 r25) :: (Value.int .u8 r26) :: (Value.int .u8 r27) :: (Value.int .u8 r28) :: (Value.int .u8 r29) :: (Value.int .u8 r30) :: (Value.int .u8 r31) :: (Value.int .u8 r32) :: (Value.int .u8 r33) :: (Value.int .u8 r34) :: (Value.int .u8 r35) :: (Value.int .u8 r36) :: (Value.int .u8 r37) :: (Value.int .u8 r38) :: (Value.int .u8 r39) :: (Value.int .u8 r43) :: (Value.int .u8 r44) :: (Value.int .u8 r45) :: (Value.int .u8 r46) :: (Value.int .u8 r47) :: (Value.int .u8 r48) :: (Value.int .u8 r49) :: (Value.int .u8 r50) :: (Value.int .u8 r51) :: (Value.int .u8 r52) :: (Value.int .u8 r53) :: (Value.int .u8 r54) :: (Value.int .u8 r55) :: (Value.int .u8 r56) :: (Value.int .u8 r57) :: (Value.int .u8 r58) :: [])⟩ 38) fun a61 w60 =>
 Al w60 (.cells ⟨[(Value.int .i64 3325256705)]⟩ 3) fun a63 w62 =>
 StN ((Value.int .u8 r5) :: (Value.int .u8 r6) :: (Value.int .u8 r7) :: (Value.int .u8 r8) :: (Value.int .u8 r9) :: (Value.int .u8 r10) :: (Value.int .u8 r11) :: (Value.int .u8 r12) :: (Value.int .u8 r13) :: (Value.int .u8 r14) :: (Value.int .u8 r15) :: (Value.int .u8 r16) :: (Value.int .u8 r17) :: (Value.int .u8 r18) :: (Value.int .u8 r19) :: (Value.int .u8 r20) :: (Value.slice (some a61) 2 2) :: (Value.slice (some a63) 1 1) :: (Value.int .i64 1024) :: (Value.int .i64 65535) :: (Value.int .i64 16) :: (Value.int .i64 64) :: (Value.int .i64 128) :: (Value.int .i64 8) :: (Value.int .i64 1048576) :: (Value.int .i64 1500) :: (Value.int .i64 1500) :: (Value.int .i64 64) :: (Value.int .i64 0) :: (Value.int .i64 2) :: (Value.int .i64 300) :: (Value.int .i64 7440) :: (Value.int .i64 240) :: (Value.int .i64 60) :: (Value.int .i64 60) :: (Value.slice none 0 0) :: []) w62 a2 0 fun w64 =>
 Ld (.int .u8) w64 (a2.add 0) fun y65 =>
 Ld (.int .u8) w64 (a2.add 1) fun y66 =>
 Ld (.int .u8) w64 (a2.add 2) fun y67 =>
 Ld (.int .u8) w64 (a2.add 3) fun y68 =>
 Ld (.int .u8) w64 (a2.add 4) fun y69 =>
 Ld (.int .u8) w64 (a2.add 5) fun y70 =>
 Ld (.int .u8) w64 (a2.add 6) fun y71 =>
 Ld (.int .u8) w64 (a2.add 7) fun y72 =>
 Ld (.int .u8) w64 (a2.add 8) fun y73 =>
 Ld (.int .u8) w64 (a2.add 9) fun y74 =>
 Ld (.int .u8) w64 (a2.add 10) fun y75 =>
 Ld (.int .u8) w64 (a2.add 11) fun y76 =>
 Ld (.int .u8) w64 (a2.add 12) fun y77 =>
 Ld (.int .u8) w64 (a2.add 13) fun y78 =>
 Ld (.int .u8) w64 (a2.add 14) fun y79 =>
 Ld (.int .u8) w64 (a2.add 15) fun y80 =>
 Ld .slice w64 (a2.add 16) fun y81 =>
 Ld .slice w64 (a2.add 17) fun y82 =>
 Ld (.int .i64) w64 (a2.add 18) fun y83 =>
 Ld (.int .i64) w64 (a2.add 19) fun y84 =>
 Ld (.int .i64) w64 (a2.add 20) fun y85 =>
 Ld (.int .i64) w64 (a2.add 21) fun y86 =>
 Ld (.int .i64) w64 (a2.add 22) fun y87 =>
 Ld (.int .i64) w64 (a2.add 23) fun y88 =>
 Ld (.int .i64) w64 (a2.add 24) fun y89 =>
 Ld (.int .i64) w64 (a2.add 25) fun y90 =>
 Ld (.int .i64) w64 (a2.add 26) fun y91 =>
 Ld (.int .i64) w64 (a2.add 27) fun y92 =>
 Ld (.int .i64) w64 (a2.add 28) fun y93 =>
 Ld (.int .i64) w64 (a2.add 29) fun y94 =>
 Ld (.int .i64) w64 (a2.add 30) fun y95 =>
 Ld (.int .i64) w64 (a2.add 31) fun y96 =>
 Ld (.int .i64) w64 (a2.add 32) fun y97 =>
 Ld (.int .i64) w64 (a2.add 33) fun y98 =>
 Ld (.int .i64) w64 (a2.add 34) fun y99 =>
 Ld .slice w64 (a2.add 35) fun y100 =>
 K y65 y66 y67 y68 y69 y70 y71 y72 y73 y74 y75 y76 y77 y78 y79 y80 y81 y82 y83 y84 y85 y86 y87 y88 y89 y90 y91 y92 y93 y94 y95 y96 y97 y98 y99 y100 w64)
theorem e_ref20_Base  (w : World) (K : Int → Int → Int → Int → Int → Int → Int → Int → Int → Int → Int → Int → Int → Int → Int → Int → SliceV → SliceV → Int → Int → Int → Int → Int → Int → Int → Int → Int → Int → Int → Int → Int → Int → Int → Int → Int → SliceV → World → Prop) : den Try.prog 10 (bodyOf Try.f21) none (.seq .leaf (.seq .leaf .leaf)) (argEnv 0 []) [] w (retK Try.prog [.cell 0 42] [.agg ((.int .u8) :: (.int .u8) :: (.int .u8) :: (.int .u8) :: (.int .u8) :: (.int .u8) :: (.int .u8) :: (.int .u8) :: (.int .u8) :: (.int .u8) :: (.int .u8) :: (.int .u8) :: (.int .u8) :: (.int .u8) :: (.int .u8) :: (.int .u8) :: .slice :: .slice :: (.int .i64) :: (.int .i64) :: (.int .i64) :: (.int .i64) :: (.int .i64) :: (.int .i64) :: (.int .i64) :: (.int .i64) :: (.int .i64) :: (.int .i64) :: (.int .i64) :: (.int .i64) :: (.int .i64) :: (.int .i64) :: (.int .i64) :: (.int .i64) :: (.int .i64) :: .slice :: [])] K) = s_ref20_Base  w K := by kernel_rfl
theorem ok_ref20_Base { w K} (h : s_ref20_Base  w K) : c_ref20_Base  w K := by
  have t := fn_sound pok Try.func21 (fn := Try.f21) (c := bodyOf Try.f21) (nt := 10) (by kernel_rfl) (by kernel_rfl) (rs := [.cell 0 42]) (by kernel_rfl) [.agg ((.int .u8) :: (.int .u8) :: (.int .u8) :: (.int .u8) :: (.int .u8) :: (.int .u8) :: (.int .u8) :: (.int .u8) :: (.int .u8) :: (.int .u8) :: (.int .u8) :: (.int .u8) :: (.int .u8) :: (.int .u8) :: (.int .u8) :: (.int .u8) :: .slice :: .slice :: (.int .i64) :: (.int .i64) :: (.int .i64) :: (.int .i64) :: (.int .i64) :: (.int .i64) :: (.int .i64) :: (.int .i64) :: (.int .i64) :: (.int .i64) :: (.int .i64) :: (.int .i64) :: (.int .i64) :: (.int .i64) :: (.int .i64) :: (.int .i64) :: (.int .i64) :: .slice :: [])] K (.seq .leaf (.seq .leaf .leaf)) [] (by kernel_rfl) w ((e_ref20_Base  w K).mpr h)
  exact Eq.mp (by kernel_rfl) t

/-- slices.Index[[]goosepond/api.Six,goosepond/api.Six] -/
def s_slices_Index_api_Six_api_Six (a0 : SliceV) (a1_0 : Int) (a1_1 : Int) (a1_2 : Int) (a1_3 : Int) (a1_4 : Int) (a1_5 : Int) (a1_6 : Int) (a1_7 : Int) (a1_8 : Int) (a1_9 : Int) (a1_10 : Int) (a1_11 : Int) (a1_12 : Int) (a1_13 : Int) (a1_14 : Int) (a1_15 : Int) (w : World) (K : Int → World → Prop) : Prop :=
 (Al w (.cells ⟨[(Value.int .u8 a1_0), (Value.int .u8 a1_1), (Value.int .u8 a1_2), (Value.int .u8 a1_3), (Value.int .u8 a1_4), (Value.int .u8 a1_5), (Value.int .u8 a1_6), (Value.int .u8 a1_7), (Value.int .u8 a1_8), (Value.int .u8 a1_9), (Value.int .u8 a1_10), (Value.int .u8 a1_11), (Value.int .u8 a1_12), (Value.int .u8 a1_13), (Value.int .u8 a1_14), (Value.int .u8 a1_15)]⟩ 38) fun a4 w3 =>
 LoopP (S := Int × Unit) (fun s5 w6 next7 =>
 (bif (decide (s5.1 < (a0.len : Int))) then
 Ld (.int .u8) w6.drew (a4.add 0) fun x8 =>
 Ld (.int .u8) w6.drew (a4.add 1) fun x9 =>
 Ld (.int .u8) w6.drew (a4.add 2) fun x10 =>
 Ld (.int .u8) w6.drew (a4.add 3) fun x11 =>
 Ld (.int .u8) w6.drew (a4.add 4) fun x12 =>
 Ld (.int .u8) w6.drew (a4.add 5) fun x13 =>
 Ld (.int .u8) w6.drew (a4.add 6) fun x14 =>
 Ld (.int .u8) w6.drew (a4.add 7) fun x15 =>
 Ld (.int .u8) w6.drew (a4.add 8) fun x16 =>
 Ld (.int .u8) w6.drew (a4.add 9) fun x17 =>
 Ld (.int .u8) w6.drew (a4.add 10) fun x18 =>
 Ld (.int .u8) w6.drew (a4.add 11) fun x19 =>
 Ld (.int .u8) w6.drew (a4.add 12) fun x20 =>
 Ld (.int .u8) w6.drew (a4.add 13) fun x21 =>
 Ld (.int .u8) w6.drew (a4.add 14) fun x22 =>
 Ld (.int .u8) w6.drew (a4.add 15) fun x23 =>
 AtIx a0 16 s5.1 fun a24 =>
 Ld (.int .u8) w6.drew (a24.add 0) fun x25 =>
 Ld (.int .u8) w6.drew (a24.add 1) fun x26 =>
 Ld (.int .u8) w6.drew (a24.add 2) fun x27 =>
 Ld (.int .u8) w6.drew (a24.add 3) fun x28 =>
 Ld (.int .u8) w6.drew (a24.add 4) fun x29 =>
 Ld (.int .u8) w6.drew (a24.add 5) fun x30 =>
 Ld (.int .u8) w6.drew (a24.add 6) fun x31 =>
 Ld (.int .u8) w6.drew (a24.add 7) fun x32 =>
 Ld (.int .u8) w6.drew (a24.add 8) fun x33 =>
 Ld (.int .u8) w6.drew (a24.add 9) fun x34 =>
 Ld (.int .u8) w6.drew (a24.add 10) fun x35 =>
 Ld (.int .u8) w6.drew (a24.add 11) fun x36 =>
 Ld (.int .u8) w6.drew (a24.add 12) fun x37 =>
 Ld (.int .u8) w6.drew (a24.add 13) fun x38 =>
 Ld (.int .u8) w6.drew (a24.add 14) fun x39 =>
 Ld (.int .u8) w6.drew (a24.add 15) fun x40 =>
 (bif ((x8 == x25) && ((x9 == x26) && ((x10 == x27) && ((x11 == x28) && ((x12 == x29) && ((x13 == x30) && ((x14 == x31) && ((x15 == x32) && ((x16 == x33) && ((x17 == x34) && ((x18 == x35) && ((x19 == x36) && ((x20 == x37) && ((x21 == x38) && ((x22 == x39) && ((x23 == x40) && true)))))))))))))))) then
 K s5.1 w6.drew
 else
 next7 ((IntKind.i64.wrap (s5.1 + 1)), ()) w6.drew)
 else
 K (-1) w6)) (0, ()) w3)
theorem e_slices_Index_api_Six_api_Six (a0 : SliceV) (a1_0 : Int) (a1_1 : Int) (a1_2 : Int) (a1_3 : Int) (a1_4 : Int) (a1_5 : Int) (a1_6 : Int) (a1_7 : Int) (a1_8 : Int) (a1_9 : Int) (a1_10 : Int) (a1_11 : Int) (a1_12 : Int) (a1_13 : Int) (a1_14 : Int) (a1_15 : Int) (w : World) (K : Int → World → Prop) : den Try.prog 19 (bodyOf Try.f36) none (.seq .leaf (.seq (.seq .leaf (.blk (.loop [(8, (.int .i64))] (.seq .leaf (.seq (.cond .leaf .leaf) (.seq (.blk (.seq .leaf (.seq .leaf (.cond (.seq .leaf .leaf) .leaf)))) .leaf)))))) (.seq .leaf .leaf))) (argEnv 0 [(Value.slice a0.a a0.len a0.cap), (Value.agg ⟨[(Value.int .u8 a1_0), (Value.int .u8 a1_1), (Value.int .u8 a1_2), (Value.int .u8 a1_3), (Value.int .u8 a1_4), (Value.int .u8 a1_5), (Value.int .u8 a1_6), (Value.int .u8 a1_7), (Value.int .u8 a1_8), (Value.int .u8 a1_9), (Value.int .u8 a1_10), (Value.int .u8 a1_11), (Value.int .u8 a1_12), (Value.int .u8 a1_13), (Value.int .u8 a1_14), (Value.int .u8 a1_15)]⟩)]) [] w (retK Try.prog [.tmp 4] [.one (.int .i64)] K) = s_slices_Index_api_Six_api_Six a0 a1_0 a1_1 a1_2 a1_3 a1_4 a1_5 a1_6 a1_7 a1_8 a1_9 a1_10 a1_11 a1_12 a1_13 a1_14 a1_15 w K := by kernel_rfl
theorem ok_slices_Index_api_Six_api_Six {a0 a1_0 a1_1 a1_2 a1_3 a1_4 a1_5 a1_6 a1_7 a1_8 a1_9 a1_10 a1_11 a1_12 a1_13 a1_14 a1_15 w K} (h : s_slices_Index_api_Six_api_Six a0 a1_0 a1_1 a1_2 a1_3 a1_4 a1_5 a1_6 a1_7 a1_8 a1_9 a1_10 a1_11 a1_12 a1_13 a1_14 a1_15 w K) : c_slices_Index_api_Six_api_Six a0 a1_0 a1_1 a1_2 a1_3 a1_4 a1_5 a1_6 a1_7 a1_8 a1_9 a1_10 a1_11 a1_12 a1_13 a1_14 a1_15 w K :=
  fn_sound pok Try.func36 (fn := Try.f36) (c := bodyOf Try.f36) (nt := 19) (by kernel_rfl) (by kernel_rfl) (rs := [.tmp 4]) (by kernel_rfl) [.one (.int .i64)] K (.seq .leaf (.seq (.seq .leaf (.blk (.loop [(8, (.int .i64))] (.seq .leaf (.seq (.cond .leaf .leaf) (.seq (.blk (.seq .leaf (.seq .leaf (.cond (.seq .leaf .leaf) .leaf)))) .leaf)))))) (.seq .leaf .leaf))) [(Value.slice a0.a a0.len a0.cap), (Value.agg ⟨[(Value.int .u8 a1_0), (Value.int .u8 a1_1), (Value.int .u8 a1_2), (Value.int .u8 a1_3), (Value.int .u8 a1_4), (Value.int .u8 a1_5), (Value.int .u8 a1_6), (Value.int .u8 a1_7), (Value.int .u8 a1_8), (Value.int .u8 a1_9), (Value.int .u8 a1_10), (Value.int .u8 a1_11), (Value.int .u8 a1_12), (Value.int .u8 a1_13), (Value.int .u8 a1_14), (Value.int .u8 a1_15)]⟩)] (by kernel_rfl) w ((e_slices_Index_api_Six_api_Six a0 a1_0 a1_1 a1_2 a1_3 a1_4 a1_5 a1_6 a1_7 a1_8 a1_9 a1_10 a1_11 a1_12 a1_13 a1_14 a1_15 w K).mpr h)

/-- goosepond/config.Base$1 -/
def s_config_Base_1 (a0 : Int) (w : World) (K : Int → Int → Int → Int → Int → Int → Int → Int → Int → Int → Int → Int → Int → Int → Int → Int → World → Prop) : Prop :=
 (Al w (.cells ⟨[(Value.int .u8 0), (Value.int .u8 0), (Value.int .u8 0), (Value.int .u8 0), (Value.int .u8 0), (Value.int .u8 0), (Value.int .u8 0), (Value.int .u8 0), (Value.int .u8 0), (Value.int .u8 0), (Value.int .u8 0), (Value.int .u8 0), (Value.int .u8 0), (Value.int .u8 0), (Value.int .u8 0), (Value.int .u8 0)]⟩ 38) fun a3 w2 =>
 Al w2 (.cells ⟨[(Value.int .i64 8193), (Value.int .i64 3512), (Value.int .i64 a0), (Value.int .i64 0), (Value.int .i64 0), (Value.int .i64 0), (Value.int .i64 0), (Value.int .i64 1)]⟩ 3) fun a5 w4 =>
 c_six_Of ⟨(some a5), 8, 8⟩ w4 fun r6 r7 r8 r9 r10 r11 r12 r13 r14 r15 r16 r17 r18 r19 r20 r21 w22 =>
 StN [(Value.int .u8 r6), (Value.int .u8 r7), (Value.int .u8 r8), (Value.int .u8 r9), (Value.int .u8 r10), (Value.int .u8 r11), (Value.int .u8 r12), (Value.int .u8 r13), (Value.int .u8 r14), (Value.int .u8 r15), (Value.int .u8 r16), (Value.int .u8 r17), (Value.int .u8 r18), (Value.int .u8 r19), (Value.int .u8 r20), (Value.int .u8 r21)] w22 a3 0 fun w23 =>
 Ld (.int .u8) w23 (a3.add 0) fun y24 =>
 Ld (.int .u8) w23 (a3.add 1) fun y25 =>
 Ld (.int .u8) w23 (a3.add 2) fun y26 =>
 Ld (.int .u8) w23 (a3.add 3) fun y27 =>
 Ld (.int .u8) w23 (a3.add 4) fun y28 =>
 Ld (.int .u8) w23 (a3.add 5) fun y29 =>
 Ld (.int .u8) w23 (a3.add 6) fun y30 =>
 Ld (.int .u8) w23 (a3.add 7) fun y31 =>
 Ld (.int .u8) w23 (a3.add 8) fun y32 =>
 Ld (.int .u8) w23 (a3.add 9) fun y33 =>
 Ld (.int .u8) w23 (a3.add 10) fun y34 =>
 Ld (.int .u8) w23 (a3.add 11) fun y35 =>
 Ld (.int .u8) w23 (a3.add 12) fun y36 =>
 Ld (.int .u8) w23 (a3.add 13) fun y37 =>
 Ld (.int .u8) w23 (a3.add 14) fun y38 =>
 Ld (.int .u8) w23 (a3.add 15) fun y39 =>
 K y24 y25 y26 y27 y28 y29 y30 y31 y32 y33 y34 y35 y36 y37 y38 y39 w23)
theorem e_config_Base_1 (a0 : Int) (w : World) (K : Int → Int → Int → Int → Int → Int → Int → Int → Int → Int → Int → Int → Int → Int → Int → Int → World → Prop) : den Try.prog 6 (bodyOf Try.f45) none (.seq .leaf (.seq .leaf .leaf)) (argEnv 0 [(Value.int .i64 a0)]) [] w (retK Try.prog [.cell 2 38] [.agg [(.int .u8), (.int .u8), (.int .u8), (.int .u8), (.int .u8), (.int .u8), (.int .u8), (.int .u8), (.int .u8), (.int .u8), (.int .u8), (.int .u8), (.int .u8), (.int .u8), (.int .u8), (.int .u8)]] K) = s_config_Base_1 a0 w K := by kernel_rfl
theorem ok_config_Base_1 {a0 w K} (h : s_config_Base_1 a0 w K) : c_config_Base_1 a0 w K :=
  fn_sound pok Try.func45 (fn := Try.f45) (c := bodyOf Try.f45) (nt := 6) (by kernel_rfl) (by kernel_rfl) (rs := [.cell 2 38]) (by kernel_rfl) [.agg [(.int .u8), (.int .u8), (.int .u8), (.int .u8), (.int .u8), (.int .u8), (.int .u8), (.int .u8), (.int .u8), (.int .u8), (.int .u8), (.int .u8), (.int .u8), (.int .u8), (.int .u8), (.int .u8)]] K (.seq .leaf (.seq .leaf .leaf)) [(Value.int .i64 a0)] (by kernel_rfl) w ((e_config_Base_1 a0 w K).mpr h)

end Go.Proofs
