import Derived.Test.YtjejhaefbhbghaaG19p
import Derived.Test.YtjejhaefbhbghaaG19c
import Derived.Test.YtjejhaefbhbghaaG19d
namespace Go.Proofs
open Gp
set_option maxRecDepth 100000
set_option maxHeartbeats 4000000
/-- goosepond/goosepondlaw38.ViewEmpty -/
abbrev n_law38_ViewEmpty : FuncId := 7
def c_law38_ViewEmpty (a0_0 : Int) (a0_1 : Int) (a0_2 : Int) (a0_3 : Int) (a0_4 : Int) (a0_5 : Int) (a0_6 : Int) (a0_7 : Int) (a0_8 : Int) (a0_9 : Int) (a0_10 : Int) (a0_11 : Int) (a0_12 : Int) (a0_13 : Int) (a0_14 : Int) (a0_15 : Int) (a0_16 : SliceV) (a0_17 : SliceV) (a0_18 : Int) (a0_19 : Int) (a0_20 : Int) (a0_21 : Int) (a0_22 : Int) (a0_23 : Int) (a0_24 : Int) (a0_25 : Int) (a0_26 : Int) (a0_27 : Int) (a0_28 : Int) (a0_29 : Int) (a0_30 : Int) (a0_31 : Int) (a0_32 : Int) (a0_33 : Int) (a0_34 : Int) (a0_35 : SliceV) (a1 : Int) (w : World) (K : Bool → World → Prop) : Prop :=
  Calls Try.prog 7 ⟨[(Value.agg ⟨((Value.int .u8 a0_0) :: (Value.int .u8 a0_1) :: (Value.int .u8 a0_2) :: (Value.int .u8 a0_3) :: (Value.int .u8 a0_4) :: (Value.int .u8 a0_5) :: (Value.int .u8 a0_6) :: (Value.int .u8 a0_7) :: (Value.int .u8 a0_8) :: (Value.int .u8 a0_9) :: (Value.int .u8 a0_10) :: (Value.int .u8 a0_11) :: (Value.int .u8 a0_12) :: (Value.int .u8 a0_13) :: (Value.int .u8 a0_14) :: (Value.int .u8 a0_15) :: (Value.slice a0_16.a a0_16.len a0_16.cap) :: (Value.slice a0_17.a a0_17.len a0_17.cap) :: (Value.int .i64 a0_18) :: (Value.int .i64 a0_19) :: (Value.int .i64 a0_20) :: (Value.int .i64 a0_21) :: (Value.int .i64 a0_22) :: (Value.int .i64 a0_23) :: (Value.int .i64 a0_24) :: (Value.int .i64 a0_25) :: (Value.int .i64 a0_26) :: (Value.int .i64 a0_27) :: (Value.int .i64 a0_28) :: (Value.int .i64 a0_29) :: (Value.int .i64 a0_30) :: (Value.int .i64 a0_31) :: (Value.int .i64 a0_32) :: (Value.int .i64 a0_33) :: (Value.int .i64 a0_34) :: (Value.slice a0_35.a a0_35.len a0_35.cap) :: [])⟩), (Value.int .i64 a1)]⟩ w fun e w' => ∃ y107 : Bool, e = .returned (Value.bool y107) ∧ K y107 w'
theorem cm_law38_ViewEmpty {a0_0 a0_1 a0_2 a0_3 a0_4 a0_5 a0_6 a0_7 a0_8 a0_9 a0_10 a0_11 a0_12 a0_13 a0_14 a0_15 a0_16 a0_17 a0_18 a0_19 a0_20 a0_21 a0_22 a0_23 a0_24 a0_25 a0_26 a0_27 a0_28 a0_29 a0_30 a0_31 a0_32 a0_33 a0_34 a0_35 a1 w K K'} (h : c_law38_ViewEmpty a0_0 a0_1 a0_2 a0_3 a0_4 a0_5 a0_6 a0_7 a0_8 a0_9 a0_10 a0_11 a0_12 a0_13 a0_14 a0_15 a0_16 a0_17 a0_18 a0_19 a0_20 a0_21 a0_22 a0_23 a0_24 a0_25 a0_26 a0_27 a0_28 a0_29 a0_30 a0_31 a0_32 a0_33 a0_34 a0_35 a1 w K) (hk : ∀ x0 w', K x0 w' → K' x0 w') : c_law38_ViewEmpty a0_0 a0_1 a0_2 a0_3 a0_4 a0_5 a0_6 a0_7 a0_8 a0_9 a0_10 a0_11 a0_12 a0_13 a0_14 a0_15 a0_16 a0_17 a0_18 a0_19 a0_20 a0_21 a0_22 a0_23 a0_24 a0_25 a0_26 a0_27 a0_28 a0_29 a0_30 a0_31 a0_32 a0_33 a0_34 a0_35 a1 w K' :=
  Calls.mono h fun e w' hh => by obtain ⟨x0, he, hx⟩ := hh; exact ⟨x0, he, hk _ _ hx⟩

/-- goosepond/goosepondlaw38.ViewOwns -/
abbrev n_law38_ViewOwns : FuncId := 8
def c_law38_ViewOwns (a0_0 : Int) (a0_1 : Int) (a0_2 : Int) (a0_3 : Int) (a0_4 : Int) (a0_5 : Int) (a0_6 : Int) (a0_7 : Int) (a0_8 : Int) (a0_9 : Int) (a0_10 : Int) (a0_11 : Int) (a0_12 : Int) (a0_13 : Int) (a0_14 : Int) (a0_15 : Int) (a0_16 : SliceV) (a0_17 : SliceV) (a0_18 : Int) (a0_19 : Int) (a0_20 : Int) (a0_21 : Int) (a0_22 : Int) (a0_23 : Int) (a0_24 : Int) (a0_25 : Int) (a0_26 : Int) (a0_27 : Int) (a0_28 : Int) (a0_29 : Int) (a0_30 : Int) (a0_31 : Int) (a0_32 : Int) (a0_33 : Int) (a0_34 : Int) (a0_35 : SliceV) (a1_0 : Int) (a1_1 : SliceV) (a1_2 : SliceV) (a1_3 : Int) (a1_4 : Int) (a1_5 : Int) (a1_6 : SliceV) (w : World) (K : Bool → World → Prop) : Prop :=
  Calls Try.prog 8 ⟨[(Value.agg ⟨((Value.int .u8 a0_0) :: (Value.int .u8 a0_1) :: (Value.int .u8 a0_2) :: (Value.int .u8 a0_3) :: (Value.int .u8 a0_4) :: (Value.int .u8 a0_5) :: (Value.int .u8 a0_6) :: (Value.int .u8 a0_7) :: (Value.int .u8 a0_8) :: (Value.int .u8 a0_9) :: (Value.int .u8 a0_10) :: (Value.int .u8 a0_11) :: (Value.int .u8 a0_12) :: (Value.int .u8 a0_13) :: (Value.int .u8 a0_14) :: (Value.int .u8 a0_15) :: (Value.slice a0_16.a a0_16.len a0_16.cap) :: (Value.slice a0_17.a a0_17.len a0_17.cap) :: (Value.int .i64 a0_18) :: (Value.int .i64 a0_19) :: (Value.int .i64 a0_20) :: (Value.int .i64 a0_21) :: (Value.int .i64 a0_22) :: (Value.int .i64 a0_23) :: (Value.int .i64 a0_24) :: (Value.int .i64 a0_25) :: (Value.int .i64 a0_26) :: (Value.int .i64 a0_27) :: (Value.int .i64 a0_28) :: (Value.int .i64 a0_29) :: (Value.int .i64 a0_30) :: (Value.int .i64 a0_31) :: (Value.int .i64 a0_32) :: (Value.int .i64 a0_33) :: (Value.int .i64 a0_34) :: (Value.slice a0_35.a a0_35.len a0_35.cap) :: [])⟩), (Value.agg ⟨[(Value.int .i64 a1_0), (Value.slice a1_1.a a1_1.len a1_1.cap), (Value.slice a1_2.a a1_2.len a1_2.cap), (Value.int .i64 a1_3), (Value.int .i64 a1_4), (Value.int .i64 a1_5), (Value.slice a1_6.a a1_6.len a1_6.cap)]⟩)]⟩ w fun e w' => ∃ y152 : Bool, e = .returned (Value.bool y152) ∧ K y152 w'
theorem cm_law38_ViewOwns {a0_0 a0_1 a0_2 a0_3 a0_4 a0_5 a0_6 a0_7 a0_8 a0_9 a0_10 a0_11 a0_12 a0_13 a0_14 a0_15 a0_16 a0_17 a0_18 a0_19 a0_20 a0_21 a0_22 a0_23 a0_24 a0_25 a0_26 a0_27 a0_28 a0_29 a0_30 a0_31 a0_32 a0_33 a0_34 a0_35 a1_0 a1_1 a1_2 a1_3 a1_4 a1_5 a1_6 w K K'} (h : c_law38_ViewOwns a0_0 a0_1 a0_2 a0_3 a0_4 a0_5 a0_6 a0_7 a0_8 a0_9 a0_10 a0_11 a0_12 a0_13 a0_14 a0_15 a0_16 a0_17 a0_18 a0_19 a0_20 a0_21 a0_22 a0_23 a0_24 a0_25 a0_26 a0_27 a0_28 a0_29 a0_30 a0_31 a0_32 a0_33 a0_34 a0_35 a1_0 a1_1 a1_2 a1_3 a1_4 a1_5 a1_6 w K) (hk : ∀ x0 w', K x0 w' → K' x0 w') : c_law38_ViewOwns a0_0 a0_1 a0_2 a0_3 a0_4 a0_5 a0_6 a0_7 a0_8 a0_9 a0_10 a0_11 a0_12 a0_13 a0_14 a0_15 a0_16 a0_17 a0_18 a0_19 a0_20 a0_21 a0_22 a0_23 a0_24 a0_25 a0_26 a0_27 a0_28 a0_29 a0_30 a0_31 a0_32 a0_33 a0_34 a0_35 a1_0 a1_1 a1_2 a1_3 a1_4 a1_5 a1_6 w K' :=
  Calls.mono h fun e w' hh => by obtain ⟨x0, he, hx⟩ := hh; exact ⟨x0, he, hk _ _ hx⟩

/-- goosepond/goosepondplain.Right -/
abbrev n_plain_Right : FuncId := 22
def c_plain_Right (a0_0 : Int) (a0_1 : Int) (a0_2 : Int) (a0_3 : Int) (a0_4 : Int) (a0_5 : Int) (a0_6 : Int) (a0_7 : Int) (a0_8 : Int) (a0_9 : Int) (a0_10 : Int) (a0_11 : Int) (a0_12 : Int) (a0_13 : Int) (a0_14 : Int) (a0_15 : Int) (a0_16 : SliceV) (a0_17 : SliceV) (a0_18 : Int) (a0_19 : Int) (a0_20 : Int) (a0_21 : Int) (a0_22 : Int) (a0_23 : Int) (a0_24 : Int) (a0_25 : Int) (a0_26 : Int) (a0_27 : Int) (a0_28 : Int) (a0_29 : Int) (a0_30 : Int) (a0_31 : Int) (a0_32 : Int) (a0_33 : Int) (a0_34 : Int) (a0_35 : SliceV) (w : World) (K : Bool → World → Prop) : Prop :=
  Calls Try.prog 22 ⟨[(Value.agg ⟨((Value.int .u8 a0_0) :: (Value.int .u8 a0_1) :: (Value.int .u8 a0_2) :: (Value.int .u8 a0_3) :: (Value.int .u8 a0_4) :: (Value.int .u8 a0_5) :: (Value.int .u8 a0_6) :: (Value.int .u8 a0_7) :: (Value.int .u8 a0_8) :: (Value.int .u8 a0_9) :: (Value.int .u8 a0_10) :: (Value.int .u8 a0_11) :: (Value.int .u8 a0_12) :: (Value.int .u8 a0_13) :: (Value.int .u8 a0_14) :: (Value.int .u8 a0_15) :: (Value.slice a0_16.a a0_16.len a0_16.cap) :: (Value.slice a0_17.a a0_17.len a0_17.cap) :: (Value.int .i64 a0_18) :: (Value.int .i64 a0_19) :: (Value.int .i64 a0_20) :: (Value.int .i64 a0_21) :: (Value.int .i64 a0_22) :: (Value.int .i64 a0_23) :: (Value.int .i64 a0_24) :: (Value.int .i64 a0_25) :: (Value.int .i64 a0_26) :: (Value.int .i64 a0_27) :: (Value.int .i64 a0_28) :: (Value.int .i64 a0_29) :: (Value.int .i64 a0_30) :: (Value.int .i64 a0_31) :: (Value.int .i64 a0_32) :: (Value.int .i64 a0_33) :: (Value.int .i64 a0_34) :: (Value.slice a0_35.a a0_35.len a0_35.cap) :: [])⟩)]⟩ w fun e w' => ∃ y83 : Bool, e = .returned (Value.bool y83) ∧ K y83 w'
theorem cm_plain_Right {a0_0 a0_1 a0_2 a0_3 a0_4 a0_5 a0_6 a0_7 a0_8 a0_9 a0_10 a0_11 a0_12 a0_13 a0_14 a0_15 a0_16 a0_17 a0_18 a0_19 a0_20 a0_21 a0_22 a0_23 a0_24 a0_25 a0_26 a0_27 a0_28 a0_29 a0_30 a0_31 a0_32 a0_33 a0_34 a0_35 w K K'} (h : c_plain_Right a0_0 a0_1 a0_2 a0_3 a0_4 a0_5 a0_6 a0_7 a0_8 a0_9 a0_10 a0_11 a0_12 a0_13 a0_14 a0_15 a0_16 a0_17 a0_18 a0_19 a0_20 a0_21 a0_22 a0_23 a0_24 a0_25 a0_26 a0_27 a0_28 a0_29 a0_30 a0_31 a0_32 a0_33 a0_34 a0_35 w K) (hk : ∀ x0 w', K x0 w' → K' x0 w') : c_plain_Right a0_0 a0_1 a0_2 a0_3 a0_4 a0_5 a0_6 a0_7 a0_8 a0_9 a0_10 a0_11 a0_12 a0_13 a0_14 a0_15 a0_16 a0_17 a0_18 a0_19 a0_20 a0_21 a0_22 a0_23 a0_24 a0_25 a0_26 a0_27 a0_28 a0_29 a0_30 a0_31 a0_32 a0_33 a0_34 a0_35 w K' :=
  Calls.mono h fun e w' hh => by obtain ⟨x0, he, hx⟩ := hh; exact ⟨x0, he, hk _ _ hx⟩

/-- goosepond/goosepondlaw38.awake -/
abbrev n_law38_awake : FuncId := 23
def c_law38_awake  (w : World) (K : Bool → World → Prop) : Prop :=
  Calls Try.prog 23 ⟨[]⟩ w fun e w' => ∃ y97 : Bool, e = .returned (Value.bool y97) ∧ K y97 w'
theorem cm_law38_awake { w K K'} (h : c_law38_awake  w K) (hk : ∀ x0 w', K x0 w' → K' x0 w') : c_law38_awake  w K' :=
  Calls.mono h fun e w' hh => by obtain ⟨x0, he, hx⟩ := hh; exact ⟨x0, he, hk _ _ hx⟩

/-- goosepond/view.Within -/
abbrev n_view_Within : FuncId := 24
def c_view_Within (a0_0 : Int) (a0_1 : Int) (a0_2 : Int) (a0_3 : Int) (a0_4 : Int) (a0_5 : Int) (a0_6 : Int) (a0_7 : Int) (a0_8 : Int) (a0_9 : Int) (a0_10 : Int) (a0_11 : Int) (a0_12 : Int) (a0_13 : Int) (a0_14 : Int) (a0_15 : Int) (a0_16 : SliceV) (a0_17 : SliceV) (a0_18 : Int) (a0_19 : Int) (a0_20 : Int) (a0_21 : Int) (a0_22 : Int) (a0_23 : Int) (a0_24 : Int) (a0_25 : Int) (a0_26 : Int) (a0_27 : Int) (a0_28 : Int) (a0_29 : Int) (a0_30 : Int) (a0_31 : Int) (a0_32 : Int) (a0_33 : Int) (a0_34 : Int) (a0_35 : SliceV) (a1_0 : Int) (a1_1 : SliceV) (a1_2 : SliceV) (a1_3 : Int) (a1_4 : Int) (a1_5 : Int) (a1_6 : SliceV) (w : World) (K : Int → World → Prop) : Prop :=
  Calls Try.prog 24 ⟨[(Value.agg ⟨((Value.int .u8 a0_0) :: (Value.int .u8 a0_1) :: (Value.int .u8 a0_2) :: (Value.int .u8 a0_3) :: (Value.int .u8 a0_4) :: (Value.int .u8 a0_5) :: (Value.int .u8 a0_6) :: (Value.int .u8 a0_7) :: (Value.int .u8 a0_8) :: (Value.int .u8 a0_9) :: (Value.int .u8 a0_10) :: (Value.int .u8 a0_11) :: (Value.int .u8 a0_12) :: (Value.int .u8 a0_13) :: (Value.int .u8 a0_14) :: (Value.int .u8 a0_15) :: (Value.slice a0_16.a a0_16.len a0_16.cap) :: (Value.slice a0_17.a a0_17.len a0_17.cap) :: (Value.int .i64 a0_18) :: (Value.int .i64 a0_19) :: (Value.int .i64 a0_20) :: (Value.int .i64 a0_21) :: (Value.int .i64 a0_22) :: (Value.int .i64 a0_23) :: (Value.int .i64 a0_24) :: (Value.int .i64 a0_25) :: (Value.int .i64 a0_26) :: (Value.int .i64 a0_27) :: (Value.int .i64 a0_28) :: (Value.int .i64 a0_29) :: (Value.int .i64 a0_30) :: (Value.int .i64 a0_31) :: (Value.int .i64 a0_32) :: (Value.int .i64 a0_33) :: (Value.int .i64 a0_34) :: (Value.slice a0_35.a a0_35.len a0_35.cap) :: [])⟩), (Value.agg ⟨[(Value.int .i64 a1_0), (Value.slice a1_1.a a1_1.len a1_1.cap), (Value.slice a1_2.a a1_2.len a1_2.cap), (Value.int .i64 a1_3), (Value.int .i64 a1_4), (Value.int .i64 a1_5), (Value.slice a1_6.a a1_6.len a1_6.cap)]⟩)]⟩ w fun e w' => ∃ y188 : Int, e = .returned (Value.int .i64 y188) ∧ K y188 w'
theorem cm_view_Within {a0_0 a0_1 a0_2 a0_3 a0_4 a0_5 a0_6 a0_7 a0_8 a0_9 a0_10 a0_11 a0_12 a0_13 a0_14 a0_15 a0_16 a0_17 a0_18 a0_19 a0_20 a0_21 a0_22 a0_23 a0_24 a0_25 a0_26 a0_27 a0_28 a0_29 a0_30 a0_31 a0_32 a0_33 a0_34 a0_35 a1_0 a1_1 a1_2 a1_3 a1_4 a1_5 a1_6 w K K'} (h : c_view_Within a0_0 a0_1 a0_2 a0_3 a0_4 a0_5 a0_6 a0_7 a0_8 a0_9 a0_10 a0_11 a0_12 a0_13 a0_14 a0_15 a0_16 a0_17 a0_18 a0_19 a0_20 a0_21 a0_22 a0_23 a0_24 a0_25 a0_26 a0_27 a0_28 a0_29 a0_30 a0_31 a0_32 a0_33 a0_34 a0_35 a1_0 a1_1 a1_2 a1_3 a1_4 a1_5 a1_6 w K) (hk : ∀ x0 w', K x0 w' → K' x0 w') : c_view_Within a0_0 a0_1 a0_2 a0_3 a0_4 a0_5 a0_6 a0_7 a0_8 a0_9 a0_10 a0_11 a0_12 a0_13 a0_14 a0_15 a0_16 a0_17 a0_18 a0_19 a0_20 a0_21 a0_22 a0_23 a0_24 a0_25 a0_26 a0_27 a0_28 a0_29 a0_30 a0_31 a0_32 a0_33 a0_34 a0_35 a1_0 a1_1 a1_2 a1_3 a1_4 a1_5 a1_6 w K' :=
  Calls.mono h fun e w' hh => by obtain ⟨x0, he, hx⟩ := hh; exact ⟨x0, he, hk _ _ hx⟩

/-- goosepond/view.Injective -/
abbrev n_view_Injective : FuncId := 25
def c_view_Injective (a0_0 : Int) (a0_1 : SliceV) (a0_2 : SliceV) (a0_3 : Int) (a0_4 : Int) (a0_5 : Int) (a0_6 : SliceV) (w : World) (K : Bool → World → Prop) : Prop :=
  Calls Try.prog 25 ⟨[(Value.agg ⟨[(Value.int .i64 a0_0), (Value.slice a0_1.a a0_1.len a0_1.cap), (Value.slice a0_2.a a0_2.len a0_2.cap), (Value.int .i64 a0_3), (Value.int .i64 a0_4), (Value.int .i64 a0_5), (Value.slice a0_6.a a0_6.len a0_6.cap)]⟩)]⟩ w fun e w' => ∃ y17 : Bool, e = .returned (Value.bool y17) ∧ K y17 w'
theorem cm_view_Injective {a0_0 a0_1 a0_2 a0_3 a0_4 a0_5 a0_6 w K K'} (h : c_view_Injective a0_0 a0_1 a0_2 a0_3 a0_4 a0_5 a0_6 w K) (hk : ∀ x0 w', K x0 w' → K' x0 w') : c_view_Injective a0_0 a0_1 a0_2 a0_3 a0_4 a0_5 a0_6 w K' :=
  Calls.mono h fun e w' hh => by obtain ⟨x0, he, hx⟩ := hh; exact ⟨x0, he, hk _ _ hx⟩

/-- goosepond/goosepondlaw38.few -/
abbrev n_law38_few : FuncId := 26
def c_law38_few (a0_0 : Int) (a0_1 : SliceV) (a0_2 : SliceV) (a0_3 : Int) (a0_4 : Int) (a0_5 : Int) (a0_6 : SliceV) (w : World) (K : Bool → World → Prop) : Prop :=
  Calls Try.prog 26 ⟨[(Value.agg ⟨[(Value.int .i64 a0_0), (Value.slice a0_1.a a0_1.len a0_1.cap), (Value.slice a0_2.a a0_2.len a0_2.cap), (Value.int .i64 a0_3), (Value.int .i64 a0_4), (Value.int .i64 a0_5), (Value.slice a0_6.a a0_6.len a0_6.cap)]⟩)]⟩ w fun e w' => ∃ y9 : Bool, e = .returned (Value.bool y9) ∧ K y9 w'
theorem cm_law38_few {a0_0 a0_1 a0_2 a0_3 a0_4 a0_5 a0_6 w K K'} (h : c_law38_few a0_0 a0_1 a0_2 a0_3 a0_4 a0_5 a0_6 w K) (hk : ∀ x0 w', K x0 w' → K' x0 w') : c_law38_few a0_0 a0_1 a0_2 a0_3 a0_4 a0_5 a0_6 w K' :=
  Calls.mono h fun e w' hh => by obtain ⟨x0, he, hx⟩ := hh; exact ⟨x0, he, hk _ _ hx⟩

/-- goosepond/goosepondplain.Small -/
abbrev n_plain_Small : FuncId := 27
def c_plain_Small (a0_0 : Int) (a0_1 : Int) (a0_2 : Int) (a0_3 : Int) (a0_4 : Int) (a0_5 : Int) (a0_6 : Int) (a0_7 : Int) (a0_8 : Int) (a0_9 : Int) (a0_10 : Int) (a0_11 : Int) (a0_12 : Int) (a0_13 : Int) (a0_14 : Int) (a0_15 : Int) (a0_16 : SliceV) (a0_17 : SliceV) (a0_18 : Int) (a0_19 : Int) (a0_20 : Int) (a0_21 : Int) (a0_22 : Int) (a0_23 : Int) (a0_24 : Int) (a0_25 : Int) (a0_26 : Int) (a0_27 : Int) (a0_28 : Int) (a0_29 : Int) (a0_30 : Int) (a0_31 : Int) (a0_32 : Int) (a0_33 : Int) (a0_34 : Int) (a0_35 : SliceV) (w : World) (K : Bool → World → Prop) : Prop :=
  Calls Try.prog 27 ⟨[(Value.agg ⟨((Value.int .u8 a0_0) :: (Value.int .u8 a0_1) :: (Value.int .u8 a0_2) :: (Value.int .u8 a0_3) :: (Value.int .u8 a0_4) :: (Value.int .u8 a0_5) :: (Value.int .u8 a0_6) :: (Value.int .u8 a0_7) :: (Value.int .u8 a0_8) :: (Value.int .u8 a0_9) :: (Value.int .u8 a0_10) :: (Value.int .u8 a0_11) :: (Value.int .u8 a0_12) :: (Value.int .u8 a0_13) :: (Value.int .u8 a0_14) :: (Value.int .u8 a0_15) :: (Value.slice a0_16.a a0_16.len a0_16.cap) :: (Value.slice a0_17.a a0_17.len a0_17.cap) :: (Value.int .i64 a0_18) :: (Value.int .i64 a0_19) :: (Value.int .i64 a0_20) :: (Value.int .i64 a0_21) :: (Value.int .i64 a0_22) :: (Value.int .i64 a0_23) :: (Value.int .i64 a0_24) :: (Value.int .i64 a0_25) :: (Value.int .i64 a0_26) :: (Value.int .i64 a0_27) :: (Value.int .i64 a0_28) :: (Value.int .i64 a0_29) :: (Value.int .i64 a0_30) :: (Value.int .i64 a0_31) :: (Value.int .i64 a0_32) :: (Value.int .i64 a0_33) :: (Value.int .i64 a0_34) :: (Value.slice a0_35.a a0_35.len a0_35.cap) :: [])⟩)]⟩ w fun e w' => ∃ y9 : Bool, e = .returned (Value.bool y9) ∧ K y9 w'
theorem cm_plain_Small {a0_0 a0_1 a0_2 a0_3 a0_4 a0_5 a0_6 a0_7 a0_8 a0_9 a0_10 a0_11 a0_12 a0_13 a0_14 a0_15 a0_16 a0_17 a0_18 a0_19 a0_20 a0_21 a0_22 a0_23 a0_24 a0_25 a0_26 a0_27 a0_28 a0_29 a0_30 a0_31 a0_32 a0_33 a0_34 a0_35 w K K'} (h : c_plain_Small a0_0 a0_1 a0_2 a0_3 a0_4 a0_5 a0_6 a0_7 a0_8 a0_9 a0_10 a0_11 a0_12 a0_13 a0_14 a0_15 a0_16 a0_17 a0_18 a0_19 a0_20 a0_21 a0_22 a0_23 a0_24 a0_25 a0_26 a0_27 a0_28 a0_29 a0_30 a0_31 a0_32 a0_33 a0_34 a0_35 w K) (hk : ∀ x0 w', K x0 w' → K' x0 w') : c_plain_Small a0_0 a0_1 a0_2 a0_3 a0_4 a0_5 a0_6 a0_7 a0_8 a0_9 a0_10 a0_11 a0_12 a0_13 a0_14 a0_15 a0_16 a0_17 a0_18 a0_19 a0_20 a0_21 a0_22 a0_23 a0_24 a0_25 a0_26 a0_27 a0_28 a0_29 a0_30 a0_31 a0_32 a0_33 a0_34 a0_35 w K' :=
  Calls.mono h fun e w' hh => by obtain ⟨x0, he, hx⟩ := hh; exact ⟨x0, he, hk _ _ hx⟩

/-- goosepond/view.Owner -/
abbrev n_view_Owner : FuncId := 28
def c_view_Owner (a0_0 : Int) (a0_1 : SliceV) (a0_2 : SliceV) (a0_3 : Int) (a0_4 : Int) (a0_5 : Int) (a0_6 : SliceV) (a1_0 : Int) (a1_1 : Int) (a1_2 : Int) (w : World) (K : Int → Bool → World → Prop) : Prop :=
  Calls Try.prog 28 ⟨[(Value.agg ⟨[(Value.int .i64 a0_0), (Value.slice a0_1.a a0_1.len a0_1.cap), (Value.slice a0_2.a a0_2.len a0_2.cap), (Value.int .i64 a0_3), (Value.int .i64 a0_4), (Value.int .i64 a0_5), (Value.slice a0_6.a a0_6.len a0_6.cap)]⟩), (Value.agg ⟨[(Value.int .i64 a1_0), (Value.int .i64 a1_1), (Value.int .i64 a1_2)]⟩)]⟩ w fun e w' => ∃ y13 : Int, ∃ y14 : Bool, e = .returned (Value.tuple ⟨[(Value.int .i64 y13), (Value.bool y14)]⟩) ∧ K y13 y14 w'
theorem cm_view_Owner {a0_0 a0_1 a0_2 a0_3 a0_4 a0_5 a0_6 a1_0 a1_1 a1_2 w K K'} (h : c_view_Owner a0_0 a0_1 a0_2 a0_3 a0_4 a0_5 a0_6 a1_0 a1_1 a1_2 w K) (hk : ∀ x0 x1 w', K x0 x1 w' → K' x0 x1 w') : c_view_Owner a0_0 a0_1 a0_2 a0_3 a0_4 a0_5 a0_6 a1_0 a1_1 a1_2 w K' :=
  Calls.mono h fun e w' hh => by obtain ⟨x0, x1, he, hx⟩ := hh; exact ⟨x0, x1, he, hk _ _ _ hx⟩

/-- goosepond/view.Within$1 -/
abbrev n_view_Within_1 : FuncId := 48
def c_view_Within_1 (a0_0 : Int) (a0_1 : Int) (a0_2 : Int) (a0_3 : Int) (a0_4 : Int) (f0 : Addr) (w : World) (K : Bool → World → Prop) : Prop :=
  Calls Try.prog 48 ⟨[(Value.agg ⟨[(Value.int .i64 a0_0), (Value.int .i64 a0_1), (Value.int .i64 a0_2), (Value.int .i64 a0_3), (Value.int .i64 a0_4)]⟩), (Value.pointer (some f0))]⟩ w fun e w' => ∃ y9 : Bool, e = .returned (Value.bool y9) ∧ K y9 w'
theorem cm_view_Within_1 {a0_0 a0_1 a0_2 a0_3 a0_4 f0 w K K'} (h : c_view_Within_1 a0_0 a0_1 a0_2 a0_3 a0_4 f0 w K) (hk : ∀ x0 w', K x0 w' → K' x0 w') : c_view_Within_1 a0_0 a0_1 a0_2 a0_3 a0_4 f0 w K' :=
  Calls.mono h fun e w' hh => by obtain ⟨x0, he, hx⟩ := hh; exact ⟨x0, he, hk _ _ hx⟩

/-- goosepond/view.greedy -/
abbrev n_view_greedy : FuncId := 49
def c_view_greedy (a0_0 : Int) (a0_1 : Int) (a0_2 : Int) (a0_3 : Int) (a0_4 : Int) (a0_5 : Int) (a0_6 : Int) (a0_7 : Int) (a0_8 : Int) (a0_9 : Int) (a0_10 : Int) (a0_11 : Int) (a0_12 : Int) (a0_13 : Int) (a0_14 : Int) (a0_15 : Int) (a0_16 : SliceV) (a0_17 : SliceV) (a0_18 : Int) (a0_19 : Int) (a0_20 : Int) (a0_21 : Int) (a0_22 : Int) (a0_23 : Int) (a0_24 : Int) (a0_25 : Int) (a0_26 : Int) (a0_27 : Int) (a0_28 : Int) (a0_29 : Int) (a0_30 : Int) (a0_31 : Int) (a0_32 : Int) (a0_33 : Int) (a0_34 : Int) (a0_35 : SliceV) (a1_0 : Int) (a1_1 : SliceV) (a1_2 : SliceV) (a1_3 : Int) (a1_4 : Int) (a1_5 : Int) (a1_6 : SliceV) (w : World) (K : Bool → World → Prop) : Prop :=
  Calls Try.prog 49 ⟨[(Value.agg ⟨((Value.int .u8 a0_0) :: (Value.int .u8 a0_1) :: (Value.int .u8 a0_2) :: (Value.int .u8 a0_3) :: (Value.int .u8 a0_4) :: (Value.int .u8 a0_5) :: (Value.int .u8 a0_6) :: (Value.int .u8 a0_7) :: (Value.int .u8 a0_8) :: (Value.int .u8 a0_9) :: (Value.int .u8 a0_10) :: (Value.int .u8 a0_11) :: (Value.int .u8 a0_12) :: (Value.int .u8 a0_13) :: (Value.int .u8 a0_14) :: (Value.int .u8 a0_15) :: (Value.slice a0_16.a a0_16.len a0_16.cap) :: (Value.slice a0_17.a a0_17.len a0_17.cap) :: (Value.int .i64 a0_18) :: (Value.int .i64 a0_19) :: (Value.int .i64 a0_20) :: (Value.int .i64 a0_21) :: (Value.int .i64 a0_22) :: (Value.int .i64 a0_23) :: (Value.int .i64 a0_24) :: (Value.int .i64 a0_25) :: (Value.int .i64 a0_26) :: (Value.int .i64 a0_27) :: (Value.int .i64 a0_28) :: (Value.int .i64 a0_29) :: (Value.int .i64 a0_30) :: (Value.int .i64 a0_31) :: (Value.int .i64 a0_32) :: (Value.int .i64 a0_33) :: (Value.int .i64 a0_34) :: (Value.slice a0_35.a a0_35.len a0_35.cap) :: [])⟩), (Value.agg ⟨[(Value.int .i64 a1_0), (Value.slice a1_1.a a1_1.len a1_1.cap), (Value.slice a1_2.a a1_2.len a1_2.cap), (Value.int .i64 a1_3), (Value.int .i64 a1_4), (Value.int .i64 a1_5), (Value.slice a1_6.a a1_6.len a1_6.cap)]⟩)]⟩ w fun e w' => ∃ y31 : Bool, e = .returned (Value.bool y31) ∧ K y31 w'
theorem cm_view_greedy {a0_0 a0_1 a0_2 a0_3 a0_4 a0_5 a0_6 a0_7 a0_8 a0_9 a0_10 a0_11 a0_12 a0_13 a0_14 a0_15 a0_16 a0_17 a0_18 a0_19 a0_20 a0_21 a0_22 a0_23 a0_24 a0_25 a0_26 a0_27 a0_28 a0_29 a0_30 a0_31 a0_32 a0_33 a0_34 a0_35 a1_0 a1_1 a1_2 a1_3 a1_4 a1_5 a1_6 w K K'} (h : c_view_greedy a0_0 a0_1 a0_2 a0_3 a0_4 a0_5 a0_6 a0_7 a0_8 a0_9 a0_10 a0_11 a0_12 a0_13 a0_14 a0_15 a0_16 a0_17 a0_18 a0_19 a0_20 a0_21 a0_22 a0_23 a0_24 a0_25 a0_26 a0_27 a0_28 a0_29 a0_30 a0_31 a0_32 a0_33 a0_34 a0_35 a1_0 a1_1 a1_2 a1_3 a1_4 a1_5 a1_6 w K) (hk : ∀ x0 w', K x0 w' → K' x0 w') : c_view_greedy a0_0 a0_1 a0_2 a0_3 a0_4 a0_5 a0_6 a0_7 a0_8 a0_9 a0_10 a0_11 a0_12 a0_13 a0_14 a0_15 a0_16 a0_17 a0_18 a0_19 a0_20 a0_21 a0_22 a0_23 a0_24 a0_25 a0_26 a0_27 a0_28 a0_29 a0_30 a0_31 a0_32 a0_33 a0_34 a0_35 a1_0 a1_1 a1_2 a1_3 a1_4 a1_5 a1_6 w K' :=
  Calls.mono h fun e w' hh => by obtain ⟨x0, he, hx⟩ := hh; exact ⟨x0, he, hk _ _ hx⟩

/-- goosepond/view.crowded -/
abbrev n_view_crowded : FuncId := 50
def c_view_crowded (a0_0 : Int) (a0_1 : Int) (a0_2 : Int) (a0_3 : Int) (a0_4 : Int) (a0_5 : Int) (a0_6 : Int) (a0_7 : Int) (a0_8 : Int) (a0_9 : Int) (a0_10 : Int) (a0_11 : Int) (a0_12 : Int) (a0_13 : Int) (a0_14 : Int) (a0_15 : Int) (a0_16 : SliceV) (a0_17 : SliceV) (a0_18 : Int) (a0_19 : Int) (a0_20 : Int) (a0_21 : Int) (a0_22 : Int) (a0_23 : Int) (a0_24 : Int) (a0_25 : Int) (a0_26 : Int) (a0_27 : Int) (a0_28 : Int) (a0_29 : Int) (a0_30 : Int) (a0_31 : Int) (a0_32 : Int) (a0_33 : Int) (a0_34 : Int) (a0_35 : SliceV) (a1_0 : Int) (a1_1 : SliceV) (a1_2 : SliceV) (a1_3 : Int) (a1_4 : Int) (a1_5 : Int) (a1_6 : SliceV) (w : World) (K : Bool → World → Prop) : Prop :=
  Calls Try.prog 50 ⟨[(Value.agg ⟨((Value.int .u8 a0_0) :: (Value.int .u8 a0_1) :: (Value.int .u8 a0_2) :: (Value.int .u8 a0_3) :: (Value.int .u8 a0_4) :: (Value.int .u8 a0_5) :: (Value.int .u8 a0_6) :: (Value.int .u8 a0_7) :: (Value.int .u8 a0_8) :: (Value.int .u8 a0_9) :: (Value.int .u8 a0_10) :: (Value.int .u8 a0_11) :: (Value.int .u8 a0_12) :: (Value.int .u8 a0_13) :: (Value.int .u8 a0_14) :: (Value.int .u8 a0_15) :: (Value.slice a0_16.a a0_16.len a0_16.cap) :: (Value.slice a0_17.a a0_17.len a0_17.cap) :: (Value.int .i64 a0_18) :: (Value.int .i64 a0_19) :: (Value.int .i64 a0_20) :: (Value.int .i64 a0_21) :: (Value.int .i64 a0_22) :: (Value.int .i64 a0_23) :: (Value.int .i64 a0_24) :: (Value.int .i64 a0_25) :: (Value.int .i64 a0_26) :: (Value.int .i64 a0_27) :: (Value.int .i64 a0_28) :: (Value.int .i64 a0_29) :: (Value.int .i64 a0_30) :: (Value.int .i64 a0_31) :: (Value.int .i64 a0_32) :: (Value.int .i64 a0_33) :: (Value.int .i64 a0_34) :: (Value.slice a0_35.a a0_35.len a0_35.cap) :: [])⟩), (Value.agg ⟨[(Value.int .i64 a1_0), (Value.slice a1_1.a a1_1.len a1_1.cap), (Value.slice a1_2.a a1_2.len a1_2.cap), (Value.int .i64 a1_3), (Value.int .i64 a1_4), (Value.int .i64 a1_5), (Value.slice a1_6.a a1_6.len a1_6.cap)]⟩)]⟩ w fun e w' => ∃ y24 : Bool, e = .returned (Value.bool y24) ∧ K y24 w'
theorem cm_view_crowded {a0_0 a0_1 a0_2 a0_3 a0_4 a0_5 a0_6 a0_7 a0_8 a0_9 a0_10 a0_11 a0_12 a0_13 a0_14 a0_15 a0_16 a0_17 a0_18 a0_19 a0_20 a0_21 a0_22 a0_23 a0_24 a0_25 a0_26 a0_27 a0_28 a0_29 a0_30 a0_31 a0_32 a0_33 a0_34 a0_35 a1_0 a1_1 a1_2 a1_3 a1_4 a1_5 a1_6 w K K'} (h : c_view_crowded a0_0 a0_1 a0_2 a0_3 a0_4 a0_5 a0_6 a0_7 a0_8 a0_9 a0_10 a0_11 a0_12 a0_13 a0_14 a0_15 a0_16 a0_17 a0_18 a0_19 a0_20 a0_21 a0_22 a0_23 a0_24 a0_25 a0_26 a0_27 a0_28 a0_29 a0_30 a0_31 a0_32 a0_33 a0_34 a0_35 a1_0 a1_1 a1_2 a1_3 a1_4 a1_5 a1_6 w K) (hk : ∀ x0 w', K x0 w' → K' x0 w') : c_view_crowded a0_0 a0_1 a0_2 a0_3 a0_4 a0_5 a0_6 a0_7 a0_8 a0_9 a0_10 a0_11 a0_12 a0_13 a0_14 a0_15 a0_16 a0_17 a0_18 a0_19 a0_20 a0_21 a0_22 a0_23 a0_24 a0_25 a0_26 a0_27 a0_28 a0_29 a0_30 a0_31 a0_32 a0_33 a0_34 a0_35 a1_0 a1_1 a1_2 a1_3 a1_4 a1_5 a1_6 w K' :=
  Calls.mono h fun e w' hh => by obtain ⟨x0, he, hx⟩ := hh; exact ⟨x0, he, hk _ _ hx⟩

/-- slices.ContainsFunc[[]goosepond/api.Binding,goosepond/api.Binding] -/
abbrev n_slices_ContainsFunc_api_Binding_api_Binding : FuncId := 51
def c_slices_ContainsFunc_api_Binding_api_Binding (a0 : SliceV) (a1 : Value) (w : World) (K : Bool → World → Prop) : Prop :=
  Calls Try.prog 51 ⟨[(Value.slice a0.a a0.len a0.cap), a1]⟩ w fun e w' => ∃ y5 : Bool, e = .returned (Value.bool y5) ∧ K y5 w'
theorem cm_slices_ContainsFunc_api_Binding_api_Binding {a0 a1 w K K'} (h : c_slices_ContainsFunc_api_Binding_api_Binding a0 a1 w K) (hk : ∀ x0 w', K x0 w' → K' x0 w') : c_slices_ContainsFunc_api_Binding_api_Binding a0 a1 w K' :=
  Calls.mono h fun e w' hh => by obtain ⟨x0, he, hx⟩ := hh; exact ⟨x0, he, hk _ _ hx⟩

/-- goosepond/view.foreign -/
abbrev n_view_foreign : FuncId := 52
def c_view_foreign (a0_0 : Int) (a0_1 : Int) (a0_2 : Int) (a0_3 : Int) (a0_4 : Int) (a0_5 : Int) (a0_6 : Int) (a0_7 : Int) (a0_8 : Int) (a0_9 : Int) (a0_10 : Int) (a0_11 : Int) (a0_12 : Int) (a0_13 : Int) (a0_14 : Int) (a0_15 : Int) (a0_16 : SliceV) (a0_17 : SliceV) (a0_18 : Int) (a0_19 : Int) (a0_20 : Int) (a0_21 : Int) (a0_22 : Int) (a0_23 : Int) (a0_24 : Int) (a0_25 : Int) (a0_26 : Int) (a0_27 : Int) (a0_28 : Int) (a0_29 : Int) (a0_30 : Int) (a0_31 : Int) (a0_32 : Int) (a0_33 : Int) (a0_34 : Int) (a0_35 : SliceV) (w : World) (K : Value → World → Prop) : Prop :=
  Calls Try.prog 52 ⟨[(Value.agg ⟨((Value.int .u8 a0_0) :: (Value.int .u8 a0_1) :: (Value.int .u8 a0_2) :: (Value.int .u8 a0_3) :: (Value.int .u8 a0_4) :: (Value.int .u8 a0_5) :: (Value.int .u8 a0_6) :: (Value.int .u8 a0_7) :: (Value.int .u8 a0_8) :: (Value.int .u8 a0_9) :: (Value.int .u8 a0_10) :: (Value.int .u8 a0_11) :: (Value.int .u8 a0_12) :: (Value.int .u8 a0_13) :: (Value.int .u8 a0_14) :: (Value.int .u8 a0_15) :: (Value.slice a0_16.a a0_16.len a0_16.cap) :: (Value.slice a0_17.a a0_17.len a0_17.cap) :: (Value.int .i64 a0_18) :: (Value.int .i64 a0_19) :: (Value.int .i64 a0_20) :: (Value.int .i64 a0_21) :: (Value.int .i64 a0_22) :: (Value.int .i64 a0_23) :: (Value.int .i64 a0_24) :: (Value.int .i64 a0_25) :: (Value.int .i64 a0_26) :: (Value.int .i64 a0_27) :: (Value.int .i64 a0_28) :: (Value.int .i64 a0_29) :: (Value.int .i64 a0_30) :: (Value.int .i64 a0_31) :: (Value.int .i64 a0_32) :: (Value.int .i64 a0_33) :: (Value.int .i64 a0_34) :: (Value.slice a0_35.a a0_35.len a0_35.cap) :: [])⟩)]⟩ w fun e w' => ∃ y4 : Value, e = .returned y4 ∧ K y4 w'
theorem cm_view_foreign {a0_0 a0_1 a0_2 a0_3 a0_4 a0_5 a0_6 a0_7 a0_8 a0_9 a0_10 a0_11 a0_12 a0_13 a0_14 a0_15 a0_16 a0_17 a0_18 a0_19 a0_20 a0_21 a0_22 a0_23 a0_24 a0_25 a0_26 a0_27 a0_28 a0_29 a0_30 a0_31 a0_32 a0_33 a0_34 a0_35 w K K'} (h : c_view_foreign a0_0 a0_1 a0_2 a0_3 a0_4 a0_5 a0_6 a0_7 a0_8 a0_9 a0_10 a0_11 a0_12 a0_13 a0_14 a0_15 a0_16 a0_17 a0_18 a0_19 a0_20 a0_21 a0_22 a0_23 a0_24 a0_25 a0_26 a0_27 a0_28 a0_29 a0_30 a0_31 a0_32 a0_33 a0_34 a0_35 w K) (hk : ∀ x0 w', K x0 w' → K' x0 w') : c_view_foreign a0_0 a0_1 a0_2 a0_3 a0_4 a0_5 a0_6 a0_7 a0_8 a0_9 a0_10 a0_11 a0_12 a0_13 a0_14 a0_15 a0_16 a0_17 a0_18 a0_19 a0_20 a0_21 a0_22 a0_23 a0_24 a0_25 a0_26 a0_27 a0_28 a0_29 a0_30 a0_31 a0_32 a0_33 a0_34 a0_35 w K' :=
  Calls.mono h fun e w' hh => by obtain ⟨x0, he, hx⟩ := hh; exact ⟨x0, he, hk _ _ hx⟩

/-- slices.ContainsFunc[[]goosepond/api.Session,goosepond/api.Session] -/
abbrev n_slices_ContainsFunc_api_Session_api_Session : FuncId := 53
def c_slices_ContainsFunc_api_Session_api_Session (a0 : SliceV) (a1 : Value) (w : World) (K : Bool → World → Prop) : Prop :=
  Calls Try.prog 53 ⟨[(Value.slice a0.a a0.len a0.cap), a1]⟩ w fun e w' => ∃ y5 : Bool, e = .returned (Value.bool y5) ∧ K y5 w'
theorem cm_slices_ContainsFunc_api_Session_api_Session {a0 a1 w K K'} (h : c_slices_ContainsFunc_api_Session_api_Session a0 a1 w K) (hk : ∀ x0 w', K x0 w' → K' x0 w') : c_slices_ContainsFunc_api_Session_api_Session a0 a1 w K' :=
  Calls.mono h fun e w' hh => by obtain ⟨x0, he, hx⟩ := hh; exact ⟨x0, he, hk _ _ hx⟩

/-- goosepond/view.once[goosepond/api.Inner] -/
abbrev n_view_once_api_Inner : FuncId := 54
def c_view_once_api_Inner (a0 : Value) (w : World) (K : Bool → World → Prop) : Prop :=
  Calls Try.prog 54 ⟨[a0]⟩ w fun e w' => ∃ y34 : Bool, e = .returned (Value.bool y34) ∧ K y34 w'
theorem cm_view_once_api_Inner {a0 w K K'} (h : c_view_once_api_Inner a0 w K) (hk : ∀ x0 w', K x0 w' → K' x0 w') : c_view_once_api_Inner a0 w K' :=
  Calls.mono h fun e w' hh => by obtain ⟨x0, he, hx⟩ := hh; exact ⟨x0, he, hk _ _ hx⟩

/-- goosepond/view.each[goosepond/api.Binding,goosepond/api.Inner] -/
abbrev n_view_each_api_Binding_api_Inner : FuncId := 55
def c_view_each_api_Binding_api_Inner (a0 : SliceV) (a1 : Value) (w : World) (K : Value → World → Prop) : Prop :=
  Calls Try.prog 55 ⟨[(Value.slice a0.a a0.len a0.cap), a1]⟩ w fun e w' => ∃ y7 : Value, e = .returned y7 ∧ K y7 w'
theorem cm_view_each_api_Binding_api_Inner {a0 a1 w K K'} (h : c_view_each_api_Binding_api_Inner a0 a1 w K) (hk : ∀ x0 w', K x0 w' → K' x0 w') : c_view_each_api_Binding_api_Inner a0 a1 w K' :=
  Calls.mono h fun e w' hh => by obtain ⟨x0, he, hx⟩ := hh; exact ⟨x0, he, hk _ _ hx⟩

/-- goosepond/view.inner -/
abbrev n_view_inner : FuncId := 56
def c_view_inner (a0_0 : Int) (a0_1 : Int) (a0_2 : Int) (a0_3 : Int) (a0_4 : Int) (a0_5 : Int) (a0_6 : Int) (a0_7 : Bool) (w : World) (K : Int → Int → Int → Int → World → Prop) : Prop :=
  Calls Try.prog 56 ⟨[(Value.agg ⟨[(Value.int .i64 a0_0), (Value.int .i64 a0_1), (Value.int .i64 a0_2), (Value.int .i64 a0_3), (Value.int .i64 a0_4), (Value.int .i64 a0_5), (Value.int .i64 a0_6), (Value.bool a0_7)]⟩)]⟩ w fun e w' => ∃ y15 : Int, ∃ y16 : Int, ∃ y17 : Int, ∃ y18 : Int, e = .returned (Value.agg ⟨[(Value.int .i64 y15), (Value.int .i64 y16), (Value.int .i64 y17), (Value.int .i64 y18)]⟩) ∧ K y15 y16 y17 y18 w'
theorem cm_view_inner {a0_0 a0_1 a0_2 a0_3 a0_4 a0_5 a0_6 a0_7 w K K'} (h : c_view_inner a0_0 a0_1 a0_2 a0_3 a0_4 a0_5 a0_6 a0_7 w K) (hk : ∀ x0 x1 x2 x3 w', K x0 x1 x2 x3 w' → K' x0 x1 x2 x3 w') : c_view_inner a0_0 a0_1 a0_2 a0_3 a0_4 a0_5 a0_6 a0_7 w K' :=
  Calls.mono h fun e w' hh => by obtain ⟨x0, x1, x2, x3, he, hx⟩ := hh; exact ⟨x0, x1, x2, x3, he, hk _ _ _ _ _ hx⟩

/-- goosepond/view.once[goosepond/api.Outer] -/
abbrev n_view_once_api_Outer : FuncId := 57
def c_view_once_api_Outer (a0 : Value) (w : World) (K : Bool → World → Prop) : Prop :=
  Calls Try.prog 57 ⟨[a0]⟩ w fun e w' => ∃ y32 : Bool, e = .returned (Value.bool y32) ∧ K y32 w'
theorem cm_view_once_api_Outer {a0 w K K'} (h : c_view_once_api_Outer a0 w K) (hk : ∀ x0 w', K x0 w' → K' x0 w') : c_view_once_api_Outer a0 w K' :=
  Calls.mono h fun e w' hh => by obtain ⟨x0, he, hx⟩ := hh; exact ⟨x0, he, hk _ _ hx⟩

/-- goosepond/view.each[goosepond/api.Binding,goosepond/api.Outer] -/
abbrev n_view_each_api_Binding_api_Outer : FuncId := 58
def c_view_each_api_Binding_api_Outer (a0 : SliceV) (a1 : Value) (w : World) (K : Value → World → Prop) : Prop :=
  Calls Try.prog 58 ⟨[(Value.slice a0.a a0.len a0.cap), a1]⟩ w fun e w' => ∃ y7 : Value, e = .returned y7 ∧ K y7 w'
theorem cm_view_each_api_Binding_api_Outer {a0 a1 w K K'} (h : c_view_each_api_Binding_api_Outer a0 a1 w K) (hk : ∀ x0 w', K x0 w' → K' x0 w') : c_view_each_api_Binding_api_Outer a0 a1 w K' :=
  Calls.mono h fun e w' hh => by obtain ⟨x0, he, hx⟩ := hh; exact ⟨x0, he, hk _ _ hx⟩

/-- goosepond/view.outer -/
abbrev n_view_outer : FuncId := 59
def c_view_outer (a0_0 : Int) (a0_1 : Int) (a0_2 : Int) (a0_3 : Int) (a0_4 : Int) (a0_5 : Int) (a0_6 : Int) (a0_7 : Bool) (w : World) (K : Int → Int → Int → World → Prop) : Prop :=
  Calls Try.prog 59 ⟨[(Value.agg ⟨[(Value.int .i64 a0_0), (Value.int .i64 a0_1), (Value.int .i64 a0_2), (Value.int .i64 a0_3), (Value.int .i64 a0_4), (Value.int .i64 a0_5), (Value.int .i64 a0_6), (Value.bool a0_7)]⟩)]⟩ w fun e w' => ∃ y13 : Int, ∃ y14 : Int, ∃ y15 : Int, e = .returned (Value.agg ⟨[(Value.int .i64 y13), (Value.int .i64 y14), (Value.int .i64 y15)]⟩) ∧ K y13 y14 y15 w'
theorem cm_view_outer {a0_0 a0_1 a0_2 a0_3 a0_4 a0_5 a0_6 a0_7 w K K'} (h : c_view_outer a0_0 a0_1 a0_2 a0_3 a0_4 a0_5 a0_6 a0_7 w K) (hk : ∀ x0 x1 x2 w', K x0 x1 x2 w' → K' x0 x1 x2 w') : c_view_outer a0_0 a0_1 a0_2 a0_3 a0_4 a0_5 a0_6 a0_7 w K' :=
  Calls.mono h fun e w' hh => by obtain ⟨x0, x1, x2, he, hx⟩ := hh; exact ⟨x0, x1, x2, he, hk _ _ _ _ hx⟩

/-- slices.IndexFunc[[]goosepond/api.Binding,goosepond/api.Binding] -/
abbrev n_slices_IndexFunc_api_Binding_api_Binding : FuncId := 60
def c_slices_IndexFunc_api_Binding_api_Binding (a0 : SliceV) (a1 : Value) (w : World) (K : Int → World → Prop) : Prop :=
  Calls Try.prog 60 ⟨[(Value.slice a0.a a0.len a0.cap), a1]⟩ w fun e w' => ∃ y18 : Int, e = .returned (Value.int .i64 y18) ∧ K y18 w'
theorem cm_slices_IndexFunc_api_Binding_api_Binding {a0 a1 w K K'} (h : c_slices_IndexFunc_api_Binding_api_Binding a0 a1 w K) (hk : ∀ x0 w', K x0 w' → K' x0 w') : c_slices_IndexFunc_api_Binding_api_Binding a0 a1 w K' :=
  Calls.mono h fun e w' hh => by obtain ⟨x0, he, hx⟩ := hh; exact ⟨x0, he, hk _ _ hx⟩

/-- goosepond/view.Owner$1 -/
abbrev n_view_Owner_1 : FuncId := 61
def c_view_Owner_1 (a0_0 : Int) (a0_1 : Int) (a0_2 : Int) (a0_3 : Int) (a0_4 : Int) (a0_5 : Int) (a0_6 : Int) (a0_7 : Bool) (f0 : Addr) (w : World) (K : Bool → World → Prop) : Prop :=
  Calls Try.prog 61 ⟨[(Value.agg ⟨[(Value.int .i64 a0_0), (Value.int .i64 a0_1), (Value.int .i64 a0_2), (Value.int .i64 a0_3), (Value.int .i64 a0_4), (Value.int .i64 a0_5), (Value.int .i64 a0_6), (Value.bool a0_7)]⟩), (Value.pointer (some f0))]⟩ w fun e w' => ∃ y10 : Bool, e = .returned (Value.bool y10) ∧ K y10 w'
theorem cm_view_Owner_1 {a0_0 a0_1 a0_2 a0_3 a0_4 a0_5 a0_6 a0_7 f0 w K K'} (h : c_view_Owner_1 a0_0 a0_1 a0_2 a0_3 a0_4 a0_5 a0_6 a0_7 f0 w K) (hk : ∀ x0 w', K x0 w' → K' x0 w') : c_view_Owner_1 a0_0 a0_1 a0_2 a0_3 a0_4 a0_5 a0_6 a0_7 f0 w K' :=
  Calls.mono h fun e w' hh => by obtain ⟨x0, he, hx⟩ := hh; exact ⟨x0, he, hk _ _ hx⟩

/-- goosepond/view.foreign$1 -/
abbrev n_view_foreign_1 : FuncId := 94
def c_view_foreign_1 (a0_0 : Int) (a0_1 : Int) (a0_2 : Int) (a0_3 : Int) (a0_4 : Int) (a0_5 : Int) (a0_6 : Int) (a0_7 : Bool) (f0 : Addr) (w : World) (K : Bool → World → Prop) : Prop :=
  Calls Try.prog 94 ⟨[(Value.agg ⟨[(Value.int .i64 a0_0), (Value.int .i64 a0_1), (Value.int .i64 a0_2), (Value.int .i64 a0_3), (Value.int .i64 a0_4), (Value.int .i64 a0_5), (Value.int .i64 a0_6), (Value.bool a0_7)]⟩), (Value.pointer (some f0))]⟩ w fun e w' => ∃ y15 : Bool, e = .returned (Value.bool y15) ∧ K y15 w'
theorem cm_view_foreign_1 {a0_0 a0_1 a0_2 a0_3 a0_4 a0_5 a0_6 a0_7 f0 w K K'} (h : c_view_foreign_1 a0_0 a0_1 a0_2 a0_3 a0_4 a0_5 a0_6 a0_7 f0 w K) (hk : ∀ x0 w', K x0 w' → K' x0 w') : c_view_foreign_1 a0_0 a0_1 a0_2 a0_3 a0_4 a0_5 a0_6 a0_7 f0 w K' :=
  Calls.mono h fun e w' hh => by obtain ⟨x0, he, hx⟩ := hh; exact ⟨x0, he, hk _ _ hx⟩

/-- slices.IndexFunc[[]goosepond/api.Session,goosepond/api.Session] -/
abbrev n_slices_IndexFunc_api_Session_api_Session : FuncId := 95
def c_slices_IndexFunc_api_Session_api_Session (a0 : SliceV) (a1 : Value) (w : World) (K : Int → World → Prop) : Prop :=
  Calls Try.prog 95 ⟨[(Value.slice a0.a a0.len a0.cap), a1]⟩ w fun e w' => ∃ y15 : Int, e = .returned (Value.int .i64 y15) ∧ K y15 w'
theorem cm_slices_IndexFunc_api_Session_api_Session {a0 a1 w K K'} (h : c_slices_IndexFunc_api_Session_api_Session a0 a1 w K) (hk : ∀ x0 w', K x0 w' → K' x0 w') : c_slices_IndexFunc_api_Session_api_Session a0 a1 w K' :=
  Calls.mono h fun e w' hh => by obtain ⟨x0, he, hx⟩ := hh; exact ⟨x0, he, hk _ _ hx⟩

/-- goosepond/view.each[goosepond/api.Binding,goosepond/api.Inner]$1 -/
abbrev n_view_each_api_Binding_api_Inner_1 : FuncId := 96
def c_view_each_api_Binding_api_Inner_1 (a0 : Value) (f0 : Addr) (f1 : Addr) (w : World) (K : World → Prop) : Prop :=
  Calls Try.prog 96 ⟨[a0, (Value.pointer (some f0)), (Value.pointer (some f1))]⟩ w fun e w' => e = .returned (Value.tuple ⟨[]⟩) ∧ K w'
theorem cm_view_each_api_Binding_api_Inner_1 {a0 f0 f1 w K K'} (h : c_view_each_api_Binding_api_Inner_1 a0 f0 f1 w K) (hk : ∀  w', K  w' → K'  w') : c_view_each_api_Binding_api_Inner_1 a0 f0 f1 w K' :=
  Calls.mono h fun e w' hh => by obtain ⟨he, hx⟩ := hh; exact ⟨he, hk  _ hx⟩

/-- goosepond/view.each[goosepond/api.Binding,goosepond/api.Outer]$1 -/
abbrev n_view_each_api_Binding_api_Outer_1 : FuncId := 97
def c_view_each_api_Binding_api_Outer_1 (a0 : Value) (f0 : Addr) (f1 : Addr) (w : World) (K : World → Prop) : Prop :=
  Calls Try.prog 97 ⟨[a0, (Value.pointer (some f0)), (Value.pointer (some f1))]⟩ w fun e w' => e = .returned (Value.tuple ⟨[]⟩) ∧ K w'
theorem cm_view_each_api_Binding_api_Outer_1 {a0 f0 f1 w K K'} (h : c_view_each_api_Binding_api_Outer_1 a0 f0 f1 w K) (hk : ∀  w', K  w' → K'  w') : c_view_each_api_Binding_api_Outer_1 a0 f0 f1 w K' :=
  Calls.mono h fun e w' hh => by obtain ⟨he, hx⟩ := hh; exact ⟨he, hk  _ hx⟩

/-- goosepond/goosepondlaw38.ViewEmpty -/
def s_law38_ViewEmpty (a0_0 : Int) (a0_1 : Int) (a0_2 : Int) (a0_3 : Int) (a0_4 : Int) (a0_5 : Int) (a0_6 : Int) (a0_7 : Int) (a0_8 : Int) (a0_9 : Int) (a0_10 : Int) (a0_11 : Int) (a0_12 : Int) (a0_13 : Int) (a0_14 : Int) (a0_15 : Int) (a0_16 : SliceV) (a0_17 : SliceV) (a0_18 : Int) (a0_19 : Int) (a0_20 : Int) (a0_21 : Int) (a0_22 : Int) (a0_23 : Int) (a0_24 : Int) (a0_25 : Int) (a0_26 : Int) (a0_27 : Int) (a0_28 : Int) (a0_29 : Int) (a0_30 : Int) (a0_31 : Int) (a0_32 : Int) (a0_33 : Int) (a0_34 : Int) (a0_35 : SliceV) (a1 : Int) (w : World) (K : Bool → World → Prop) : Prop :=
 (Al w (.cells ⟨((Value.int .u8 a0_0) :: (Value.int .u8 a0_1) :: (Value.int .u8 a0_2) :: (Value.int .u8 a0_3) :: (Value.int .u8 a0_4) :: (Value.int .u8 a0_5) :: (Value.int .u8 a0_6) :: (Value.int .u8 a0_7) :: (Value.int .u8 a0_8) :: (Value.int .u8 a0_9) :: (Value.int .u8 a0_10) :: (Value.int .u8 a0_11) :: (Value.int .u8 a0_12) :: (Value.int .u8 a0_13) :: (Value.int .u8 a0_14) :: (Value.int .u8 a0_15) :: (Value.slice a0_16.a a0_16.len a0_16.cap) :: (Value.slice a0_17.a a0_17.len a0_17.cap) :: (Value.int .i64 a0_18) :: (Value.int .i64 a0_19) :: (Value.int .i64 a0_20) :: (Value.int .i64 a0_21) :: (Value.int .i64 a0_22) :: (Value.int .i64 a0_23) :: (Value.int .i64 a0_24) :: (Value.int .i64 a0_25) :: (Value.int .i64 a0_26) :: (Value.int .i64 a0_27) :: (Value.int .i64 a0_28) :: (Value.int .i64 a0_29) :: (Value.int .i64 a0_30) :: (Value.int .i64 a0_31) :: (Value.int .i64 a0_32) :: (Value.int .i64 a0_33) :: (Value.int .i64 a0_34) :: (Value.slice a0_35.a a0_35.len a0_35.cap) :: [])⟩ 42) fun a4 w3 =>
 Ld (.int .u8) w3 (a4.add 0) fun x5 =>
 Ld (.int .u8) w3 (a4.add 1) fun x6 =>
 Ld (.int .u8) w3 (a4.add 2) fun x7 =>
 Ld (.int .u8) w3 (a4.add 3) fun x8 =>
 Ld (.int .u8) w3 (a4.add 4) fun x9 =>
 Ld (.int .u8) w3 (a4.add 5) fun x10 =>
 Ld (.int .u8) w3 (a4.add 6) fun x11 =>
 Ld (.int .u8) w3 (a4.add 7) fun x12 =>
 Ld (.int .u8) w3 (a4.add 8) fun x13 =>
 Ld (.int .u8) w3 (a4.add 9) fun x14 =>
 Ld (.int .u8) w3 (a4.add 10) fun x15 =>
 Ld (.int .u8) w3 (a4.add 11) fun x16 =>
 Ld (.int .u8) w3 (a4.add 12) fun x17 =>
 Ld (.int .u8) w3 (a4.add 13) fun x18 =>
 Ld (.int .u8) w3 (a4.add 14) fun x19 =>
 Ld (.int .u8) w3 (a4.add 15) fun x20 =>
 Ld .slice w3 (a4.add 16) fun x21 =>
 Ld .slice w3 (a4.add 17) fun x22 =>
 Ld (.int .i64) w3 (a4.add 18) fun x23 =>
 Ld (.int .i64) w3 (a4.add 19) fun x24 =>
 Ld (.int .i64) w3 (a4.add 20) fun x25 =>
 Ld (.int .i64) w3 (a4.add 21) fun x26 =>
 Ld (.int .i64) w3 (a4.add 22) fun x27 =>
 Ld (.int .i64) w3 (a4.add 23) fun x28 =>
 Ld (.int .i64) w3 (a4.add 24) fun x29 =>
 Ld (.int .i64) w3 (a4.add 25) fun x30 =>
 Ld (.int .i64) w3 (a4.add 26) fun x31 =>
 Ld (.int .i64) w3 (a4.add 27) fun x32 =>
 Ld (.int .i64) w3 (a4.add 28) fun x33 =>
 Ld (.int .i64) w3 (a4.add 29) fun x34 =>
 Ld (.int .i64) w3 (a4.add 30) fun x35 =>
 Ld (.int .i64) w3 (a4.add 31) fun x36 =>
 Ld (.int .i64) w3 (a4.add 32) fun x37 =>
 Ld (.int .i64) w3 (a4.add 33) fun x38 =>
 Ld (.int .i64) w3 (a4.add 34) fun x39 =>
 Ld .slice w3 (a4.add 35) fun x40 =>
 c_plain_Right x5 x6 x7 x8 x9 x10 x11 x12 x13 x14 x15 x16 x17 x18 x19 x20 x21 x22 x23 x24 x25 x26 x27 x28 x29 x30 x31 x32 x33 x34 x35 x36 x37 x38 x39 x40 w3 fun r41 w42 =>
 (bif (!r41) then
 c_law38_awake  w42 fun r43 w44 =>
 K r43 w44
 else
 Al w42 (.cells ⟨[(Value.int .i64 0), (Value.slice none 0 0), (Value.slice none 0 0), (Value.int .i64 0), (Value.int .i64 0), (Value.int .i64 0), (Value.slice none 0 0)]⟩ 55) fun a46 w45 =>
 StN [(Value.int .i64 a1), (Value.slice none 0 0), (Value.slice none 0 0), (Value.int .i64 0), (Value.int .i64 0), (Value.int .i64 0), (Value.slice none 0 0)] w45 a46 0 fun w47 =>
 let J48 : Bool → World → Prop := fun j49 w50 =>
 (K j49 w50)
 Ld (.int .u8) w47 (a4.add 0) fun x51 =>
 Ld (.int .u8) w47 (a4.add 1) fun x52 =>
 Ld (.int .u8) w47 (a4.add 2) fun x53 =>
 Ld (.int .u8) w47 (a4.add 3) fun x54 =>
 Ld (.int .u8) w47 (a4.add 4) fun x55 =>
 Ld (.int .u8) w47 (a4.add 5) fun x56 =>
 Ld (.int .u8) w47 (a4.add 6) fun x57 =>
 Ld (.int .u8) w47 (a4.add 7) fun x58 =>
 Ld (.int .u8) w47 (a4.add 8) fun x59 =>
 Ld (.int .u8) w47 (a4.add 9) fun x60 =>
 Ld (.int .u8) w47 (a4.add 10) fun x61 =>
 Ld (.int .u8) w47 (a4.add 11) fun x62 =>
 Ld (.int .u8) w47 (a4.add 12) fun x63 =>
 Ld (.int .u8) w47 (a4.add 13) fun x64 =>
 Ld (.int .u8) w47 (a4.add 14) fun x65 =>
 Ld (.int .u8) w47 (a4.add 15) fun x66 =>
 Ld .slice w47 (a4.add 16) fun x67 =>
 Ld .slice w47 (a4.add 17) fun x68 =>
 Ld (.int .i64) w47 (a4.add 18) fun x69 =>
 Ld (.int .i64) w47 (a4.add 19) fun x70 =>
 Ld (.int .i64) w47 (a4.add 20) fun x71 =>
 Ld (.int .i64) w47 (a4.add 21) fun x72 =>
 Ld (.int .i64) w47 (a4.add 22) fun x73 =>
 Ld (.int .i64) w47 (a4.add 23) fun x74 =>
 Ld (.int .i64) w47 (a4.add 24) fun x75 =>
 Ld (.int .i64) w47 (a4.add 25) fun x76 =>
 Ld (.int .i64) w47 (a4.add 26) fun x77 =>
 Ld (.int .i64) w47 (a4.add 27) fun x78 =>
 Ld (.int .i64) w47 (a4.add 28) fun x79 =>
 Ld (.int .i64) w47 (a4.add 29) fun x80 =>
 Ld (.int .i64) w47 (a4.add 30) fun x81 =>
 Ld (.int .i64) w47 (a4.add 31) fun x82 =>
 Ld (.int .i64) w47 (a4.add 32) fun x83 =>
 Ld (.int .i64) w47 (a4.add 33) fun x84 =>
 Ld (.int .i64) w47 (a4.add 34) fun x85 =>
 Ld .slice w47 (a4.add 35) fun x86 =>
 Ld (.int .i64) w47 (a46.add 0) fun x87 =>
 Ld .slice w47 (a46.add 1) fun x88 =>
 Ld .slice w47 (a46.add 2) fun x89 =>
 Ld (.int .i64) w47 (a46.add 3) fun x90 =>
 Ld (.int .i64) w47 (a46.add 4) fun x91 =>
 Ld (.int .i64) w47 (a46.add 5) fun x92 =>
 Ld .slice w47 (a46.add 6) fun x93 =>
 c_view_Within x51 x52 x53 x54 x55 x56 x57 x58 x59 x60 x61 x62 x63 x64 x65 x66 x67 x68 x69 x70 x71 x72 x73 x74 x75 x76 x77 x78 x79 x80 x81 x82 x83 x84 x85 x86 x87 x88 x89 x90 x91 x92 x93 w47 fun r94 w95 =>
 (bif (r94 == 0) then
 Ld (.int .i64) w95 (a46.add 0) fun x96 =>
 Ld .slice w95 (a46.add 1) fun x97 =>
 Ld .slice w95 (a46.add 2) fun x98 =>
 Ld (.int .i64) w95 (a46.add 3) fun x99 =>
 Ld (.int .i64) w95 (a46.add 4) fun x100 =>
 Ld (.int .i64) w95 (a46.add 5) fun x101 =>
 Ld .slice w95 (a46.add 6) fun x102 =>
 c_view_Injective x96 x97 x98 x99 x100 x101 x102 w95 fun r103 w104 =>
 (bif r103 then
 c_law38_awake  w104 fun r105 w106 =>
 J48 r105 w106
 else
 J48 false w104)
 else
 J48 false w95)))
theorem e_law38_ViewEmpty (a0_0 : Int) (a0_1 : Int) (a0_2 : Int) (a0_3 : Int) (a0_4 : Int) (a0_5 : Int) (a0_6 : Int) (a0_7 : Int) (a0_8 : Int) (a0_9 : Int) (a0_10 : Int) (a0_11 : Int) (a0_12 : Int) (a0_13 : Int) (a0_14 : Int) (a0_15 : Int) (a0_16 : SliceV) (a0_17 : SliceV) (a0_18 : Int) (a0_19 : Int) (a0_20 : Int) (a0_21 : Int) (a0_22 : Int) (a0_23 : Int) (a0_24 : Int) (a0_25 : Int) (a0_26 : Int) (a0_27 : Int) (a0_28 : Int) (a0_29 : Int) (a0_30 : Int) (a0_31 : Int) (a0_32 : Int) (a0_33 : Int) (a0_34 : Int) (a0_35 : SliceV) (a1 : Int) (w : World) (K : Bool → World → Prop) : den Try.prog 23 (bodyOf Try.f7) none (.seq .leaf (.seq (.seq .leaf (.cond (.seq .leaf .leaf) .leaf)) (.seq .leaf (.seq .leaf .leaf)))) (argEnv 0 [(Value.agg ⟨((Value.int .u8 a0_0) :: (Value.int .u8 a0_1) :: (Value.int .u8 a0_2) :: (Value.int .u8 a0_3) :: (Value.int .u8 a0_4) :: (Value.int .u8 a0_5) :: (Value.int .u8 a0_6) :: (Value.int .u8 a0_7) :: (Value.int .u8 a0_8) :: (Value.int .u8 a0_9) :: (Value.int .u8 a0_10) :: (Value.int .u8 a0_11) :: (Value.int .u8 a0_12) :: (Value.int .u8 a0_13) :: (Value.int .u8 a0_14) :: (Value.int .u8 a0_15) :: (Value.slice a0_16.a a0_16.len a0_16.cap) :: (Value.slice a0_17.a a0_17.len a0_17.cap) :: (Value.int .i64 a0_18) :: (Value.int .i64 a0_19) :: (Value.int .i64 a0_20) :: (Value.int .i64 a0_21) :: (Value.int .i64 a0_22) :: (Value.int .i64 a0_23) :: (Value.int .i64 a0_24) :: (Value.int .i64 a0_25) :: (Value.int .i64 a0_26) :: (Value.int .i64 a0_27) :: (Value.int .i64 a0_28) :: (Value.int .i64 a0_29) :: (Value.int .i64 a0_30) :: (Value.int .i64 a0_31) :: (Value.int .i64 a0_32) :: (Value.int .i64 a0_33) :: (Value.int .i64 a0_34) :: (Value.slice a0_35.a a0_35.len a0_35.cap) :: [])⟩), (Value.int .i64 a1)]) [] w (retK Try.prog [.tmp 4] [.one .bool] K) = s_law38_ViewEmpty a0_0 a0_1 a0_2 a0_3 a0_4 a0_5 a0_6 a0_7 a0_8 a0_9 a0_10 a0_11 a0_12 a0_13 a0_14 a0_15 a0_16 a0_17 a0_18 a0_19 a0_20 a0_21 a0_22 a0_23 a0_24 a0_25 a0_26 a0_27 a0_28 a0_29 a0_30 a0_31 a0_32 a0_33 a0_34 a0_35 a1 w K := by kernel_rfl
theorem ok_law38_ViewEmpty {a0_0 a0_1 a0_2 a0_3 a0_4 a0_5 a0_6 a0_7 a0_8 a0_9 a0_10 a0_11 a0_12 a0_13 a0_14 a0_15 a0_16 a0_17 a0_18 a0_19 a0_20 a0_21 a0_22 a0_23 a0_24 a0_25 a0_26 a0_27 a0_28 a0_29 a0_30 a0_31 a0_32 a0_33 a0_34 a0_35 a1 w K} (h : s_law38_ViewEmpty a0_0 a0_1 a0_2 a0_3 a0_4 a0_5 a0_6 a0_7 a0_8 a0_9 a0_10 a0_11 a0_12 a0_13 a0_14 a0_15 a0_16 a0_17 a0_18 a0_19 a0_20 a0_21 a0_22 a0_23 a0_24 a0_25 a0_26 a0_27 a0_28 a0_29 a0_30 a0_31 a0_32 a0_33 a0_34 a0_35 a1 w K) : c_law38_ViewEmpty a0_0 a0_1 a0_2 a0_3 a0_4 a0_5 a0_6 a0_7 a0_8 a0_9 a0_10 a0_11 a0_12 a0_13 a0_14 a0_15 a0_16 a0_17 a0_18 a0_19 a0_20 a0_21 a0_22 a0_23 a0_24 a0_25 a0_26 a0_27 a0_28 a0_29 a0_30 a0_31 a0_32 a0_33 a0_34 a0_35 a1 w K :=
  fn_sound pok Try.func7 (fn := Try.f7) (c := bodyOf Try.f7) (nt := 23) (by kernel_rfl) (by kernel_rfl) (rs := [.tmp 4]) (by kernel_rfl) [.one .bool] K (.seq .leaf (.seq (.seq .leaf (.cond (.seq .leaf .leaf) .leaf)) (.seq .leaf (.seq .leaf .leaf)))) [(Value.agg ⟨((Value.int .u8 a0_0) :: (Value.int .u8 a0_1) :: (Value.int .u8 a0_2) :: (Value.int .u8 a0_3) :: (Value.int .u8 a0_4) :: (Value.int .u8 a0_5) :: (Value.int .u8 a0_6) :: (Value.int .u8 a0_7) :: (Value.int .u8 a0_8) :: (Value.int .u8 a0_9) :: (Value.int .u8 a0_10) :: (Value.int .u8 a0_11) :: (Value.int .u8 a0_12) :: (Value.int .u8 a0_13) :: (Value.int .u8 a0_14) :: (Value.int .u8 a0_15) :: (Value.slice a0_16.a a0_16.len a0_16.cap) :: (Value.slice a0_17.a a0_17.len a0_17.cap) :: (Value.int .i64 a0_18) :: (Value.int .i64 a0_19) :: (Value.int .i64 a0_20) :: (Value.int .i64 a0_21) :: (Value.int .i64 a0_22) :: (Value.int .i64 a0_23) :: (Value.int .i64 a0_24) :: (Value.int .i64 a0_25) :: (Value.int .i64 a0_26) :: (Value.int .i64 a0_27) :: (Value.int .i64 a0_28) :: (Value.int .i64 a0_29) :: (Value.int .i64 a0_30) :: (Value.int .i64 a0_31) :: (Value.int .i64 a0_32) :: (Value.int .i64 a0_33) :: (Value.int .i64 a0_34) :: (Value.slice a0_35.a a0_35.len a0_35.cap) :: [])⟩), (Value.int .i64 a1)] (by kernel_rfl) w ((e_law38_ViewEmpty a0_0 a0_1 a0_2 a0_3 a0_4 a0_5 a0_6 a0_7 a0_8 a0_9 a0_10 a0_11 a0_12 a0_13 a0_14 a0_15 a0_16 a0_17 a0_18 a0_19 a0_20 a0_21 a0_22 a0_23 a0_24 a0_25 a0_26 a0_27 a0_28 a0_29 a0_30 a0_31 a0_32 a0_33 a0_34 a0_35 a1 w K).mpr h)

/-- goosepond/goosepondlaw38.ViewOwns -/
def s_law38_ViewOwns (a0_0 : Int) (a0_1 : Int) (a0_2 : Int) (a0_3 : Int) (a0_4 : Int) (a0_5 : Int) (a0_6 : Int) (a0_7 : Int) (a0_8 : Int) (a0_9 : Int) (a0_10 : Int) (a0_11 : Int) (a0_12 : Int) (a0_13 : Int) (a0_14 : Int) (a0_15 : Int) (a0_16 : SliceV) (a0_17 : SliceV) (a0_18 : Int) (a0_19 : Int) (a0_20 : Int) (a0_21 : Int) (a0_22 : Int) (a0_23 : Int) (a0_24 : Int) (a0_25 : Int) (a0_26 : Int) (a0_27 : Int) (a0_28 : Int) (a0_29 : Int) (a0_30 : Int) (a0_31 : Int) (a0_32 : Int) (a0_33 : Int) (a0_34 : Int) (a0_35 : SliceV) (a1_0 : Int) (a1_1 : SliceV) (a1_2 : SliceV) (a1_3 : Int) (a1_4 : Int) (a1_5 : Int) (a1_6 : SliceV) (w : World) (K : Bool → World → Prop) : Prop :=
 (Al w (.cells ⟨((Value.int .u8 a0_0) :: (Value.int .u8 a0_1) :: (Value.int .u8 a0_2) :: (Value.int .u8 a0_3) :: (Value.int .u8 a0_4) :: (Value.int .u8 a0_5) :: (Value.int .u8 a0_6) :: (Value.int .u8 a0_7) :: (Value.int .u8 a0_8) :: (Value.int .u8 a0_9) :: (Value.int .u8 a0_10) :: (Value.int .u8 a0_11) :: (Value.int .u8 a0_12) :: (Value.int .u8 a0_13) :: (Value.int .u8 a0_14) :: (Value.int .u8 a0_15) :: (Value.slice a0_16.a a0_16.len a0_16.cap) :: (Value.slice a0_17.a a0_17.len a0_17.cap) :: (Value.int .i64 a0_18) :: (Value.int .i64 a0_19) :: (Value.int .i64 a0_20) :: (Value.int .i64 a0_21) :: (Value.int .i64 a0_22) :: (Value.int .i64 a0_23) :: (Value.int .i64 a0_24) :: (Value.int .i64 a0_25) :: (Value.int .i64 a0_26) :: (Value.int .i64 a0_27) :: (Value.int .i64 a0_28) :: (Value.int .i64 a0_29) :: (Value.int .i64 a0_30) :: (Value.int .i64 a0_31) :: (Value.int .i64 a0_32) :: (Value.int .i64 a0_33) :: (Value.int .i64 a0_34) :: (Value.slice a0_35.a a0_35.len a0_35.cap) :: [])⟩ 42) fun a4 w3 =>
 Al w3 (.cells ⟨[(Value.int .i64 a1_0), (Value.slice a1_1.a a1_1.len a1_1.cap), (Value.slice a1_2.a a1_2.len a1_2.cap), (Value.int .i64 a1_3), (Value.int .i64 a1_4), (Value.int .i64 a1_5), (Value.slice a1_6.a a1_6.len a1_6.cap)]⟩ 55) fun a6 w5 =>
 let J7 : Bool → World → Prop := fun j8 w9 =>
 ((bif j8 then
 c_law38_awake  w9 fun r10 w11 =>
 K r10 w11
 else
 Ld .slice w9 (a6.add 1) fun x12 =>
 LoopP (S := Int × Unit) (fun s13 w14 next15 =>
 (bif (decide (s13.1 < (x12.len : Int))) then
 AtIx x12 8 s13.1 fun a16 =>
 Ld (.int .i64) w14 (a16.add 0) fun x17 =>
 Ld (.int .i64) w14 (a16.add 1) fun x18 =>
 Ld (.int .i64) w14 (a16.add 2) fun x19 =>
 Ld (.int .i64) w14 (a16.add 3) fun x20 =>
 Ld (.int .i64) w14 (a16.add 4) fun x21 =>
 Ld (.int .i64) w14 (a16.add 5) fun x22 =>
 Ld (.int .i64) w14 (a16.add 6) fun x23 =>
 Ld .bool w14 (a16.add 7) fun x24 =>
 Al w14 (.cells ⟨[(Value.int .i64 0), (Value.int .i64 0), (Value.int .i64 0), (Value.int .i64 0), (Value.int .i64 0), (Value.int .i64 0), (Value.int .i64 0), (Value.bool false)]⟩ 61) fun a26 w25 =>
 StN [(Value.int .i64 x17), (Value.int .i64 x18), (Value.int .i64 x19), (Value.int .i64 x20), (Value.int .i64 x21), (Value.int .i64 x22), (Value.int .i64 x23), (Value.bool x24)] w25 a26 0 fun w27 =>
 Ld (.int .i64) w27 (a6.add 0) fun x28 =>
 Ld .slice w27 (a6.add 1) fun x29 =>
 Ld .slice w27 (a6.add 2) fun x30 =>
 Ld (.int .i64) w27 (a6.add 3) fun x31 =>
 Ld (.int .i64) w27 (a6.add 4) fun x32 =>
 Ld (.int .i64) w27 (a6.add 5) fun x33 =>
 Ld .slice w27 (a6.add 6) fun x34 =>
 Ld (.int .i64) w27 ((a26.add 4).add 0) fun x35 =>
 Ld (.int .i64) w27 ((a26.add 4).add 1) fun x36 =>
 Ld (.int .i64) w27 ((a26.add 4).add 2) fun x37 =>
 c_view_Owner x28 x29 x30 x31 x32 x33 x34 x35 x36 x37 w27 fun r38 r39 w40 =>
 let J41 : Bool → Prop := fun j42 =>
 ((bif j42 then
 K false w40
 else
 next15 ((IntKind.i64.wrap (s13.1 + 1)), ()) w40))
 (bif (!r39) then
 J41 true
 else
 Ld (.int .i64) w40 a26 fun x43 =>
 J41 (r38 != x43))
 else
 let J44 : Bool → World → Prop := fun j45 w46 =>
 (K j45 w46)
 Ld .slice w14 (a6.add 1) fun x47 =>
 Ld (.int .i64) w14 (a4.add 21) fun x48 =>
 (bif (decide ((x47.len : Int) ≤ x48)) then
 Ld (.int .i64) w14 (a6.add 0) fun x49 =>
 Ld .slice w14 (a6.add 1) fun x50 =>
 Ld .slice w14 (a6.add 2) fun x51 =>
 Ld (.int .i64) w14 (a6.add 3) fun x52 =>
 Ld (.int .i64) w14 (a6.add 4) fun x53 =>
 Ld (.int .i64) w14 (a6.add 5) fun x54 =>
 Ld .slice w14 (a6.add 6) fun x55 =>
 c_view_Injective x49 x50 x51 x52 x53 x54 x55 w14 fun r56 w57 =>
 (bif r56 then
 c_law38_awake  w57 fun r58 w59 =>
 J44 r58 w59
 else
 J44 false w57)
 else
 J44 false w14))) (0, ()) w9))
 Ld (.int .i64) w5 (a6.add 0) fun x60 =>
 Ld .slice w5 (a6.add 1) fun x61 =>
 Ld .slice w5 (a6.add 2) fun x62 =>
 Ld (.int .i64) w5 (a6.add 3) fun x63 =>
 Ld (.int .i64) w5 (a6.add 4) fun x64 =>
 Ld (.int .i64) w5 (a6.add 5) fun x65 =>
 Ld .slice w5 (a6.add 6) fun x66 =>
 c_law38_few x60 x61 x62 x63 x64 x65 x66 w5 fun r67 w68 =>
 (bif (!r67) then
 J7 true w68
 else
 Ld (.int .u8) w68 (a4.add 0) fun x69 =>
 Ld (.int .u8) w68 (a4.add 1) fun x70 =>
 Ld (.int .u8) w68 (a4.add 2) fun x71 =>
 Ld (.int .u8) w68 (a4.add 3) fun x72 =>
 Ld (.int .u8) w68 (a4.add 4) fun x73 =>
 Ld (.int .u8) w68 (a4.add 5) fun x74 =>
 Ld (.int .u8) w68 (a4.add 6) fun x75 =>
 Ld (.int .u8) w68 (a4.add 7) fun x76 =>
 Ld (.int .u8) w68 (a4.add 8) fun x77 =>
 Ld (.int .u8) w68 (a4.add 9) fun x78 =>
 Ld (.int .u8) w68 (a4.add 10) fun x79 =>
 Ld (.int .u8) w68 (a4.add 11) fun x80 =>
 Ld (.int .u8) w68 (a4.add 12) fun x81 =>
 Ld (.int .u8) w68 (a4.add 13) fun x82 =>
 Ld (.int .u8) w68 (a4.add 14) fun x83 =>
 Ld (.int .u8) w68 (a4.add 15) fun x84 =>
 Ld .slice w68 (a4.add 16) fun x85 =>
 Ld .slice w68 (a4.add 17) fun x86 =>
 Ld (.int .i64) w68 (a4.add 18) fun x87 =>
 Ld (.int .i64) w68 (a4.add 19) fun x88 =>
 Ld (.int .i64) w68 (a4.add 20) fun x89 =>
 Ld (.int .i64) w68 (a4.add 21) fun x90 =>
 Ld (.int .i64) w68 (a4.add 22) fun x91 =>
 Ld (.int .i64) w68 (a4.add 23) fun x92 =>
 Ld (.int .i64) w68 (a4.add 24) fun x93 =>
 Ld (.int .i64) w68 (a4.add 25) fun x94 =>
 Ld (.int .i64) w68 (a4.add 26) fun x95 =>
 Ld (.int .i64) w68 (a4.add 27) fun x96 =>
 Ld (.int .i64) w68 (a4.add 28) fun x97 =>
 Ld (.int .i64) w68 (a4.add 29) fun x98 =>
 Ld (.int .i64) w68 (a4.add 30) fun x99 =>
 Ld (.int .i64) w68 (a4.add 31) fun x100 =>
 Ld (.int .i64) w68 (a4.add 32) fun x101 =>
 Ld (.int .i64) w68 (a4.add 33) fun x102 =>
 Ld (.int .i64) w68 (a4.add 34) fun x103 =>
 Ld .slice w68 (a4.add 35) fun x104 =>
 c_plain_Small x69 x70 x71 x72 x73 x74 x75 x76 x77 x78 x79 x80 x81 x82 x83 x84 x85 x86 x87 x88 x89 x90 x91 x92 x93 x94 x95 x96 x97 x98 x99 x100 x101 x102 x103 x104 w68 fun r105 w106 =>
 (bif (!r105) then
 J7 true w106
 else
 Ld (.int .u8) w106 (a4.add 0) fun x107 =>
 Ld (.int .u8) w106 (a4.add 1) fun x108 =>
 Ld (.int .u8) w106 (a4.add 2) fun x109 =>
 Ld (.int .u8) w106 (a4.add 3) fun x110 =>
 Ld (.int .u8) w106 (a4.add 4) fun x111 =>
 Ld (.int .u8) w106 (a4.add 5) fun x112 =>
 Ld (.int .u8) w106 (a4.add 6) fun x113 =>
 Ld (.int .u8) w106 (a4.add 7) fun x114 =>
 Ld (.int .u8) w106 (a4.add 8) fun x115 =>
 Ld (.int .u8) w106 (a4.add 9) fun x116 =>
 Ld (.int .u8) w106 (a4.add 10) fun x117 =>
 Ld (.int .u8) w106 (a4.add 11) fun x118 =>
 Ld (.int .u8) w106 (a4.add 12) fun x119 =>
 Ld (.int .u8) w106 (a4.add 13) fun x120 =>
 Ld (.int .u8) w106 (a4.add 14) fun x121 =>
 Ld (.int .u8) w106 (a4.add 15) fun x122 =>
 Ld .slice w106 (a4.add 16) fun x123 =>
 Ld .slice w106 (a4.add 17) fun x124 =>
 Ld (.int .i64) w106 (a4.add 18) fun x125 =>
 Ld (.int .i64) w106 (a4.add 19) fun x126 =>
 Ld (.int .i64) w106 (a4.add 20) fun x127 =>
 Ld (.int .i64) w106 (a4.add 21) fun x128 =>
 Ld (.int .i64) w106 (a4.add 22) fun x129 =>
 Ld (.int .i64) w106 (a4.add 23) fun x130 =>
 Ld (.int .i64) w106 (a4.add 24) fun x131 =>
 Ld (.int .i64) w106 (a4.add 25) fun x132 =>
 Ld (.int .i64) w106 (a4.add 26) fun x133 =>
 Ld (.int .i64) w106 (a4.add 27) fun x134 =>
 Ld (.int .i64) w106 (a4.add 28) fun x135 =>
 Ld (.int .i64) w106 (a4.add 29) fun x136 =>
 Ld (.int .i64) w106 (a4.add 30) fun x137 =>
 Ld (.int .i64) w106 (a4.add 31) fun x138 =>
 Ld (.int .i64) w106 (a4.add 32) fun x139 =>
 Ld (.int .i64) w106 (a4.add 33) fun x140 =>
 Ld (.int .i64) w106 (a4.add 34) fun x141 =>
 Ld .slice w106 (a4.add 35) fun x142 =>
 Ld (.int .i64) w106 (a6.add 0) fun x143 =>
 Ld .slice w106 (a6.add 1) fun x144 =>
 Ld .slice w106 (a6.add 2) fun x145 =>
 Ld (.int .i64) w106 (a6.add 3) fun x146 =>
 Ld (.int .i64) w106 (a6.add 4) fun x147 =>
 Ld (.int .i64) w106 (a6.add 5) fun x148 =>
 Ld .slice w106 (a6.add 6) fun x149 =>
 c_view_Within x107 x108 x109 x110 x111 x112 x113 x114 x115 x116 x117 x118 x119 x120 x121 x122 x123 x124 x125 x126 x127 x128 x129 x130 x131 x132 x133 x134 x135 x136 x137 x138 x139 x140 x141 x142 x143 x144 x145 x146 x147 x148 x149 w106 fun r150 w151 =>
 J7 (r150 != 0) w151)))
theorem e_law38_ViewOwns (a0_0 : Int) (a0_1 : Int) (a0_2 : Int) (a0_3 : Int) (a0_4 : Int) (a0_5 : Int) (a0_6 : Int) (a0_7 : Int) (a0_8 : Int) (a0_9 : Int) (a0_10 : Int) (a0_11 : Int) (a0_12 : Int) (a0_13 : Int) (a0_14 : Int) (a0_15 : Int) (a0_16 : SliceV) (a0_17 : SliceV) (a0_18 : Int) (a0_19 : Int) (a0_20 : Int) (a0_21 : Int) (a0_22 : Int) (a0_23 : Int) (a0_24 : Int) (a0_25 : Int) (a0_26 : Int) (a0_27 : Int) (a0_28 : Int) (a0_29 : Int) (a0_30 : Int) (a0_31 : Int) (a0_32 : Int) (a0_33 : Int) (a0_34 : Int) (a0_35 : SliceV) (a1_0 : Int) (a1_1 : SliceV) (a1_2 : SliceV) (a1_3 : Int) (a1_4 : Int) (a1_5 : Int) (a1_6 : SliceV) (w : World) (K : Bool → World → Prop) : den Try.prog 61 (bodyOf Try.f8) none (.seq .leaf (.seq (.seq .leaf (.cond (.seq .leaf .leaf) .leaf)) (.seq (.seq .leaf (.blk (.loop [(27, (.int .i64))] (.seq .leaf (.seq (.cond .leaf .leaf) (.seq (.blk (.seq .leaf (.seq .leaf (.seq .leaf (.cond (.seq .leaf .leaf) .leaf))))) .leaf)))))) (.seq .leaf .leaf)))) (argEnv 0 [(Value.agg ⟨((Value.int .u8 a0_0) :: (Value.int .u8 a0_1) :: (Value.int .u8 a0_2) :: (Value.int .u8 a0_3) :: (Value.int .u8 a0_4) :: (Value.int .u8 a0_5) :: (Value.int .u8 a0_6) :: (Value.int .u8 a0_7) :: (Value.int .u8 a0_8) :: (Value.int .u8 a0_9) :: (Value.int .u8 a0_10) :: (Value.int .u8 a0_11) :: (Value.int .u8 a0_12) :: (Value.int .u8 a0_13) :: (Value.int .u8 a0_14) :: (Value.int .u8 a0_15) :: (Value.slice a0_16.a a0_16.len a0_16.cap) :: (Value.slice a0_17.a a0_17.len a0_17.cap) :: (Value.int .i64 a0_18) :: (Value.int .i64 a0_19) :: (Value.int .i64 a0_20) :: (Value.int .i64 a0_21) :: (Value.int .i64 a0_22) :: (Value.int .i64 a0_23) :: (Value.int .i64 a0_24) :: (Value.int .i64 a0_25) :: (Value.int .i64 a0_26) :: (Value.int .i64 a0_27) :: (Value.int .i64 a0_28) :: (Value.int .i64 a0_29) :: (Value.int .i64 a0_30) :: (Value.int .i64 a0_31) :: (Value.int .i64 a0_32) :: (Value.int .i64 a0_33) :: (Value.int .i64 a0_34) :: (Value.slice a0_35.a a0_35.len a0_35.cap) :: [])⟩), (Value.agg ⟨[(Value.int .i64 a1_0), (Value.slice a1_1.a a1_1.len a1_1.cap), (Value.slice a1_2.a a1_2.len a1_2.cap), (Value.int .i64 a1_3), (Value.int .i64 a1_4), (Value.int .i64 a1_5), (Value.slice a1_6.a a1_6.len a1_6.cap)]⟩)]) [] w (retK Try.prog [.tmp 4] [.one .bool] K) = s_law38_ViewOwns a0_0 a0_1 a0_2 a0_3 a0_4 a0_5 a0_6 a0_7 a0_8 a0_9 a0_10 a0_11 a0_12 a0_13 a0_14 a0_15 a0_16 a0_17 a0_18 a0_19 a0_20 a0_21 a0_22 a0_23 a0_24 a0_25 a0_26 a0_27 a0_28 a0_29 a0_30 a0_31 a0_32 a0_33 a0_34 a0_35 a1_0 a1_1 a1_2 a1_3 a1_4 a1_5 a1_6 w K := by kernel_rfl
theorem ok_law38_ViewOwns {a0_0 a0_1 a0_2 a0_3 a0_4 a0_5 a0_6 a0_7 a0_8 a0_9 a0_10 a0_11 a0_12 a0_13 a0_14 a0_15 a0_16 a0_17 a0_18 a0_19 a0_20 a0_21 a0_22 a0_23 a0_24 a0_25 a0_26 a0_27 a0_28 a0_29 a0_30 a0_31 a0_32 a0_33 a0_34 a0_35 a1_0 a1_1 a1_2 a1_3 a1_4 a1_5 a1_6 w K} (h : s_law38_ViewOwns a0_0 a0_1 a0_2 a0_3 a0_4 a0_5 a0_6 a0_7 a0_8 a0_9 a0_10 a0_11 a0_12 a0_13 a0_14 a0_15 a0_16 a0_17 a0_18 a0_19 a0_20 a0_21 a0_22 a0_23 a0_24 a0_25 a0_26 a0_27 a0_28 a0_29 a0_30 a0_31 a0_32 a0_33 a0_34 a0_35 a1_0 a1_1 a1_2 a1_3 a1_4 a1_5 a1_6 w K) : c_law38_ViewOwns a0_0 a0_1 a0_2 a0_3 a0_4 a0_5 a0_6 a0_7 a0_8 a0_9 a0_10 a0_11 a0_12 a0_13 a0_14 a0_15 a0_16 a0_17 a0_18 a0_19 a0_20 a0_21 a0_22 a0_23 a0_24 a0_25 a0_26 a0_27 a0_28 a0_29 a0_30 a0_31 a0_32 a0_33 a0_34 a0_35 a1_0 a1_1 a1_2 a1_3 a1_4 a1_5 a1_6 w K :=
  fn_sound pok Try.func8 (fn := Try.f8) (c := bodyOf Try.f8) (nt := 61) (by kernel_rfl) (by kernel_rfl) (rs := [.tmp 4]) (by kernel_rfl) [.one .bool] K (.seq .leaf (.seq (.seq .leaf (.cond (.seq .leaf .leaf) .leaf)) (.seq (.seq .leaf (.blk (.loop [(27, (.int .i64))] (.seq .leaf (.seq (.cond .leaf .leaf) (.seq (.blk (.seq .leaf (.seq .leaf (.seq .leaf (.cond (.seq .leaf .leaf) .leaf))))) .leaf)))))) (.seq .leaf .leaf)))) [(Value.agg ⟨((Value.int .u8 a0_0) :: (Value.int .u8 a0_1) :: (Value.int .u8 a0_2) :: (Value.int .u8 a0_3) :: (Value.int .u8 a0_4) :: (Value.int .u8 a0_5) :: (Value.int .u8 a0_6) :: (Value.int .u8 a0_7) :: (Value.int .u8 a0_8) :: (Value.int .u8 a0_9) :: (Value.int .u8 a0_10) :: (Value.int .u8 a0_11) :: (Value.int .u8 a0_12) :: (Value.int .u8 a0_13) :: (Value.int .u8 a0_14) :: (Value.int .u8 a0_15) :: (Value.slice a0_16.a a0_16.len a0_16.cap) :: (Value.slice a0_17.a a0_17.len a0_17.cap) :: (Value.int .i64 a0_18) :: (Value.int .i64 a0_19) :: (Value.int .i64 a0_20) :: (Value.int .i64 a0_21) :: (Value.int .i64 a0_22) :: (Value.int .i64 a0_23) :: (Value.int .i64 a0_24) :: (Value.int .i64 a0_25) :: (Value.int .i64 a0_26) :: (Value.int .i64 a0_27) :: (Value.int .i64 a0_28) :: (Value.int .i64 a0_29) :: (Value.int .i64 a0_30) :: (Value.int .i64 a0_31) :: (Value.int .i64 a0_32) :: (Value.int .i64 a0_33) :: (Value.int .i64 a0_34) :: (Value.slice a0_35.a a0_35.len a0_35.cap) :: [])⟩), (Value.agg ⟨[(Value.int .i64 a1_0), (Value.slice a1_1.a a1_1.len a1_1.cap), (Value.slice a1_2.a a1_2.len a1_2.cap), (Value.int .i64 a1_3), (Value.int .i64 a1_4), (Value.int .i64 a1_5), (Value.slice a1_6.a a1_6.len a1_6.cap)]⟩)] (by kernel_rfl) w ((e_law38_ViewOwns a0_0 a0_1 a0_2 a0_3 a0_4 a0_5 a0_6 a0_7 a0_8 a0_9 a0_10 a0_11 a0_12 a0_13 a0_14 a0_15 a0_16 a0_17 a0_18 a0_19 a0_20 a0_21 a0_22 a0_23 a0_24 a0_25 a0_26 a0_27 a0_28 a0_29 a0_30 a0_31 a0_32 a0_33 a0_34 a0_35 a1_0 a1_1 a1_2 a1_3 a1_4 a1_5 a1_6 w K).mpr h)

/-- goosepond/goosepondplain.Right -/
def s_plain_Right (a0_0 : Int) (a0_1 : Int) (a0_2 : Int) (a0_3 : Int) (a0_4 : Int) (a0_5 : Int) (a0_6 : Int) (a0_7 : Int) (a0_8 : Int) (a0_9 : Int) (a0_10 : Int) (a0_11 : Int) (a0_12 : Int) (a0_13 : Int) (a0_14 : Int) (a0_15 : Int) (a0_16 : SliceV) (a0_17 : SliceV) (a0_18 : Int) (a0_19 : Int) (a0_20 : Int) (a0_21 : Int) (a0_22 : Int) (a0_23 : Int) (a0_24 : Int) (a0_25 : Int) (a0_26 : Int) (a0_27 : Int) (a0_28 : Int) (a0_29 : Int) (a0_30 : Int) (a0_31 : Int) (a0_32 : Int) (a0_33 : Int) (a0_34 : Int) (a0_35 : SliceV) (w : World) (K : Bool → World → Prop) : Prop :=
 (Al w (.cells ⟨((Value.int .u8 a0_0) :: (Value.int .u8 a0_1) :: (Value.int .u8 a0_2) :: (Value.int .u8 a0_3) :: (Value.int .u8 a0_4) :: (Value.int .u8 a0_5) :: (Value.int .u8 a0_6) :: (Value.int .u8 a0_7) :: (Value.int .u8 a0_8) :: (Value.int .u8 a0_9) :: (Value.int .u8 a0_10) :: (Value.int .u8 a0_11) :: (Value.int .u8 a0_12) :: (Value.int .u8 a0_13) :: (Value.int .u8 a0_14) :: (Value.int .u8 a0_15) :: (Value.slice a0_16.a a0_16.len a0_16.cap) :: (Value.slice a0_17.a a0_17.len a0_17.cap) :: (Value.int .i64 a0_18) :: (Value.int .i64 a0_19) :: (Value.int .i64 a0_20) :: (Value.int .i64 a0_21) :: (Value.int .i64 a0_22) :: (Value.int .i64 a0_23) :: (Value.int .i64 a0_24) :: (Value.int .i64 a0_25) :: (Value.int .i64 a0_26) :: (Value.int .i64 a0_27) :: (Value.int .i64 a0_28) :: (Value.int .i64 a0_29) :: (Value.int .i64 a0_30) :: (Value.int .i64 a0_31) :: (Value.int .i64 a0_32) :: (Value.int .i64 a0_33) :: (Value.int .i64 a0_34) :: (Value.slice a0_35.a a0_35.len a0_35.cap) :: [])⟩ 42) fun a3 w2 =>
 let J4 : Bool → World → Prop := fun j5 w6 =>
 (K j5 w6)
 Ld (.int .u8) w2 (a3.add 0) fun x7 =>
 Ld (.int .u8) w2 (a3.add 1) fun x8 =>
 Ld (.int .u8) w2 (a3.add 2) fun x9 =>
 Ld (.int .u8) w2 (a3.add 3) fun x10 =>
 Ld (.int .u8) w2 (a3.add 4) fun x11 =>
 Ld (.int .u8) w2 (a3.add 5) fun x12 =>
 Ld (.int .u8) w2 (a3.add 6) fun x13 =>
 Ld (.int .u8) w2 (a3.add 7) fun x14 =>
 Ld (.int .u8) w2 (a3.add 8) fun x15 =>
 Ld (.int .u8) w2 (a3.add 9) fun x16 =>
 Ld (.int .u8) w2 (a3.add 10) fun x17 =>
 Ld (.int .u8) w2 (a3.add 11) fun x18 =>
 Ld (.int .u8) w2 (a3.add 12) fun x19 =>
 Ld (.int .u8) w2 (a3.add 13) fun x20 =>
 Ld (.int .u8) w2 (a3.add 14) fun x21 =>
 Ld (.int .u8) w2 (a3.add 15) fun x22 =>
 Ld .slice w2 (a3.add 16) fun x23 =>
 Ld .slice w2 (a3.add 17) fun x24 =>
 Ld (.int .i64) w2 (a3.add 18) fun x25 =>
 Ld (.int .i64) w2 (a3.add 19) fun x26 =>
 Ld (.int .i64) w2 (a3.add 20) fun x27 =>
 Ld (.int .i64) w2 (a3.add 21) fun x28 =>
 Ld (.int .i64) w2 (a3.add 22) fun x29 =>
 Ld (.int .i64) w2 (a3.add 23) fun x30 =>
 Ld (.int .i64) w2 (a3.add 24) fun x31 =>
 Ld (.int .i64) w2 (a3.add 25) fun x32 =>
 Ld (.int .i64) w2 (a3.add 26) fun x33 =>
 Ld (.int .i64) w2 (a3.add 27) fun x34 =>
 Ld (.int .i64) w2 (a3.add 28) fun x35 =>
 Ld (.int .i64) w2 (a3.add 29) fun x36 =>
 Ld (.int .i64) w2 (a3.add 30) fun x37 =>
 Ld (.int .i64) w2 (a3.add 31) fun x38 =>
 Ld (.int .i64) w2 (a3.add 32) fun x39 =>
 Ld (.int .i64) w2 (a3.add 33) fun x40 =>
 Ld (.int .i64) w2 (a3.add 34) fun x41 =>
 Ld .slice w2 (a3.add 35) fun x42 =>
 c_plain_Small x7 x8 x9 x10 x11 x12 x13 x14 x15 x16 x17 x18 x19 x20 x21 x22 x23 x24 x25 x26 x27 x28 x29 x30 x31 x32 x33 x34 x35 x36 x37 x38 x39 x40 x41 x42 w2 fun r43 w44 =>
 (bif r43 then
 Ld (.int .u8) w44 (a3.add 0) fun x45 =>
 Ld (.int .u8) w44 (a3.add 1) fun x46 =>
 Ld (.int .u8) w44 (a3.add 2) fun x47 =>
 Ld (.int .u8) w44 (a3.add 3) fun x48 =>
 Ld (.int .u8) w44 (a3.add 4) fun x49 =>
 Ld (.int .u8) w44 (a3.add 5) fun x50 =>
 Ld (.int .u8) w44 (a3.add 6) fun x51 =>
 Ld (.int .u8) w44 (a3.add 7) fun x52 =>
 Ld (.int .u8) w44 (a3.add 8) fun x53 =>
 Ld (.int .u8) w44 (a3.add 9) fun x54 =>
 Ld (.int .u8) w44 (a3.add 10) fun x55 =>
 Ld (.int .u8) w44 (a3.add 11) fun x56 =>
 Ld (.int .u8) w44 (a3.add 12) fun x57 =>
 Ld (.int .u8) w44 (a3.add 13) fun x58 =>
 Ld (.int .u8) w44 (a3.add 14) fun x59 =>
 Ld (.int .u8) w44 (a3.add 15) fun x60 =>
 Ld .slice w44 (a3.add 16) fun x61 =>
 Ld .slice w44 (a3.add 17) fun x62 =>
 Ld (.int .i64) w44 (a3.add 18) fun x63 =>
 Ld (.int .i64) w44 (a3.add 19) fun x64 =>
 Ld (.int .i64) w44 (a3.add 20) fun x65 =>
 Ld (.int .i64) w44 (a3.add 21) fun x66 =>
 Ld (.int .i64) w44 (a3.add 22) fun x67 =>
 Ld (.int .i64) w44 (a3.add 23) fun x68 =>
 Ld (.int .i64) w44 (a3.add 24) fun x69 =>
 Ld (.int .i64) w44 (a3.add 25) fun x70 =>
 Ld (.int .i64) w44 (a3.add 26) fun x71 =>
 Ld (.int .i64) w44 (a3.add 27) fun x72 =>
 Ld (.int .i64) w44 (a3.add 28) fun x73 =>
 Ld (.int .i64) w44 (a3.add 29) fun x74 =>
 Ld (.int .i64) w44 (a3.add 30) fun x75 =>
 Ld (.int .i64) w44 (a3.add 31) fun x76 =>
 Ld (.int .i64) w44 (a3.add 32) fun x77 =>
 Ld (.int .i64) w44 (a3.add 33) fun x78 =>
 Ld (.int .i64) w44 (a3.add 34) fun x79 =>
 Ld .slice w44 (a3.add 35) fun x80 =>
 c_ref20_Check x45 x46 x47 x48 x49 x50 x51 x52 x53 x54 x55 x56 x57 x58 x59 x60 x61 x62 x63 x64 x65 x66 x67 x68 x69 x70 x71 x72 x73 x74 x75 x76 x77 x78 x79 x80 w44 fun r81 w82 =>
 J4 (r81 == 0) w82
 else
 J4 false w44))
theorem e_plain_Right (a0_0 : Int) (a0_1 : Int) (a0_2 : Int) (a0_3 : Int) (a0_4 : Int) (a0_5 : Int) (a0_6 : Int) (a0_7 : Int) (a0_8 : Int) (a0_9 : Int) (a0_10 : Int) (a0_11 : Int) (a0_12 : Int) (a0_13 : Int) (a0_14 : Int) (a0_15 : Int) (a0_16 : SliceV) (a0_17 : SliceV) (a0_18 : Int) (a0_19 : Int) (a0_20 : Int) (a0_21 : Int) (a0_22 : Int) (a0_23 : Int) (a0_24 : Int) (a0_25 : Int) (a0_26 : Int) (a0_27 : Int) (a0_28 : Int) (a0_29 : Int) (a0_30 : Int) (a0_31 : Int) (a0_32 : Int) (a0_33 : Int) (a0_34 : Int) (a0_35 : SliceV) (w : World) (K : Bool → World → Prop) : den Try.prog 10 (bodyOf Try.f22) none (.seq .leaf (.seq .leaf .leaf)) (argEnv 0 [(Value.agg ⟨((Value.int .u8 a0_0) :: (Value.int .u8 a0_1) :: (Value.int .u8 a0_2) :: (Value.int .u8 a0_3) :: (Value.int .u8 a0_4) :: (Value.int .u8 a0_5) :: (Value.int .u8 a0_6) :: (Value.int .u8 a0_7) :: (Value.int .u8 a0_8) :: (Value.int .u8 a0_9) :: (Value.int .u8 a0_10) :: (Value.int .u8 a0_11) :: (Value.int .u8 a0_12) :: (Value.int .u8 a0_13) :: (Value.int .u8 a0_14) :: (Value.int .u8 a0_15) :: (Value.slice a0_16.a a0_16.len a0_16.cap) :: (Value.slice a0_17.a a0_17.len a0_17.cap) :: (Value.int .i64 a0_18) :: (Value.int .i64 a0_19) :: (Value.int .i64 a0_20) :: (Value.int .i64 a0_21) :: (Value.int .i64 a0_22) :: (Value.int .i64 a0_23) :: (Value.int .i64 a0_24) :: (Value.int .i64 a0_25) :: (Value.int .i64 a0_26) :: (Value.int .i64 a0_27) :: (Value.int .i64 a0_28) :: (Value.int .i64 a0_29) :: (Value.int .i64 a0_30) :: (Value.int .i64 a0_31) :: (Value.int .i64 a0_32) :: (Value.int .i64 a0_33) :: (Value.int .i64 a0_34) :: (Value.slice a0_35.a a0_35.len a0_35.cap) :: [])⟩)]) [] w (retK Try.prog [.tmp 2] [.one .bool] K) = s_plain_Right a0_0 a0_1 a0_2 a0_3 a0_4 a0_5 a0_6 a0_7 a0_8 a0_9 a0_10 a0_11 a0_12 a0_13 a0_14 a0_15 a0_16 a0_17 a0_18 a0_19 a0_20 a0_21 a0_22 a0_23 a0_24 a0_25 a0_26 a0_27 a0_28 a0_29 a0_30 a0_31 a0_32 a0_33 a0_34 a0_35 w K := by kernel_rfl
theorem ok_plain_Right {a0_0 a0_1 a0_2 a0_3 a0_4 a0_5 a0_6 a0_7 a0_8 a0_9 a0_10 a0_11 a0_12 a0_13 a0_14 a0_15 a0_16 a0_17 a0_18 a0_19 a0_20 a0_21 a0_22 a0_23 a0_24 a0_25 a0_26 a0_27 a0_28 a0_29 a0_30 a0_31 a0_32 a0_33 a0_34 a0_35 w K} (h : s_plain_Right a0_0 a0_1 a0_2 a0_3 a0_4 a0_5 a0_6 a0_7 a0_8 a0_9 a0_10 a0_11 a0_12 a0_13 a0_14 a0_15 a0_16 a0_17 a0_18 a0_19 a0_20 a0_21 a0_22 a0_23 a0_24 a0_25 a0_26 a0_27 a0_28 a0_29 a0_30 a0_31 a0_32 a0_33 a0_34 a0_35 w K) : c_plain_Right a0_0 a0_1 a0_2 a0_3 a0_4 a0_5 a0_6 a0_7 a0_8 a0_9 a0_10 a0_11 a0_12 a0_13 a0_14 a0_15 a0_16 a0_17 a0_18 a0_19 a0_20 a0_21 a0_22 a0_23 a0_24 a0_25 a0_26 a0_27 a0_28 a0_29 a0_30 a0_31 a0_32 a0_33 a0_34 a0_35 w K :=
  fn_sound pok Try.func22 (fn := Try.f22) (c := bodyOf Try.f22) (nt := 10) (by kernel_rfl) (by kernel_rfl) (rs := [.tmp 2]) (by kernel_rfl) [.one .bool] K (.seq .leaf (.seq .leaf .leaf)) [(Value.agg ⟨((Value.int .u8 a0_0) :: (Value.int .u8 a0_1) :: (Value.int .u8 a0_2) :: (Value.int .u8 a0_3) :: (Value.int .u8 a0_4) :: (Value.int .u8 a0_5) :: (Value.int .u8 a0_6) :: (Value.int .u8 a0_7) :: (Value.int .u8 a0_8) :: (Value.int .u8 a0_9) :: (Value.int .u8 a0_10) :: (Value.int .u8 a0_11) :: (Value.int .u8 a0_12) :: (Value.int .u8 a0_13) :: (Value.int .u8 a0_14) :: (Value.int .u8 a0_15) :: (Value.slice a0_16.a a0_16.len a0_16.cap) :: (Value.slice a0_17.a a0_17.len a0_17.cap) :: (Value.int .i64 a0_18) :: (Value.int .i64 a0_19) :: (Value.int .i64 a0_20) :: (Value.int .i64 a0_21) :: (Value.int .i64 a0_22) :: (Value.int .i64 a0_23) :: (Value.int .i64 a0_24) :: (Value.int .i64 a0_25) :: (Value.int .i64 a0_26) :: (Value.int .i64 a0_27) :: (Value.int .i64 a0_28) :: (Value.int .i64 a0_29) :: (Value.int .i64 a0_30) :: (Value.int .i64 a0_31) :: (Value.int .i64 a0_32) :: (Value.int .i64 a0_33) :: (Value.int .i64 a0_34) :: (Value.slice a0_35.a a0_35.len a0_35.cap) :: [])⟩)] (by kernel_rfl) w ((e_plain_Right a0_0 a0_1 a0_2 a0_3 a0_4 a0_5 a0_6 a0_7 a0_8 a0_9 a0_10 a0_11 a0_12 a0_13 a0_14 a0_15 a0_16 a0_17 a0_18 a0_19 a0_20 a0_21 a0_22 a0_23 a0_24 a0_25 a0_26 a0_27 a0_28 a0_29 a0_30 a0_31 a0_32 a0_33 a0_34 a0_35 w K).mpr h)

/-- goosepond/goosepondlaw38.awake -/
def s_law38_awake  (w : World) (K : Bool → World → Prop) : Prop :=
 (Al w (.cells ⟨[(Value.int .i64 0), (Value.int .i64 0), (Value.int .i64 0), (Value.int .i64 0), (Value.int .i64 0), (Value.int .i64 0), (Value.int .i64 0), (Value.bool false)]⟩ 61) fun a2 w1 =>
 StN [(Value.int .i64 0), (Value.int .i64 0), (Value.int .i64 0), (Value.int .i64 0), (Value.int .i64 17), (Value.int .i64 3325256705), (Value.int .i64 5000), (Value.bool false)] w1 a2 0 fun w3 =>
 Ld (.int .i64) w3 (a2.add 0) fun x4 =>
 Ld (.int .i64) w3 (a2.add 1) fun x5 =>
 Ld (.int .i64) w3 (a2.add 2) fun x6 =>
 Ld (.int .i64) w3 (a2.add 3) fun x7 =>
 Ld (.int .i64) w3 (a2.add 4) fun x8 =>
 Ld (.int .i64) w3 (a2.add 5) fun x9 =>
 Ld (.int .i64) w3 (a2.add 6) fun x10 =>
 Ld .bool w3 (a2.add 7) fun x11 =>
 Al w3 (.cells ⟨[(Value.int .i64 0), (Value.int .i64 0), (Value.int .i64 0), (Value.int .i64 0), (Value.int .i64 0), (Value.int .i64 0), (Value.int .i64 0), (Value.bool false)]⟩ 61) fun a13 w12 =>
 StN [(Value.int .i64 x4), (Value.int .i64 x5), (Value.int .i64 x6), (Value.int .i64 x7), (Value.int .i64 x8), (Value.int .i64 x9), (Value.int .i64 x10), (Value.bool x11)] w12 a13 0 fun w14 =>
 St w14 (a13.add 3) (Value.int .i64 1) fun w15 =>
 Ld (.int .i64) w15 (a2.add 0) fun x16 =>
 Ld (.int .i64) w15 (a2.add 1) fun x17 =>
 Ld (.int .i64) w15 (a2.add 2) fun x18 =>
 Ld (.int .i64) w15 (a2.add 3) fun x19 =>
 Ld (.int .i64) w15 (a2.add 4) fun x20 =>
 Ld (.int .i64) w15 (a2.add 5) fun x21 =>
 Ld (.int .i64) w15 (a2.add 6) fun x22 =>
 Ld .bool w15 (a2.add 7) fun x23 =>
 Ld (.int .i64) w15 (a13.add 0) fun x24 =>
 Ld (.int .i64) w15 (a13.add 1) fun x25 =>
 Ld (.int .i64) w15 (a13.add 2) fun x26 =>
 Ld (.int .i64) w15 (a13.add 3) fun x27 =>
 Ld (.int .i64) w15 (a13.add 4) fun x28 =>
 Ld (.int .i64) w15 (a13.add 5) fun x29 =>
 Ld (.int .i64) w15 (a13.add 6) fun x30 =>
 Ld .bool w15 (a13.add 7) fun x31 =>
 Al w15 (.cells ⟨[(Value.int .i64 x16), (Value.int .i64 x17), (Value.int .i64 x18), (Value.int .i64 x19), (Value.int .i64 x20), (Value.int .i64 x21), (Value.int .i64 x22), (Value.bool x23), (Value.int .i64 x24), (Value.int .i64 x25), (Value.int .i64 x26), (Value.int .i64 x27), (Value.int .i64 x28), (Value.int .i64 x29), (Value.int .i64 x30), (Value.bool x31)]⟩ 61) fun a33 w32 =>
 Al w32 (.cells ⟨[(Value.int .i64 0), (Value.slice none 0 0), (Value.slice none 0 0), (Value.int .i64 0), (Value.int .i64 0), (Value.int .i64 0), (Value.slice none 0 0)]⟩ 55) fun a35 w34 =>
 StN [(Value.int .i64 0), (Value.slice (some a33) 2 2), (Value.slice none 0 0), (Value.int .i64 0), (Value.int .i64 0), (Value.int .i64 0), (Value.slice none 0 0)] w34 a35 0 fun w36 =>
 let J37 : Bool → World → Prop := fun j38 w39 =>
 (K j38 w39)
 Ld (.int .i64) w36.drew (a35.add 0) fun x40 =>
 Ld .slice w36.drew (a35.add 1) fun x41 =>
 Ld .slice w36.drew (a35.add 2) fun x42 =>
 Ld (.int .i64) w36.drew (a35.add 3) fun x43 =>
 Ld (.int .i64) w36.drew (a35.add 4) fun x44 =>
 Ld (.int .i64) w36.drew (a35.add 5) fun x45 =>
 Ld .slice w36.drew (a35.add 6) fun x46 =>
 c_view_Injective x40 x41 x42 x43 x44 x45 x46 w36.drew fun r47 w48 =>
 (bif (!r47) then
 Ld (.int .i64) w48 (a35.add 0) fun x49 =>
 Ld .slice w48 (a35.add 1) fun x50 =>
 Ld .slice w48 (a35.add 2) fun x51 =>
 Ld (.int .i64) w48 (a35.add 3) fun x52 =>
 Ld (.int .i64) w48 (a35.add 4) fun x53 =>
 Ld (.int .i64) w48 (a35.add 5) fun x54 =>
 Ld .slice w48 (a35.add 6) fun x55 =>
 c_ref20_Base  w48 fun r56 r57 r58 r59 r60 r61 r62 r63 r64 r65 r66 r67 r68 r69 r70 r71 r72 r73 r74 r75 r76 r77 r78 r79 r80 r81 r82 r83 r84 r85 r86 r87 r88 r89 r90 r91 w92 =>
 w92.cell? (a35.add 0) = some (Value.int .i64 x49) ∧
 w92.cell? (a35.add 1) = some (Value.slice x50.a x50.len x50.cap) ∧
 w92.cell? (a35.add 2) = some (Value.slice x51.a x51.len x51.cap) ∧
 w92.cell? (a35.add 3) = some (Value.int .i64 x52) ∧
 w92.cell? (a35.add 4) = some (Value.int .i64 x53) ∧
 w92.cell? (a35.add 5) = some (Value.int .i64 x54) ∧
 w92.cell? (a35.add 6) = some (Value.slice x55.a x55.len x55.cap) ∧
 c_view_Within r56 r57 r58 r59 r60 r61 r62 r63 r64 r65 r66 r67 r68 r69 r70 r71 r72 r73 r74 r75 r76 r77 r78 r79 r80 r81 r82 r83 r84 r85 r86 r87 r88 r89 r90 r91 x49 x50 x51 x52 x53 x54 x55 w92 fun r93 w94 =>
 (bif (r93 == 9) then
 c_view_Injective 0 ⟨none, 0, 0⟩ ⟨none, 0, 0⟩ 0 0 0 ⟨none, 0, 0⟩ w94 fun r95 w96 =>
 J37 r95 w96
 else
 J37 false w94)
 else
 J37 false w48))
theorem e_law38_awake  (w : World) (K : Bool → World → Prop) : den Try.prog 26 (bodyOf Try.f23) none (.seq .leaf (.seq .leaf (.seq .leaf (.seq .leaf (.seq .leaf (.seq .leaf .leaf)))))) (argEnv 0 []) [] w (retK Try.prog [.tmp 0] [.one .bool] K) = s_law38_awake  w K := by kernel_rfl
theorem ok_law38_awake { w K} (h : s_law38_awake  w K) : c_law38_awake  w K :=
  fn_sound pok Try.func23 (fn := Try.f23) (c := bodyOf Try.f23) (nt := 26) (by kernel_rfl) (by kernel_rfl) (rs := [.tmp 0]) (by kernel_rfl) [.one .bool] K (.seq .leaf (.seq .leaf (.seq .leaf (.seq .leaf (.seq .leaf (.seq .leaf .leaf)))))) [] (by kernel_rfl) w ((e_law38_awake  w K).mpr h)

/-- goosepond/view.Within -/
def s_view_Within (a0_0 : Int) (a0_1 : Int) (a0_2 : Int) (a0_3 : Int) (a0_4 : Int) (a0_5 : Int) (a0_6 : Int) (a0_7 : Int) (a0_8 : Int) (a0_9 : Int) (a0_10 : Int) (a0_11 : Int) (a0_12 : Int) (a0_13 : Int) (a0_14 : Int) (a0_15 : Int) (a0_16 : SliceV) (a0_17 : SliceV) (a0_18 : Int) (a0_19 : Int) (a0_20 : Int) (a0_21 : Int) (a0_22 : Int) (a0_23 : Int) (a0_24 : Int) (a0_25 : Int) (a0_26 : Int) (a0_27 : Int) (a0_28 : Int) (a0_29 : Int) (a0_30 : Int) (a0_31 : Int) (a0_32 : Int) (a0_33 : Int) (a0_34 : Int) (a0_35 : SliceV) (a1_0 : Int) (a1_1 : SliceV) (a1_2 : SliceV) (a1_3 : Int) (a1_4 : Int) (a1_5 : Int) (a1_6 : SliceV) (w : World) (K : Int → World → Prop) : Prop :=
 (Al w (.cells ⟨((Value.int .u8 a0_0) :: (Value.int .u8 a0_1) :: (Value.int .u8 a0_2) :: (Value.int .u8 a0_3) :: (Value.int .u8 a0_4) :: (Value.int .u8 a0_5) :: (Value.int .u8 a0_6) :: (Value.int .u8 a0_7) :: (Value.int .u8 a0_8) :: (Value.int .u8 a0_9) :: (Value.int .u8 a0_10) :: (Value.int .u8 a0_11) :: (Value.int .u8 a0_12) :: (Value.int .u8 a0_13) :: (Value.int .u8 a0_14) :: (Value.int .u8 a0_15) :: (Value.slice a0_16.a a0_16.len a0_16.cap) :: (Value.slice a0_17.a a0_17.len a0_17.cap) :: (Value.int .i64 a0_18) :: (Value.int .i64 a0_19) :: (Value.int .i64 a0_20) :: (Value.int .i64 a0_21) :: (Value.int .i64 a0_22) :: (Value.int .i64 a0_23) :: (Value.int .i64 a0_24) :: (Value.int .i64 a0_25) :: (Value.int .i64 a0_26) :: (Value.int .i64 a0_27) :: (Value.int .i64 a0_28) :: (Value.int .i64 a0_29) :: (Value.int .i64 a0_30) :: (Value.int .i64 a0_31) :: (Value.int .i64 a0_32) :: (Value.int .i64 a0_33) :: (Value.int .i64 a0_34) :: (Value.slice a0_35.a a0_35.len a0_35.cap) :: [])⟩ 42) fun a4 w3 =>
 Al w3 (.cells ⟨[(Value.int .i64 a1_0), (Value.slice a1_1.a a1_1.len a1_1.cap), (Value.slice a1_2.a a1_2.len a1_2.cap), (Value.int .i64 a1_3), (Value.int .i64 a1_4), (Value.int .i64 a1_5), (Value.slice a1_6.a a1_6.len a1_6.cap)]⟩ 55) fun a6 w5 =>
 Ld (.int .u8) w5 (a4.add 0) fun x7 =>
 Ld (.int .u8) w5 (a4.add 1) fun x8 =>
 Ld (.int .u8) w5 (a4.add 2) fun x9 =>
 Ld (.int .u8) w5 (a4.add 3) fun x10 =>
 Ld (.int .u8) w5 (a4.add 4) fun x11 =>
 Ld (.int .u8) w5 (a4.add 5) fun x12 =>
 Ld (.int .u8) w5 (a4.add 6) fun x13 =>
 Ld (.int .u8) w5 (a4.add 7) fun x14 =>
 Ld (.int .u8) w5 (a4.add 8) fun x15 =>
 Ld (.int .u8) w5 (a4.add 9) fun x16 =>
 Ld (.int .u8) w5 (a4.add 10) fun x17 =>
 Ld (.int .u8) w5 (a4.add 11) fun x18 =>
 Ld (.int .u8) w5 (a4.add 12) fun x19 =>
 Ld (.int .u8) w5 (a4.add 13) fun x20 =>
 Ld (.int .u8) w5 (a4.add 14) fun x21 =>
 Ld (.int .u8) w5 (a4.add 15) fun x22 =>
 Ld .slice w5 (a4.add 16) fun x23 =>
 Ld .slice w5 (a4.add 17) fun x24 =>
 Ld (.int .i64) w5 (a4.add 18) fun x25 =>
 Ld (.int .i64) w5 (a4.add 19) fun x26 =>
 Ld (.int .i64) w5 (a4.add 20) fun x27 =>
 Ld (.int .i64) w5 (a4.add 21) fun x28 =>
 Ld (.int .i64) w5 (a4.add 22) fun x29 =>
 Ld (.int .i64) w5 (a4.add 23) fun x30 =>
 Ld (.int .i64) w5 (a4.add 24) fun x31 =>
 Ld (.int .i64) w5 (a4.add 25) fun x32 =>
 Ld (.int .i64) w5 (a4.add 26) fun x33 =>
 Ld (.int .i64) w5 (a4.add 27) fun x34 =>
 Ld (.int .i64) w5 (a4.add 28) fun x35 =>
 Ld (.int .i64) w5 (a4.add 29) fun x36 =>
 Ld (.int .i64) w5 (a4.add 30) fun x37 =>
 Ld (.int .i64) w5 (a4.add 31) fun x38 =>
 Ld (.int .i64) w5 (a4.add 32) fun x39 =>
 Ld (.int .i64) w5 (a4.add 33) fun x40 =>
 Ld (.int .i64) w5 (a4.add 34) fun x41 =>
 Ld .slice w5 (a4.add 35) fun x42 =>
 c_config_Check x7 x8 x9 x10 x11 x12 x13 x14 x15 x16 x17 x18 x19 x20 x21 x22 x23 x24 x25 x26 x27 x28 x29 x30 x31 x32 x33 x34 x35 x36 x37 x38 x39 x40 x41 x42 w5 fun r43 w44 =>
 (bif (r43 != 0) then
 K r43 w44
 else
 Ld (.int .i64) w44 (a6.add 0) fun x45 =>
 Ld .slice w44 (a6.add 1) fun x46 =>
 Ld .slice w44 (a6.add 2) fun x47 =>
 Ld (.int .i64) w44 (a6.add 3) fun x48 =>
 Ld (.int .i64) w44 (a6.add 4) fun x49 =>
 Ld (.int .i64) w44 (a6.add 5) fun x50 =>
 Ld .slice w44 (a6.add 6) fun x51 =>
 c_view_Injective x45 x46 x47 x48 x49 x50 x51 w44 fun r52 w53 =>
 (bif (!r52) then
 K 9 w53
 else
 Ld (.int .u8) w53 (a4.add 0) fun x54 =>
 Ld (.int .u8) w53 (a4.add 1) fun x55 =>
 Ld (.int .u8) w53 (a4.add 2) fun x56 =>
 Ld (.int .u8) w53 (a4.add 3) fun x57 =>
 Ld (.int .u8) w53 (a4.add 4) fun x58 =>
 Ld (.int .u8) w53 (a4.add 5) fun x59 =>
 Ld (.int .u8) w53 (a4.add 6) fun x60 =>
 Ld (.int .u8) w53 (a4.add 7) fun x61 =>
 Ld (.int .u8) w53 (a4.add 8) fun x62 =>
 Ld (.int .u8) w53 (a4.add 9) fun x63 =>
 Ld (.int .u8) w53 (a4.add 10) fun x64 =>
 Ld (.int .u8) w53 (a4.add 11) fun x65 =>
 Ld (.int .u8) w53 (a4.add 12) fun x66 =>
 Ld (.int .u8) w53 (a4.add 13) fun x67 =>
 Ld (.int .u8) w53 (a4.add 14) fun x68 =>
 Ld (.int .u8) w53 (a4.add 15) fun x69 =>
 Ld .slice w53 (a4.add 16) fun x70 =>
 Ld .slice w53 (a4.add 17) fun x71 =>
 Ld (.int .i64) w53 (a4.add 18) fun x72 =>
 Ld (.int .i64) w53 (a4.add 19) fun x73 =>
 Ld (.int .i64) w53 (a4.add 20) fun x74 =>
 Ld (.int .i64) w53 (a4.add 21) fun x75 =>
 Ld (.int .i64) w53 (a4.add 22) fun x76 =>
 Ld (.int .i64) w53 (a4.add 23) fun x77 =>
 Ld (.int .i64) w53 (a4.add 24) fun x78 =>
 Ld (.int .i64) w53 (a4.add 25) fun x79 =>
 Ld (.int .i64) w53 (a4.add 26) fun x80 =>
 Ld (.int .i64) w53 (a4.add 27) fun x81 =>
 Ld (.int .i64) w53 (a4.add 28) fun x82 =>
 Ld (.int .i64) w53 (a4.add 29) fun x83 =>
 Ld (.int .i64) w53 (a4.add 30) fun x84 =>
 Ld (.int .i64) w53 (a4.add 31) fun x85 =>
 Ld (.int .i64) w53 (a4.add 32) fun x86 =>
 Ld (.int .i64) w53 (a4.add 33) fun x87 =>
 Ld (.int .i64) w53 (a4.add 34) fun x88 =>
 Ld .slice w53 (a4.add 35) fun x89 =>
 Ld (.int .i64) w53 (a6.add 0) fun x90 =>
 Ld .slice w53 (a6.add 1) fun x91 =>
 Ld .slice w53 (a6.add 2) fun x92 =>
 Ld (.int .i64) w53 (a6.add 3) fun x93 =>
 Ld (.int .i64) w53 (a6.add 4) fun x94 =>
 Ld (.int .i64) w53 (a6.add 5) fun x95 =>
 Ld .slice w53 (a6.add 6) fun x96 =>
 c_view_greedy x54 x55 x56 x57 x58 x59 x60 x61 x62 x63 x64 x65 x66 x67 x68 x69 x70 x71 x72 x73 x74 x75 x76 x77 x78 x79 x80 x81 x82 x83 x84 x85 x86 x87 x88 x89 x90 x91 x92 x93 x94 x95 x96 w53 fun r97 w98 =>
 (bif r97 then
 K 10 w98
 else
 Ld (.int .u8) w98 (a4.add 0) fun x99 =>
 Ld (.int .u8) w98 (a4.add 1) fun x100 =>
 Ld (.int .u8) w98 (a4.add 2) fun x101 =>
 Ld (.int .u8) w98 (a4.add 3) fun x102 =>
 Ld (.int .u8) w98 (a4.add 4) fun x103 =>
 Ld (.int .u8) w98 (a4.add 5) fun x104 =>
 Ld (.int .u8) w98 (a4.add 6) fun x105 =>
 Ld (.int .u8) w98 (a4.add 7) fun x106 =>
 Ld (.int .u8) w98 (a4.add 8) fun x107 =>
 Ld (.int .u8) w98 (a4.add 9) fun x108 =>
 Ld (.int .u8) w98 (a4.add 10) fun x109 =>
 Ld (.int .u8) w98 (a4.add 11) fun x110 =>
 Ld (.int .u8) w98 (a4.add 12) fun x111 =>
 Ld (.int .u8) w98 (a4.add 13) fun x112 =>
 Ld (.int .u8) w98 (a4.add 14) fun x113 =>
 Ld (.int .u8) w98 (a4.add 15) fun x114 =>
 Ld .slice w98 (a4.add 16) fun x115 =>
 Ld .slice w98 (a4.add 17) fun x116 =>
 Ld (.int .i64) w98 (a4.add 18) fun x117 =>
 Ld (.int .i64) w98 (a4.add 19) fun x118 =>
 Ld (.int .i64) w98 (a4.add 20) fun x119 =>
 Ld (.int .i64) w98 (a4.add 21) fun x120 =>
 Ld (.int .i64) w98 (a4.add 22) fun x121 =>
 Ld (.int .i64) w98 (a4.add 23) fun x122 =>
 Ld (.int .i64) w98 (a4.add 24) fun x123 =>
 Ld (.int .i64) w98 (a4.add 25) fun x124 =>
 Ld (.int .i64) w98 (a4.add 26) fun x125 =>
 Ld (.int .i64) w98 (a4.add 27) fun x126 =>
 Ld (.int .i64) w98 (a4.add 28) fun x127 =>
 Ld (.int .i64) w98 (a4.add 29) fun x128 =>
 Ld (.int .i64) w98 (a4.add 30) fun x129 =>
 Ld (.int .i64) w98 (a4.add 31) fun x130 =>
 Ld (.int .i64) w98 (a4.add 32) fun x131 =>
 Ld (.int .i64) w98 (a4.add 33) fun x132 =>
 Ld (.int .i64) w98 (a4.add 34) fun x133 =>
 Ld .slice w98 (a4.add 35) fun x134 =>
 Ld (.int .i64) w98 (a6.add 0) fun x135 =>
 Ld .slice w98 (a6.add 1) fun x136 =>
 Ld .slice w98 (a6.add 2) fun x137 =>
 Ld (.int .i64) w98 (a6.add 3) fun x138 =>
 Ld (.int .i64) w98 (a6.add 4) fun x139 =>
 Ld (.int .i64) w98 (a6.add 5) fun x140 =>
 Ld .slice w98 (a6.add 6) fun x141 =>
 c_view_crowded x99 x100 x101 x102 x103 x104 x105 x106 x107 x108 x109 x110 x111 x112 x113 x114 x115 x116 x117 x118 x119 x120 x121 x122 x123 x124 x125 x126 x127 x128 x129 x130 x131 x132 x133 x134 x135 x136 x137 x138 x139 x140 x141 w98 fun r142 w143 =>
 (bif r142 then
 K 7 w143
 else
 Ld .slice w143.drew (a6.add 1) fun x144 =>
 Ld (.int .u8) w143.drew (a4.add 0) fun x145 =>
 Ld (.int .u8) w143.drew (a4.add 1) fun x146 =>
 Ld (.int .u8) w143.drew (a4.add 2) fun x147 =>
 Ld (.int .u8) w143.drew (a4.add 3) fun x148 =>
 Ld (.int .u8) w143.drew (a4.add 4) fun x149 =>
 Ld (.int .u8) w143.drew (a4.add 5) fun x150 =>
 Ld (.int .u8) w143.drew (a4.add 6) fun x151 =>
 Ld (.int .u8) w143.drew (a4.add 7) fun x152 =>
 Ld (.int .u8) w143.drew (a4.add 8) fun x153 =>
 Ld (.int .u8) w143.drew (a4.add 9) fun x154 =>
 Ld (.int .u8) w143.drew (a4.add 10) fun x155 =>
 Ld (.int .u8) w143.drew (a4.add 11) fun x156 =>
 Ld (.int .u8) w143.drew (a4.add 12) fun x157 =>
 Ld (.int .u8) w143.drew (a4.add 13) fun x158 =>
 Ld (.int .u8) w143.drew (a4.add 14) fun x159 =>
 Ld (.int .u8) w143.drew (a4.add 15) fun x160 =>
 Ld .slice w143.drew (a4.add 16) fun x161 =>
 Ld .slice w143.drew (a4.add 17) fun x162 =>
 Ld (.int .i64) w143.drew (a4.add 18) fun x163 =>
 Ld (.int .i64) w143.drew (a4.add 19) fun x164 =>
 Ld (.int .i64) w143.drew (a4.add 20) fun x165 =>
 Ld (.int .i64) w143.drew (a4.add 21) fun x166 =>
 Ld (.int .i64) w143.drew (a4.add 22) fun x167 =>
 Ld (.int .i64) w143.drew (a4.add 23) fun x168 =>
 Ld (.int .i64) w143.drew (a4.add 24) fun x169 =>
 Ld (.int .i64) w143.drew (a4.add 25) fun x170 =>
 Ld (.int .i64) w143.drew (a4.add 26) fun x171 =>
 Ld (.int .i64) w143.drew (a4.add 27) fun x172 =>
 Ld (.int .i64) w143.drew (a4.add 28) fun x173 =>
 Ld (.int .i64) w143.drew (a4.add 29) fun x174 =>
 Ld (.int .i64) w143.drew (a4.add 30) fun x175 =>
 Ld (.int .i64) w143.drew (a4.add 31) fun x176 =>
 Ld (.int .i64) w143.drew (a4.add 32) fun x177 =>
 Ld (.int .i64) w143.drew (a4.add 33) fun x178 =>
 Ld (.int .i64) w143.drew (a4.add 34) fun x179 =>
 Ld .slice w143.drew (a4.add 35) fun x180 =>
 c_view_foreign x145 x146 x147 x148 x149 x150 x151 x152 x153 x154 x155 x156 x157 x158 x159 x160 x161 x162 x163 x164 x165 x166 x167 x168 x169 x170 x171 x172 x173 x174 x175 x176 x177 x178 x179 x180 w143.drew fun r181 w182 =>
 w182.cell? (a6.add 1) = some (Value.slice x144.a x144.len x144.cap) ∧
 c_slices_ContainsFunc_api_Binding_api_Binding x144 r181 w182 fun r183 w184 =>
 (bif r183 then
 K 12 w184
 else
 Ld .slice w184 (a6.add 2) fun x185 =>
 c_slices_ContainsFunc_api_Session_api_Session x185 (Value.func (.func 48) #[] #[(Value.pointer (some a6))]) w184 fun r186 w187 =>
 (bif r186 then
 K 1 w187
 else
 K 0 w187)))))))
theorem e_view_Within (a0_0 : Int) (a0_1 : Int) (a0_2 : Int) (a0_3 : Int) (a0_4 : Int) (a0_5 : Int) (a0_6 : Int) (a0_7 : Int) (a0_8 : Int) (a0_9 : Int) (a0_10 : Int) (a0_11 : Int) (a0_12 : Int) (a0_13 : Int) (a0_14 : Int) (a0_15 : Int) (a0_16 : SliceV) (a0_17 : SliceV) (a0_18 : Int) (a0_19 : Int) (a0_20 : Int) (a0_21 : Int) (a0_22 : Int) (a0_23 : Int) (a0_24 : Int) (a0_25 : Int) (a0_26 : Int) (a0_27 : Int) (a0_28 : Int) (a0_29 : Int) (a0_30 : Int) (a0_31 : Int) (a0_32 : Int) (a0_33 : Int) (a0_34 : Int) (a0_35 : SliceV) (a1_0 : Int) (a1_1 : SliceV) (a1_2 : SliceV) (a1_3 : Int) (a1_4 : Int) (a1_5 : Int) (a1_6 : SliceV) (w : World) (K : Int → World → Prop) : den Try.prog 36 (bodyOf Try.f24) none (.seq .leaf (.seq (.seq .leaf (.seq .leaf (.cond (.seq .leaf .leaf) .leaf))) (.seq .leaf (.seq (.blk (.seq .leaf (.cond (.seq .leaf .leaf) (.seq .leaf (.cond (.seq .leaf .leaf) (.seq .leaf (.cond (.seq .leaf .leaf) (.seq .leaf (.cond (.seq .leaf .leaf) (.seq .leaf (.cond (.seq .leaf .leaf) .leaf))))))))))) (.seq .leaf .leaf))))) (argEnv 0 [(Value.agg ⟨((Value.int .u8 a0_0) :: (Value.int .u8 a0_1) :: (Value.int .u8 a0_2) :: (Value.int .u8 a0_3) :: (Value.int .u8 a0_4) :: (Value.int .u8 a0_5) :: (Value.int .u8 a0_6) :: (Value.int .u8 a0_7) :: (Value.int .u8 a0_8) :: (Value.int .u8 a0_9) :: (Value.int .u8 a0_10) :: (Value.int .u8 a0_11) :: (Value.int .u8 a0_12) :: (Value.int .u8 a0_13) :: (Value.int .u8 a0_14) :: (Value.int .u8 a0_15) :: (Value.slice a0_16.a a0_16.len a0_16.cap) :: (Value.slice a0_17.a a0_17.len a0_17.cap) :: (Value.int .i64 a0_18) :: (Value.int .i64 a0_19) :: (Value.int .i64 a0_20) :: (Value.int .i64 a0_21) :: (Value.int .i64 a0_22) :: (Value.int .i64 a0_23) :: (Value.int .i64 a0_24) :: (Value.int .i64 a0_25) :: (Value.int .i64 a0_26) :: (Value.int .i64 a0_27) :: (Value.int .i64 a0_28) :: (Value.int .i64 a0_29) :: (Value.int .i64 a0_30) :: (Value.int .i64 a0_31) :: (Value.int .i64 a0_32) :: (Value.int .i64 a0_33) :: (Value.int .i64 a0_34) :: (Value.slice a0_35.a a0_35.len a0_35.cap) :: [])⟩), (Value.agg ⟨[(Value.int .i64 a1_0), (Value.slice a1_1.a a1_1.len a1_1.cap), (Value.slice a1_2.a a1_2.len a1_2.cap), (Value.int .i64 a1_3), (Value.int .i64 a1_4), (Value.int .i64 a1_5), (Value.slice a1_6.a a1_6.len a1_6.cap)]⟩)]) [] w (retK Try.prog [.tmp 4] [.one (.int .i64)] K) = s_view_Within a0_0 a0_1 a0_2 a0_3 a0_4 a0_5 a0_6 a0_7 a0_8 a0_9 a0_10 a0_11 a0_12 a0_13 a0_14 a0_15 a0_16 a0_17 a0_18 a0_19 a0_20 a0_21 a0_22 a0_23 a0_24 a0_25 a0_26 a0_27 a0_28 a0_29 a0_30 a0_31 a0_32 a0_33 a0_34 a0_35 a1_0 a1_1 a1_2 a1_3 a1_4 a1_5 a1_6 w K := by kernel_rfl
theorem ok_view_Within {a0_0 a0_1 a0_2 a0_3 a0_4 a0_5 a0_6 a0_7 a0_8 a0_9 a0_10 a0_11 a0_12 a0_13 a0_14 a0_15 a0_16 a0_17 a0_18 a0_19 a0_20 a0_21 a0_22 a0_23 a0_24 a0_25 a0_26 a0_27 a0_28 a0_29 a0_30 a0_31 a0_32 a0_33 a0_34 a0_35 a1_0 a1_1 a1_2 a1_3 a1_4 a1_5 a1_6 w K} (h : s_view_Within a0_0 a0_1 a0_2 a0_3 a0_4 a0_5 a0_6 a0_7 a0_8 a0_9 a0_10 a0_11 a0_12 a0_13 a0_14 a0_15 a0_16 a0_17 a0_18 a0_19 a0_20 a0_21 a0_22 a0_23 a0_24 a0_25 a0_26 a0_27 a0_28 a0_29 a0_30 a0_31 a0_32 a0_33 a0_34 a0_35 a1_0 a1_1 a1_2 a1_3 a1_4 a1_5 a1_6 w K) : c_view_Within a0_0 a0_1 a0_2 a0_3 a0_4 a0_5 a0_6 a0_7 a0_8 a0_9 a0_10 a0_11 a0_12 a0_13 a0_14 a0_15 a0_16 a0_17 a0_18 a0_19 a0_20 a0_21 a0_22 a0_23 a0_24 a0_25 a0_26 a0_27 a0_28 a0_29 a0_30 a0_31 a0_32 a0_33 a0_34 a0_35 a1_0 a1_1 a1_2 a1_3 a1_4 a1_5 a1_6 w K :=
  fn_sound pok Try.func24 (fn := Try.f24) (c := bodyOf Try.f24) (nt := 36) (by kernel_rfl) (by kernel_rfl) (rs := [.tmp 4]) (by kernel_rfl) [.one (.int .i64)] K (.seq .leaf (.seq (.seq .leaf (.seq .leaf (.cond (.seq .leaf .leaf) .leaf))) (.seq .leaf (.seq (.blk (.seq .leaf (.cond (.seq .leaf .leaf) (.seq .leaf (.cond (.seq .leaf .leaf) (.seq .leaf (.cond (.seq .leaf .leaf) (.seq .leaf (.cond (.seq .leaf .leaf) (.seq .leaf (.cond (.seq .leaf .leaf) .leaf))))))))))) (.seq .leaf .leaf))))) [(Value.agg ⟨((Value.int .u8 a0_0) :: (Value.int .u8 a0_1) :: (Value.int .u8 a0_2) :: (Value.int .u8 a0_3) :: (Value.int .u8 a0_4) :: (Value.int .u8 a0_5) :: (Value.int .u8 a0_6) :: (Value.int .u8 a0_7) :: (Value.int .u8 a0_8) :: (Value.int .u8 a0_9) :: (Value.int .u8 a0_10) :: (Value.int .u8 a0_11) :: (Value.int .u8 a0_12) :: (Value.int .u8 a0_13) :: (Value.int .u8 a0_14) :: (Value.int .u8 a0_15) :: (Value.slice a0_16.a a0_16.len a0_16.cap) :: (Value.slice a0_17.a a0_17.len a0_17.cap) :: (Value.int .i64 a0_18) :: (Value.int .i64 a0_19) :: (Value.int .i64 a0_20) :: (Value.int .i64 a0_21) :: (Value.int .i64 a0_22) :: (Value.int .i64 a0_23) :: (Value.int .i64 a0_24) :: (Value.int .i64 a0_25) :: (Value.int .i64 a0_26) :: (Value.int .i64 a0_27) :: (Value.int .i64 a0_28) :: (Value.int .i64 a0_29) :: (Value.int .i64 a0_30) :: (Value.int .i64 a0_31) :: (Value.int .i64 a0_32) :: (Value.int .i64 a0_33) :: (Value.int .i64 a0_34) :: (Value.slice a0_35.a a0_35.len a0_35.cap) :: [])⟩), (Value.agg ⟨[(Value.int .i64 a1_0), (Value.slice a1_1.a a1_1.len a1_1.cap), (Value.slice a1_2.a a1_2.len a1_2.cap), (Value.int .i64 a1_3), (Value.int .i64 a1_4), (Value.int .i64 a1_5), (Value.slice a1_6.a a1_6.len a1_6.cap)]⟩)] (by kernel_rfl) w ((e_view_Within a0_0 a0_1 a0_2 a0_3 a0_4 a0_5 a0_6 a0_7 a0_8 a0_9 a0_10 a0_11 a0_12 a0_13 a0_14 a0_15 a0_16 a0_17 a0_18 a0_19 a0_20 a0_21 a0_22 a0_23 a0_24 a0_25 a0_26 a0_27 a0_28 a0_29 a0_30 a0_31 a0_32 a0_33 a0_34 a0_35 a1_0 a1_1 a1_2 a1_3 a1_4 a1_5 a1_6 w K).mpr h)

/-- goosepond/view.Injective -/
def s_view_Injective (a0_0 : Int) (a0_1 : SliceV) (a0_2 : SliceV) (a0_3 : Int) (a0_4 : Int) (a0_5 : Int) (a0_6 : SliceV) (w : World) (K : Bool → World → Prop) : Prop :=
 (Al w (.cells ⟨[(Value.int .i64 a0_0), (Value.slice a0_1.a a0_1.len a0_1.cap), (Value.slice a0_2.a a0_2.len a0_2.cap), (Value.int .i64 a0_3), (Value.int .i64 a0_4), (Value.int .i64 a0_5), (Value.slice a0_6.a a0_6.len a0_6.cap)]⟩ 55) fun a3 w2 =>
 let J4 : Bool → World → Prop := fun j5 w6 =>
 (K j5 w6)
 Ld .slice w2 (a3.add 1) fun x7 =>
 c_view_each_api_Binding_api_Inner x7 (Value.func (.func 56) #[] #[]) w2 fun r8 w9 =>
 c_view_once_api_Inner r8 w9 fun r10 w11 =>
 (bif r10 then
 Ld .slice w11 (a3.add 1) fun x12 =>
 c_view_each_api_Binding_api_Outer x12 (Value.func (.func 59) #[] #[]) w11 fun r13 w14 =>
 c_view_once_api_Outer r13 w14 fun r15 w16 =>
 J4 r15 w16
 else
 J4 false w11))
theorem e_view_Injective (a0_0 : Int) (a0_1 : SliceV) (a0_2 : SliceV) (a0_3 : Int) (a0_4 : Int) (a0_5 : Int) (a0_6 : SliceV) (w : World) (K : Bool → World → Prop) : den Try.prog 13 (bodyOf Try.f25) none (.seq .leaf (.seq .leaf .leaf)) (argEnv 0 [(Value.agg ⟨[(Value.int .i64 a0_0), (Value.slice a0_1.a a0_1.len a0_1.cap), (Value.slice a0_2.a a0_2.len a0_2.cap), (Value.int .i64 a0_3), (Value.int .i64 a0_4), (Value.int .i64 a0_5), (Value.slice a0_6.a a0_6.len a0_6.cap)]⟩)]) [] w (retK Try.prog [.tmp 2] [.one .bool] K) = s_view_Injective a0_0 a0_1 a0_2 a0_3 a0_4 a0_5 a0_6 w K := by kernel_rfl
theorem ok_view_Injective {a0_0 a0_1 a0_2 a0_3 a0_4 a0_5 a0_6 w K} (h : s_view_Injective a0_0 a0_1 a0_2 a0_3 a0_4 a0_5 a0_6 w K) : c_view_Injective a0_0 a0_1 a0_2 a0_3 a0_4 a0_5 a0_6 w K :=
  fn_sound pok Try.func25 (fn := Try.f25) (c := bodyOf Try.f25) (nt := 13) (by kernel_rfl) (by kernel_rfl) (rs := [.tmp 2]) (by kernel_rfl) [.one .bool] K (.seq .leaf (.seq .leaf .leaf)) [(Value.agg ⟨[(Value.int .i64 a0_0), (Value.slice a0_1.a a0_1.len a0_1.cap), (Value.slice a0_2.a a0_2.len a0_2.cap), (Value.int .i64 a0_3), (Value.int .i64 a0_4), (Value.int .i64 a0_5), (Value.slice a0_6.a a0_6.len a0_6.cap)]⟩)] (by kernel_rfl) w ((e_view_Injective a0_0 a0_1 a0_2 a0_3 a0_4 a0_5 a0_6 w K).mpr h)

/-- goosepond/goosepondlaw38.few -/
def s_law38_few (a0_0 : Int) (a0_1 : SliceV) (a0_2 : SliceV) (a0_3 : Int) (a0_4 : Int) (a0_5 : Int) (a0_6 : SliceV) (w : World) (K : Bool → World → Prop) : Prop :=
 (Al w (.cells ⟨[(Value.int .i64 a0_0), (Value.slice a0_1.a a0_1.len a0_1.cap), (Value.slice a0_2.a a0_2.len a0_2.cap), (Value.int .i64 a0_3), (Value.int .i64 a0_4), (Value.int .i64 a0_5), (Value.slice a0_6.a a0_6.len a0_6.cap)]⟩ 55) fun a3 w2 =>
 let J4 : Bool → Prop := fun j5 =>
 (K j5 w2)
 Ld .slice w2 (a3.add 1) fun x6 =>
 (bif (decide ((x6.len : Int) ≤ 60)) then
 Ld .slice w2 (a3.add 2) fun x7 =>
 (bif (decide ((x7.len : Int) ≤ 100)) then
 Ld .slice w2 (a3.add 6) fun x8 =>
 J4 (decide ((x8.len : Int) ≤ 100))
 else
 J4 false)
 else
 J4 false))
theorem e_law38_few (a0_0 : Int) (a0_1 : SliceV) (a0_2 : SliceV) (a0_3 : Int) (a0_4 : Int) (a0_5 : Int) (a0_6 : SliceV) (w : World) (K : Bool → World → Prop) : den Try.prog 19 (bodyOf Try.f26) none (.seq .leaf (.seq .leaf .leaf)) (argEnv 0 [(Value.agg ⟨[(Value.int .i64 a0_0), (Value.slice a0_1.a a0_1.len a0_1.cap), (Value.slice a0_2.a a0_2.len a0_2.cap), (Value.int .i64 a0_3), (Value.int .i64 a0_4), (Value.int .i64 a0_5), (Value.slice a0_6.a a0_6.len a0_6.cap)]⟩)]) [] w (retK Try.prog [.tmp 2] [.one .bool] K) = s_law38_few a0_0 a0_1 a0_2 a0_3 a0_4 a0_5 a0_6 w K := by kernel_rfl
theorem ok_law38_few {a0_0 a0_1 a0_2 a0_3 a0_4 a0_5 a0_6 w K} (h : s_law38_few a0_0 a0_1 a0_2 a0_3 a0_4 a0_5 a0_6 w K) : c_law38_few a0_0 a0_1 a0_2 a0_3 a0_4 a0_5 a0_6 w K :=
  fn_sound pok Try.func26 (fn := Try.f26) (c := bodyOf Try.f26) (nt := 19) (by kernel_rfl) (by kernel_rfl) (rs := [.tmp 2]) (by kernel_rfl) [.one .bool] K (.seq .leaf (.seq .leaf .leaf)) [(Value.agg ⟨[(Value.int .i64 a0_0), (Value.slice a0_1.a a0_1.len a0_1.cap), (Value.slice a0_2.a a0_2.len a0_2.cap), (Value.int .i64 a0_3), (Value.int .i64 a0_4), (Value.int .i64 a0_5), (Value.slice a0_6.a a0_6.len a0_6.cap)]⟩)] (by kernel_rfl) w ((e_law38_few a0_0 a0_1 a0_2 a0_3 a0_4 a0_5 a0_6 w K).mpr h)

/-- goosepond/goosepondplain.Small -/
def s_plain_Small (a0_0 : Int) (a0_1 : Int) (a0_2 : Int) (a0_3 : Int) (a0_4 : Int) (a0_5 : Int) (a0_6 : Int) (a0_7 : Int) (a0_8 : Int) (a0_9 : Int) (a0_10 : Int) (a0_11 : Int) (a0_12 : Int) (a0_13 : Int) (a0_14 : Int) (a0_15 : Int) (a0_16 : SliceV) (a0_17 : SliceV) (a0_18 : Int) (a0_19 : Int) (a0_20 : Int) (a0_21 : Int) (a0_22 : Int) (a0_23 : Int) (a0_24 : Int) (a0_25 : Int) (a0_26 : Int) (a0_27 : Int) (a0_28 : Int) (a0_29 : Int) (a0_30 : Int) (a0_31 : Int) (a0_32 : Int) (a0_33 : Int) (a0_34 : Int) (a0_35 : SliceV) (w : World) (K : Bool → World → Prop) : Prop :=
 (Al w (.cells ⟨((Value.int .u8 a0_0) :: (Value.int .u8 a0_1) :: (Value.int .u8 a0_2) :: (Value.int .u8 a0_3) :: (Value.int .u8 a0_4) :: (Value.int .u8 a0_5) :: (Value.int .u8 a0_6) :: (Value.int .u8 a0_7) :: (Value.int .u8 a0_8) :: (Value.int .u8 a0_9) :: (Value.int .u8 a0_10) :: (Value.int .u8 a0_11) :: (Value.int .u8 a0_12) :: (Value.int .u8 a0_13) :: (Value.int .u8 a0_14) :: (Value.int .u8 a0_15) :: (Value.slice a0_16.a a0_16.len a0_16.cap) :: (Value.slice a0_17.a a0_17.len a0_17.cap) :: (Value.int .i64 a0_18) :: (Value.int .i64 a0_19) :: (Value.int .i64 a0_20) :: (Value.int .i64 a0_21) :: (Value.int .i64 a0_22) :: (Value.int .i64 a0_23) :: (Value.int .i64 a0_24) :: (Value.int .i64 a0_25) :: (Value.int .i64 a0_26) :: (Value.int .i64 a0_27) :: (Value.int .i64 a0_28) :: (Value.int .i64 a0_29) :: (Value.int .i64 a0_30) :: (Value.int .i64 a0_31) :: (Value.int .i64 a0_32) :: (Value.int .i64 a0_33) :: (Value.int .i64 a0_34) :: (Value.slice a0_35.a a0_35.len a0_35.cap) :: [])⟩ 42) fun a3 w2 =>
 let J4 : Bool → Prop := fun j5 =>
 (K j5 w2)
 Ld .slice w2 (a3.add 16) fun x6 =>
 (bif (decide ((x6.len : Int) ≤ 8)) then
 Ld .slice w2 (a3.add 17) fun x7 =>
 (bif (decide ((x7.len : Int) ≤ 4)) then
 Ld .slice w2 (a3.add 35) fun x8 =>
 J4 (decide ((x8.len : Int) ≤ 12))
 else
 J4 false)
 else
 J4 false))
theorem e_plain_Small (a0_0 : Int) (a0_1 : Int) (a0_2 : Int) (a0_3 : Int) (a0_4 : Int) (a0_5 : Int) (a0_6 : Int) (a0_7 : Int) (a0_8 : Int) (a0_9 : Int) (a0_10 : Int) (a0_11 : Int) (a0_12 : Int) (a0_13 : Int) (a0_14 : Int) (a0_15 : Int) (a0_16 : SliceV) (a0_17 : SliceV) (a0_18 : Int) (a0_19 : Int) (a0_20 : Int) (a0_21 : Int) (a0_22 : Int) (a0_23 : Int) (a0_24 : Int) (a0_25 : Int) (a0_26 : Int) (a0_27 : Int) (a0_28 : Int) (a0_29 : Int) (a0_30 : Int) (a0_31 : Int) (a0_32 : Int) (a0_33 : Int) (a0_34 : Int) (a0_35 : SliceV) (w : World) (K : Bool → World → Prop) : den Try.prog 19 (bodyOf Try.f27) none (.seq .leaf (.seq .leaf .leaf)) (argEnv 0 [(Value.agg ⟨((Value.int .u8 a0_0) :: (Value.int .u8 a0_1) :: (Value.int .u8 a0_2) :: (Value.int .u8 a0_3) :: (Value.int .u8 a0_4) :: (Value.int .u8 a0_5) :: (Value.int .u8 a0_6) :: (Value.int .u8 a0_7) :: (Value.int .u8 a0_8) :: (Value.int .u8 a0_9) :: (Value.int .u8 a0_10) :: (Value.int .u8 a0_11) :: (Value.int .u8 a0_12) :: (Value.int .u8 a0_13) :: (Value.int .u8 a0_14) :: (Value.int .u8 a0_15) :: (Value.slice a0_16.a a0_16.len a0_16.cap) :: (Value.slice a0_17.a a0_17.len a0_17.cap) :: (Value.int .i64 a0_18) :: (Value.int .i64 a0_19) :: (Value.int .i64 a0_20) :: (Value.int .i64 a0_21) :: (Value.int .i64 a0_22) :: (Value.int .i64 a0_23) :: (Value.int .i64 a0_24) :: (Value.int .i64 a0_25) :: (Value.int .i64 a0_26) :: (Value.int .i64 a0_27) :: (Value.int .i64 a0_28) :: (Value.int .i64 a0_29) :: (Value.int .i64 a0_30) :: (Value.int .i64 a0_31) :: (Value.int .i64 a0_32) :: (Value.int .i64 a0_33) :: (Value.int .i64 a0_34) :: (Value.slice a0_35.a a0_35.len a0_35.cap) :: [])⟩)]) [] w (retK Try.prog [.tmp 2] [.one .bool] K) = s_plain_Small a0_0 a0_1 a0_2 a0_3 a0_4 a0_5 a0_6 a0_7 a0_8 a0_9 a0_10 a0_11 a0_12 a0_13 a0_14 a0_15 a0_16 a0_17 a0_18 a0_19 a0_20 a0_21 a0_22 a0_23 a0_24 a0_25 a0_26 a0_27 a0_28 a0_29 a0_30 a0_31 a0_32 a0_33 a0_34 a0_35 w K := by kernel_rfl
theorem ok_plain_Small {a0_0 a0_1 a0_2 a0_3 a0_4 a0_5 a0_6 a0_7 a0_8 a0_9 a0_10 a0_11 a0_12 a0_13 a0_14 a0_15 a0_16 a0_17 a0_18 a0_19 a0_20 a0_21 a0_22 a0_23 a0_24 a0_25 a0_26 a0_27 a0_28 a0_29 a0_30 a0_31 a0_32 a0_33 a0_34 a0_35 w K} (h : s_plain_Small a0_0 a0_1 a0_2 a0_3 a0_4 a0_5 a0_6 a0_7 a0_8 a0_9 a0_10 a0_11 a0_12 a0_13 a0_14 a0_15 a0_16 a0_17 a0_18 a0_19 a0_20 a0_21 a0_22 a0_23 a0_24 a0_25 a0_26 a0_27 a0_28 a0_29 a0_30 a0_31 a0_32 a0_33 a0_34 a0_35 w K) : c_plain_Small a0_0 a0_1 a0_2 a0_3 a0_4 a0_5 a0_6 a0_7 a0_8 a0_9 a0_10 a0_11 a0_12 a0_13 a0_14 a0_15 a0_16 a0_17 a0_18 a0_19 a0_20 a0_21 a0_22 a0_23 a0_24 a0_25 a0_26 a0_27 a0_28 a0_29 a0_30 a0_31 a0_32 a0_33 a0_34 a0_35 w K :=
  fn_sound pok Try.func27 (fn := Try.f27) (c := bodyOf Try.f27) (nt := 19) (by kernel_rfl) (by kernel_rfl) (rs := [.tmp 2]) (by kernel_rfl) [.one .bool] K (.seq .leaf (.seq .leaf .leaf)) [(Value.agg ⟨((Value.int .u8 a0_0) :: (Value.int .u8 a0_1) :: (Value.int .u8 a0_2) :: (Value.int .u8 a0_3) :: (Value.int .u8 a0_4) :: (Value.int .u8 a0_5) :: (Value.int .u8 a0_6) :: (Value.int .u8 a0_7) :: (Value.int .u8 a0_8) :: (Value.int .u8 a0_9) :: (Value.int .u8 a0_10) :: (Value.int .u8 a0_11) :: (Value.int .u8 a0_12) :: (Value.int .u8 a0_13) :: (Value.int .u8 a0_14) :: (Value.int .u8 a0_15) :: (Value.slice a0_16.a a0_16.len a0_16.cap) :: (Value.slice a0_17.a a0_17.len a0_17.cap) :: (Value.int .i64 a0_18) :: (Value.int .i64 a0_19) :: (Value.int .i64 a0_20) :: (Value.int .i64 a0_21) :: (Value.int .i64 a0_22) :: (Value.int .i64 a0_23) :: (Value.int .i64 a0_24) :: (Value.int .i64 a0_25) :: (Value.int .i64 a0_26) :: (Value.int .i64 a0_27) :: (Value.int .i64 a0_28) :: (Value.int .i64 a0_29) :: (Value.int .i64 a0_30) :: (Value.int .i64 a0_31) :: (Value.int .i64 a0_32) :: (Value.int .i64 a0_33) :: (Value.int .i64 a0_34) :: (Value.slice a0_35.a a0_35.len a0_35.cap) :: [])⟩)] (by kernel_rfl) w ((e_plain_Small a0_0 a0_1 a0_2 a0_3 a0_4 a0_5 a0_6 a0_7 a0_8 a0_9 a0_10 a0_11 a0_12 a0_13 a0_14 a0_15 a0_16 a0_17 a0_18 a0_19 a0_20 a0_21 a0_22 a0_23 a0_24 a0_25 a0_26 a0_27 a0_28 a0_29 a0_30 a0_31 a0_32 a0_33 a0_34 a0_35 w K).mpr h)

/-- goosepond/view.Owner -/
def s_view_Owner (a0_0 : Int) (a0_1 : SliceV) (a0_2 : SliceV) (a0_3 : Int) (a0_4 : Int) (a0_5 : Int) (a0_6 : SliceV) (a1_0 : Int) (a1_1 : Int) (a1_2 : Int) (w : World) (K : Int → Bool → World → Prop) : Prop :=
 (Al w (.cells ⟨[(Value.int .i64 a0_0), (Value.slice a0_1.a a0_1.len a0_1.cap), (Value.slice a0_2.a a0_2.len a0_2.cap), (Value.int .i64 a0_3), (Value.int .i64 a0_4), (Value.int .i64 a0_5), (Value.slice a0_6.a a0_6.len a0_6.cap)]⟩ 55) fun a4 w3 =>
 Al w3 (.cells ⟨[(Value.int .i64 a1_0), (Value.int .i64 a1_1), (Value.int .i64 a1_2)]⟩ 32) fun a6 w5 =>
 Ld .slice w5 (a4.add 1) fun x7 =>
 c_slices_IndexFunc_api_Binding_api_Binding x7 (Value.func (.func 61) #[] #[(Value.pointer (some a6))]) w5 fun r8 w9 =>
 (bif (decide (r8 < 0)) then
 K 0 false w9
 else
 Ld .slice w9 (a4.add 1) fun x10 =>
 AtIx x10 8 r8 fun a11 =>
 Ld (.int .i64) w9 a11 fun x12 =>
 K x12 true w9))
theorem e_view_Owner (a0_0 : Int) (a0_1 : SliceV) (a0_2 : SliceV) (a0_3 : Int) (a0_4 : Int) (a0_5 : Int) (a0_6 : SliceV) (a1_0 : Int) (a1_1 : Int) (a1_2 : Int) (w : World) (K : Int → Bool → World → Prop) : den Try.prog 20 (bodyOf Try.f28) none (.seq .leaf (.seq .leaf (.seq (.seq .leaf (.cond (.seq .leaf .leaf) .leaf)) (.seq .leaf .leaf)))) (argEnv 0 [(Value.agg ⟨[(Value.int .i64 a0_0), (Value.slice a0_1.a a0_1.len a0_1.cap), (Value.slice a0_2.a a0_2.len a0_2.cap), (Value.int .i64 a0_3), (Value.int .i64 a0_4), (Value.int .i64 a0_5), (Value.slice a0_6.a a0_6.len a0_6.cap)]⟩), (Value.agg ⟨[(Value.int .i64 a1_0), (Value.int .i64 a1_1), (Value.int .i64 a1_2)]⟩)]) [] w (retK Try.prog [.tmp 4, .tmp 5] [.one (.int .i64), .one .bool] K) = s_view_Owner a0_0 a0_1 a0_2 a0_3 a0_4 a0_5 a0_6 a1_0 a1_1 a1_2 w K := by kernel_rfl
theorem ok_view_Owner {a0_0 a0_1 a0_2 a0_3 a0_4 a0_5 a0_6 a1_0 a1_1 a1_2 w K} (h : s_view_Owner a0_0 a0_1 a0_2 a0_3 a0_4 a0_5 a0_6 a1_0 a1_1 a1_2 w K) : c_view_Owner a0_0 a0_1 a0_2 a0_3 a0_4 a0_5 a0_6 a1_0 a1_1 a1_2 w K :=
  fn_sound pok Try.func28 (fn := Try.f28) (c := bodyOf Try.f28) (nt := 20) (by kernel_rfl) (by kernel_rfl) (rs := [.tmp 4, .tmp 5]) (by kernel_rfl) [.one (.int .i64), .one .bool] K (.seq .leaf (.seq .leaf (.seq (.seq .leaf (.cond (.seq .leaf .leaf) .leaf)) (.seq .leaf .leaf)))) [(Value.agg ⟨[(Value.int .i64 a0_0), (Value.slice a0_1.a a0_1.len a0_1.cap), (Value.slice a0_2.a a0_2.len a0_2.cap), (Value.int .i64 a0_3), (Value.int .i64 a0_4), (Value.int .i64 a0_5), (Value.slice a0_6.a a0_6.len a0_6.cap)]⟩), (Value.agg ⟨[(Value.int .i64 a1_0), (Value.int .i64 a1_1), (Value.int .i64 a1_2)]⟩)] (by kernel_rfl) w ((e_view_Owner a0_0 a0_1 a0_2 a0_3 a0_4 a0_5 a0_6 a1_0 a1_1 a1_2 w K).mpr h)

/-- goosepond/view.Within$1 -/
def s_view_Within_1 (a0_0 : Int) (a0_1 : Int) (a0_2 : Int) (a0_3 : Int) (a0_4 : Int) (f0 : Addr) (w : World) (K : Bool → World → Prop) : Prop :=
 (Al w (.cells ⟨[(Value.int .i64 a0_0), (Value.int .i64 a0_1), (Value.int .i64 a0_2), (Value.int .i64 a0_3), (Value.int .i64 a0_4)]⟩ 87) fun a3 w2 =>
 let J4 : Bool → Prop := fun j5 =>
 (K j5 w2)
 Ld (.int .i64) w2 a3 fun x6 =>
 (bif (decide (x6 < 0)) then
 J4 true
 else
 Ld (.int .i64) w2 a3 fun x7 =>
 Ld .slice w2 (f0.add 1) fun x8 =>
 J4 (decide (x7 ≥ (x8.len : Int)))))
theorem e_view_Within_1 (a0_0 : Int) (a0_1 : Int) (a0_2 : Int) (a0_3 : Int) (a0_4 : Int) (f0 : Addr) (w : World) (K : Bool → World → Prop) : den Try.prog 15 (bodyOf Try.f48) none (.seq .leaf (.seq .leaf .leaf)) (argEnv 0 [(Value.agg ⟨[(Value.int .i64 a0_0), (Value.int .i64 a0_1), (Value.int .i64 a0_2), (Value.int .i64 a0_3), (Value.int .i64 a0_4)]⟩), (Value.pointer (some f0))]) [] w (retK Try.prog [.tmp 3] [.one .bool] K) = s_view_Within_1 a0_0 a0_1 a0_2 a0_3 a0_4 f0 w K := by kernel_rfl
theorem ok_view_Within_1 {a0_0 a0_1 a0_2 a0_3 a0_4 f0 w K} (h : s_view_Within_1 a0_0 a0_1 a0_2 a0_3 a0_4 f0 w K) : c_view_Within_1 a0_0 a0_1 a0_2 a0_3 a0_4 f0 w K :=
  fn_sound pok Try.func48 (fn := Try.f48) (c := bodyOf Try.f48) (nt := 15) (by kernel_rfl) (by kernel_rfl) (rs := [.tmp 3]) (by kernel_rfl) [.one .bool] K (.seq .leaf (.seq .leaf .leaf)) [(Value.agg ⟨[(Value.int .i64 a0_0), (Value.int .i64 a0_1), (Value.int .i64 a0_2), (Value.int .i64 a0_3), (Value.int .i64 a0_4)]⟩), (Value.pointer (some f0))] (by kernel_rfl) w ((e_view_Within_1 a0_0 a0_1 a0_2 a0_3 a0_4 f0 w K).mpr h)

/-- goosepond/view.greedy -/
def s_view_greedy (a0_0 : Int) (a0_1 : Int) (a0_2 : Int) (a0_3 : Int) (a0_4 : Int) (a0_5 : Int) (a0_6 : Int) (a0_7 : Int) (a0_8 : Int) (a0_9 : Int) (a0_10 : Int) (a0_11 : Int) (a0_12 : Int) (a0_13 : Int) (a0_14 : Int) (a0_15 : Int) (a0_16 : SliceV) (a0_17 : SliceV) (a0_18 : Int) (a0_19 : Int) (a0_20 : Int) (a0_21 : Int) (a0_22 : Int) (a0_23 : Int) (a0_24 : Int) (a0_25 : Int) (a0_26 : Int) (a0_27 : Int) (a0_28 : Int) (a0_29 : Int) (a0_30 : Int) (a0_31 : Int) (a0_32 : Int) (a0_33 : Int) (a0_34 : Int) (a0_35 : SliceV) (a1_0 : Int) (a1_1 : SliceV) (a1_2 : SliceV) (a1_3 : Int) (a1_4 : Int) (a1_5 : Int) (a1_6 : SliceV) (w : World) (K : Bool → World → Prop) : Prop :=
 (Al w (.cells ⟨((Value.int .u8 a0_0) :: (Value.int .u8 a0_1) :: (Value.int .u8 a0_2) :: (Value.int .u8 a0_3) :: (Value.int .u8 a0_4) :: (Value.int .u8 a0_5) :: (Value.int .u8 a0_6) :: (Value.int .u8 a0_7) :: (Value.int .u8 a0_8) :: (Value.int .u8 a0_9) :: (Value.int .u8 a0_10) :: (Value.int .u8 a0_11) :: (Value.int .u8 a0_12) :: (Value.int .u8 a0_13) :: (Value.int .u8 a0_14) :: (Value.int .u8 a0_15) :: (Value.slice a0_16.a a0_16.len a0_16.cap) :: (Value.slice a0_17.a a0_17.len a0_17.cap) :: (Value.int .i64 a0_18) :: (Value.int .i64 a0_19) :: (Value.int .i64 a0_20) :: (Value.int .i64 a0_21) :: (Value.int .i64 a0_22) :: (Value.int .i64 a0_23) :: (Value.int .i64 a0_24) :: (Value.int .i64 a0_25) :: (Value.int .i64 a0_26) :: (Value.int .i64 a0_27) :: (Value.int .i64 a0_28) :: (Value.int .i64 a0_29) :: (Value.int .i64 a0_30) :: (Value.int .i64 a0_31) :: (Value.int .i64 a0_32) :: (Value.int .i64 a0_33) :: (Value.int .i64 a0_34) :: (Value.slice a0_35.a a0_35.len a0_35.cap) :: [])⟩ 42) fun a4 w3 =>
 Al w3 (.cells ⟨[(Value.int .i64 a1_0), (Value.slice a1_1.a a1_1.len a1_1.cap), (Value.slice a1_2.a a1_2.len a1_2.cap), (Value.int .i64 a1_3), (Value.int .i64 a1_4), (Value.int .i64 a1_5), (Value.slice a1_6.a a1_6.len a1_6.cap)]⟩ 55) fun a6 w5 =>
 Al w5 (.map #[] 0) fun a8 w7 =>
 Ld .slice w7 (a6.add 1) fun x9 =>
 LoopP (S := Int × Unit) (fun s10 w11 next12 =>
 (bif (decide (s10.1 < (x9.len : Int))) then
 AtIx x9 8 s10.1 fun a13 =>
 Ld (.int .i64) w11 (a13.add 0) fun x14 =>
 Ld (.int .i64) w11 (a13.add 1) fun x15 =>
 Ld (.int .i64) w11 (a13.add 2) fun x16 =>
 Ld (.int .i64) w11 (a13.add 3) fun x17 =>
 Ld (.int .i64) w11 (a13.add 4) fun x18 =>
 Ld (.int .i64) w11 (a13.add 5) fun x19 =>
 Ld (.int .i64) w11 (a13.add 6) fun x20 =>
 Ld .bool w11 (a13.add 7) fun x21 =>
 Al w11 (.cells ⟨[(Value.int .i64 0), (Value.int .i64 0), (Value.int .i64 0), (Value.int .i64 0), (Value.int .i64 0), (Value.int .i64 0), (Value.int .i64 0), (Value.bool false)]⟩ 61) fun a23 w22 =>
 StN [(Value.int .i64 x14), (Value.int .i64 x15), (Value.int .i64 x16), (Value.int .i64 x17), (Value.int .i64 x18), (Value.int .i64 x19), (Value.int .i64 x20), (Value.bool x21)] w22 a23 0 fun w24 =>
 Ld (.int .i64) w24 a23 fun x25 =>
 MapGet Try.prog 3 (.int .i64) (some w5.heap.size) (Value.int .i64 x25) (Value.int .i64 0) w24 fun x26 =>
 MapSet Try.prog 3 (some w5.heap.size) (Value.int .i64 x25) (Value.int .i64 (IntKind.i64.wrap (x26 + 1))) w24 fun w27 =>
 Ld (.int .i64) w27 a23 fun x28 =>
 MapGet Try.prog 3 (.int .i64) (some w5.heap.size) (Value.int .i64 x28) (Value.int .i64 0) w27 fun x29 =>
 Ld (.int .i64) w27 (a4.add 20) fun x30 =>
 (bif (decide (x29 > x30)) then
 K true w27
 else
 next12 ((IntKind.i64.wrap (s10.1 + 1)), ()) w27)
 else
 K false w11)) (0, ()) w7)
theorem e_view_greedy (a0_0 : Int) (a0_1 : Int) (a0_2 : Int) (a0_3 : Int) (a0_4 : Int) (a0_5 : Int) (a0_6 : Int) (a0_7 : Int) (a0_8 : Int) (a0_9 : Int) (a0_10 : Int) (a0_11 : Int) (a0_12 : Int) (a0_13 : Int) (a0_14 : Int) (a0_15 : Int) (a0_16 : SliceV) (a0_17 : SliceV) (a0_18 : Int) (a0_19 : Int) (a0_20 : Int) (a0_21 : Int) (a0_22 : Int) (a0_23 : Int) (a0_24 : Int) (a0_25 : Int) (a0_26 : Int) (a0_27 : Int) (a0_28 : Int) (a0_29 : Int) (a0_30 : Int) (a0_31 : Int) (a0_32 : Int) (a0_33 : Int) (a0_34 : Int) (a0_35 : SliceV) (a1_0 : Int) (a1_1 : SliceV) (a1_2 : SliceV) (a1_3 : Int) (a1_4 : Int) (a1_5 : Int) (a1_6 : SliceV) (w : World) (K : Bool → World → Prop) : den Try.prog 31 (bodyOf Try.f49) none (.seq .leaf (.seq .leaf (.seq (.seq .leaf (.blk (.loop [(12, (.int .i64))] (.seq .leaf (.seq (.cond .leaf .leaf) (.seq (.blk (.seq .leaf (.seq .leaf (.seq .leaf (.cond (.seq .leaf .leaf) .leaf))))) .leaf)))))) (.seq .leaf .leaf)))) (argEnv 0 [(Value.agg ⟨((Value.int .u8 a0_0) :: (Value.int .u8 a0_1) :: (Value.int .u8 a0_2) :: (Value.int .u8 a0_3) :: (Value.int .u8 a0_4) :: (Value.int .u8 a0_5) :: (Value.int .u8 a0_6) :: (Value.int .u8 a0_7) :: (Value.int .u8 a0_8) :: (Value.int .u8 a0_9) :: (Value.int .u8 a0_10) :: (Value.int .u8 a0_11) :: (Value.int .u8 a0_12) :: (Value.int .u8 a0_13) :: (Value.int .u8 a0_14) :: (Value.int .u8 a0_15) :: (Value.slice a0_16.a a0_16.len a0_16.cap) :: (Value.slice a0_17.a a0_17.len a0_17.cap) :: (Value.int .i64 a0_18) :: (Value.int .i64 a0_19) :: (Value.int .i64 a0_20) :: (Value.int .i64 a0_21) :: (Value.int .i64 a0_22) :: (Value.int .i64 a0_23) :: (Value.int .i64 a0_24) :: (Value.int .i64 a0_25) :: (Value.int .i64 a0_26) :: (Value.int .i64 a0_27) :: (Value.int .i64 a0_28) :: (Value.int .i64 a0_29) :: (Value.int .i64 a0_30) :: (Value.int .i64 a0_31) :: (Value.int .i64 a0_32) :: (Value.int .i64 a0_33) :: (Value.int .i64 a0_34) :: (Value.slice a0_35.a a0_35.len a0_35.cap) :: [])⟩), (Value.agg ⟨[(Value.int .i64 a1_0), (Value.slice a1_1.a a1_1.len a1_1.cap), (Value.slice a1_2.a a1_2.len a1_2.cap), (Value.int .i64 a1_3), (Value.int .i64 a1_4), (Value.int .i64 a1_5), (Value.slice a1_6.a a1_6.len a1_6.cap)]⟩)]) [] w (retK Try.prog [.tmp 4] [.one .bool] K) = s_view_greedy a0_0 a0_1 a0_2 a0_3 a0_4 a0_5 a0_6 a0_7 a0_8 a0_9 a0_10 a0_11 a0_12 a0_13 a0_14 a0_15 a0_16 a0_17 a0_18 a0_19 a0_20 a0_21 a0_22 a0_23 a0_24 a0_25 a0_26 a0_27 a0_28 a0_29 a0_30 a0_31 a0_32 a0_33 a0_34 a0_35 a1_0 a1_1 a1_2 a1_3 a1_4 a1_5 a1_6 w K := by kernel_rfl
theorem ok_view_greedy {a0_0 a0_1 a0_2 a0_3 a0_4 a0_5 a0_6 a0_7 a0_8 a0_9 a0_10 a0_11 a0_12 a0_13 a0_14 a0_15 a0_16 a0_17 a0_18 a0_19 a0_20 a0_21 a0_22 a0_23 a0_24 a0_25 a0_26 a0_27 a0_28 a0_29 a0_30 a0_31 a0_32 a0_33 a0_34 a0_35 a1_0 a1_1 a1_2 a1_3 a1_4 a1_5 a1_6 w K} (h : s_view_greedy a0_0 a0_1 a0_2 a0_3 a0_4 a0_5 a0_6 a0_7 a0_8 a0_9 a0_10 a0_11 a0_12 a0_13 a0_14 a0_15 a0_16 a0_17 a0_18 a0_19 a0_20 a0_21 a0_22 a0_23 a0_24 a0_25 a0_26 a0_27 a0_28 a0_29 a0_30 a0_31 a0_32 a0_33 a0_34 a0_35 a1_0 a1_1 a1_2 a1_3 a1_4 a1_5 a1_6 w K) : c_view_greedy a0_0 a0_1 a0_2 a0_3 a0_4 a0_5 a0_6 a0_7 a0_8 a0_9 a0_10 a0_11 a0_12 a0_13 a0_14 a0_15 a0_16 a0_17 a0_18 a0_19 a0_20 a0_21 a0_22 a0_23 a0_24 a0_25 a0_26 a0_27 a0_28 a0_29 a0_30 a0_31 a0_32 a0_33 a0_34 a0_35 a1_0 a1_1 a1_2 a1_3 a1_4 a1_5 a1_6 w K :=
  fn_sound pok Try.func49 (fn := Try.f49) (c := bodyOf Try.f49) (nt := 31) (by kernel_rfl) (by kernel_rfl) (rs := [.tmp 4]) (by kernel_rfl) [.one .bool] K (.seq .leaf (.seq .leaf (.seq (.seq .leaf (.blk (.loop [(12, (.int .i64))] (.seq .leaf (.seq (.cond .leaf .leaf) (.seq (.blk (.seq .leaf (.seq .leaf (.seq .leaf (.cond (.seq .leaf .leaf) .leaf))))) .leaf)))))) (.seq .leaf .leaf)))) [(Value.agg ⟨((Value.int .u8 a0_0) :: (Value.int .u8 a0_1) :: (Value.int .u8 a0_2) :: (Value.int .u8 a0_3) :: (Value.int .u8 a0_4) :: (Value.int .u8 a0_5) :: (Value.int .u8 a0_6) :: (Value.int .u8 a0_7) :: (Value.int .u8 a0_8) :: (Value.int .u8 a0_9) :: (Value.int .u8 a0_10) :: (Value.int .u8 a0_11) :: (Value.int .u8 a0_12) :: (Value.int .u8 a0_13) :: (Value.int .u8 a0_14) :: (Value.int .u8 a0_15) :: (Value.slice a0_16.a a0_16.len a0_16.cap) :: (Value.slice a0_17.a a0_17.len a0_17.cap) :: (Value.int .i64 a0_18) :: (Value.int .i64 a0_19) :: (Value.int .i64 a0_20) :: (Value.int .i64 a0_21) :: (Value.int .i64 a0_22) :: (Value.int .i64 a0_23) :: (Value.int .i64 a0_24) :: (Value.int .i64 a0_25) :: (Value.int .i64 a0_26) :: (Value.int .i64 a0_27) :: (Value.int .i64 a0_28) :: (Value.int .i64 a0_29) :: (Value.int .i64 a0_30) :: (Value.int .i64 a0_31) :: (Value.int .i64 a0_32) :: (Value.int .i64 a0_33) :: (Value.int .i64 a0_34) :: (Value.slice a0_35.a a0_35.len a0_35.cap) :: [])⟩), (Value.agg ⟨[(Value.int .i64 a1_0), (Value.slice a1_1.a a1_1.len a1_1.cap), (Value.slice a1_2.a a1_2.len a1_2.cap), (Value.int .i64 a1_3), (Value.int .i64 a1_4), (Value.int .i64 a1_5), (Value.slice a1_6.a a1_6.len a1_6.cap)]⟩)] (by kernel_rfl) w ((e_view_greedy a0_0 a0_1 a0_2 a0_3 a0_4 a0_5 a0_6 a0_7 a0_8 a0_9 a0_10 a0_11 a0_12 a0_13 a0_14 a0_15 a0_16 a0_17 a0_18 a0_19 a0_20 a0_21 a0_22 a0_23 a0_24 a0_25 a0_26 a0_27 a0_28 a0_29 a0_30 a0_31 a0_32 a0_33 a0_34 a0_35 a1_0 a1_1 a1_2 a1_3 a1_4 a1_5 a1_6 w K).mpr h)

/-- goosepond/view.crowded -/
def s_view_crowded (a0_0 : Int) (a0_1 : Int) (a0_2 : Int) (a0_3 : Int) (a0_4 : Int) (a0_5 : Int) (a0_6 : Int) (a0_7 : Int) (a0_8 : Int) (a0_9 : Int) (a0_10 : Int) (a0_11 : Int) (a0_12 : Int) (a0_13 : Int) (a0_14 : Int) (a0_15 : Int) (a0_16 : SliceV) (a0_17 : SliceV) (a0_18 : Int) (a0_19 : Int) (a0_20 : Int) (a0_21 : Int) (a0_22 : Int) (a0_23 : Int) (a0_24 : Int) (a0_25 : Int) (a0_26 : Int) (a0_27 : Int) (a0_28 : Int) (a0_29 : Int) (a0_30 : Int) (a0_31 : Int) (a0_32 : Int) (a0_33 : Int) (a0_34 : Int) (a0_35 : SliceV) (a1_0 : Int) (a1_1 : SliceV) (a1_2 : SliceV) (a1_3 : Int) (a1_4 : Int) (a1_5 : Int) (a1_6 : SliceV) (w : World) (K : Bool → World → Prop) : Prop :=
 (Al w (.cells ⟨((Value.int .u8 a0_0) :: (Value.int .u8 a0_1) :: (Value.int .u8 a0_2) :: (Value.int .u8 a0_3) :: (Value.int .u8 a0_4) :: (Value.int .u8 a0_5) :: (Value.int .u8 a0_6) :: (Value.int .u8 a0_7) :: (Value.int .u8 a0_8) :: (Value.int .u8 a0_9) :: (Value.int .u8 a0_10) :: (Value.int .u8 a0_11) :: (Value.int .u8 a0_12) :: (Value.int .u8 a0_13) :: (Value.int .u8 a0_14) :: (Value.int .u8 a0_15) :: (Value.slice a0_16.a a0_16.len a0_16.cap) :: (Value.slice a0_17.a a0_17.len a0_17.cap) :: (Value.int .i64 a0_18) :: (Value.int .i64 a0_19) :: (Value.int .i64 a0_20) :: (Value.int .i64 a0_21) :: (Value.int .i64 a0_22) :: (Value.int .i64 a0_23) :: (Value.int .i64 a0_24) :: (Value.int .i64 a0_25) :: (Value.int .i64 a0_26) :: (Value.int .i64 a0_27) :: (Value.int .i64 a0_28) :: (Value.int .i64 a0_29) :: (Value.int .i64 a0_30) :: (Value.int .i64 a0_31) :: (Value.int .i64 a0_32) :: (Value.int .i64 a0_33) :: (Value.int .i64 a0_34) :: (Value.slice a0_35.a a0_35.len a0_35.cap) :: [])⟩ 42) fun a4 w3 =>
 Al w3 (.cells ⟨[(Value.int .i64 a1_0), (Value.slice a1_1.a a1_1.len a1_1.cap), (Value.slice a1_2.a a1_2.len a1_2.cap), (Value.int .i64 a1_3), (Value.int .i64 a1_4), (Value.int .i64 a1_5), (Value.slice a1_6.a a1_6.len a1_6.cap)]⟩ 55) fun a6 w5 =>
 Ld .slice w5 (a6.add 2) fun x7 =>
 let J8 : Bool → Prop := fun j9 =>
 (let J10 : Bool → Prop := fun j11 =>
 (let J12 : Bool → Prop := fun j13 =>
 (K j13 w5)
 (bif j11 then
 J12 true
 else
 Ld (.int .i64) w5 (a6.add 4) fun x14 =>
 Ld (.int .i64) w5 (a4.add 23) fun x15 =>
 (bif (decide (x14 > (IntKind.i64.wrap (2 * x15)))) then
 J12 true
 else
 Ld (.int .i64) w5 (a6.add 3) fun x16 =>
 Ld (.int .i64) w5 (a4.add 24) fun x17 =>
 (bif (decide (x16 > (IntKind.i64.wrap (2 * x17)))) then
 J12 true
 else
 J12 (!j9)))))
 Ld .slice w5 (a6.add 1) fun x18 =>
 Ld (.int .i64) w5 (a4.add 21) fun x19 =>
 (bif (decide ((x18.len : Int) > x19)) then
 J10 true
 else
 Ld (.int .i64) w5 (a4.add 22) fun x20 =>
 J10 (decide ((x7.len : Int) > x20))))
 Ld (.int .i64) w5 (a6.add 5) fun x21 =>
 (bif (decide (x21 ≥ (x7.len : Int))) then
 Ld (.int .i64) w5 (a6.add 5) fun x22 =>
 Ld (.int .i64) w5 (a6.add 4) fun x23 =>
 J8 ((IntKind.i64.wrap (x22 - (x7.len : Int))) == x23)
 else
 J8 false))
theorem e_view_crowded (a0_0 : Int) (a0_1 : Int) (a0_2 : Int) (a0_3 : Int) (a0_4 : Int) (a0_5 : Int) (a0_6 : Int) (a0_7 : Int) (a0_8 : Int) (a0_9 : Int) (a0_10 : Int) (a0_11 : Int) (a0_12 : Int) (a0_13 : Int) (a0_14 : Int) (a0_15 : Int) (a0_16 : SliceV) (a0_17 : SliceV) (a0_18 : Int) (a0_19 : Int) (a0_20 : Int) (a0_21 : Int) (a0_22 : Int) (a0_23 : Int) (a0_24 : Int) (a0_25 : Int) (a0_26 : Int) (a0_27 : Int) (a0_28 : Int) (a0_29 : Int) (a0_30 : Int) (a0_31 : Int) (a0_32 : Int) (a0_33 : Int) (a0_34 : Int) (a0_35 : SliceV) (a1_0 : Int) (a1_1 : SliceV) (a1_2 : SliceV) (a1_3 : Int) (a1_4 : Int) (a1_5 : Int) (a1_6 : SliceV) (w : World) (K : Bool → World → Prop) : den Try.prog 57 (bodyOf Try.f50) none (.seq .leaf (.seq .leaf (.seq .leaf (.seq .leaf (.seq .leaf .leaf))))) (argEnv 0 [(Value.agg ⟨((Value.int .u8 a0_0) :: (Value.int .u8 a0_1) :: (Value.int .u8 a0_2) :: (Value.int .u8 a0_3) :: (Value.int .u8 a0_4) :: (Value.int .u8 a0_5) :: (Value.int .u8 a0_6) :: (Value.int .u8 a0_7) :: (Value.int .u8 a0_8) :: (Value.int .u8 a0_9) :: (Value.int .u8 a0_10) :: (Value.int .u8 a0_11) :: (Value.int .u8 a0_12) :: (Value.int .u8 a0_13) :: (Value.int .u8 a0_14) :: (Value.int .u8 a0_15) :: (Value.slice a0_16.a a0_16.len a0_16.cap) :: (Value.slice a0_17.a a0_17.len a0_17.cap) :: (Value.int .i64 a0_18) :: (Value.int .i64 a0_19) :: (Value.int .i64 a0_20) :: (Value.int .i64 a0_21) :: (Value.int .i64 a0_22) :: (Value.int .i64 a0_23) :: (Value.int .i64 a0_24) :: (Value.int .i64 a0_25) :: (Value.int .i64 a0_26) :: (Value.int .i64 a0_27) :: (Value.int .i64 a0_28) :: (Value.int .i64 a0_29) :: (Value.int .i64 a0_30) :: (Value.int .i64 a0_31) :: (Value.int .i64 a0_32) :: (Value.int .i64 a0_33) :: (Value.int .i64 a0_34) :: (Value.slice a0_35.a a0_35.len a0_35.cap) :: [])⟩), (Value.agg ⟨[(Value.int .i64 a1_0), (Value.slice a1_1.a a1_1.len a1_1.cap), (Value.slice a1_2.a a1_2.len a1_2.cap), (Value.int .i64 a1_3), (Value.int .i64 a1_4), (Value.int .i64 a1_5), (Value.slice a1_6.a a1_6.len a1_6.cap)]⟩)]) [] w (retK Try.prog [.tmp 4] [.one .bool] K) = s_view_crowded a0_0 a0_1 a0_2 a0_3 a0_4 a0_5 a0_6 a0_7 a0_8 a0_9 a0_10 a0_11 a0_12 a0_13 a0_14 a0_15 a0_16 a0_17 a0_18 a0_19 a0_20 a0_21 a0_22 a0_23 a0_24 a0_25 a0_26 a0_27 a0_28 a0_29 a0_30 a0_31 a0_32 a0_33 a0_34 a0_35 a1_0 a1_1 a1_2 a1_3 a1_4 a1_5 a1_6 w K := by kernel_rfl
theorem ok_view_crowded {a0_0 a0_1 a0_2 a0_3 a0_4 a0_5 a0_6 a0_7 a0_8 a0_9 a0_10 a0_11 a0_12 a0_13 a0_14 a0_15 a0_16 a0_17 a0_18 a0_19 a0_20 a0_21 a0_22 a0_23 a0_24 a0_25 a0_26 a0_27 a0_28 a0_29 a0_30 a0_31 a0_32 a0_33 a0_34 a0_35 a1_0 a1_1 a1_2 a1_3 a1_4 a1_5 a1_6 w K} (h : s_view_crowded a0_0 a0_1 a0_2 a0_3 a0_4 a0_5 a0_6 a0_7 a0_8 a0_9 a0_10 a0_11 a0_12 a0_13 a0_14 a0_15 a0_16 a0_17 a0_18 a0_19 a0_20 a0_21 a0_22 a0_23 a0_24 a0_25 a0_26 a0_27 a0_28 a0_29 a0_30 a0_31 a0_32 a0_33 a0_34 a0_35 a1_0 a1_1 a1_2 a1_3 a1_4 a1_5 a1_6 w K) : c_view_crowded a0_0 a0_1 a0_2 a0_3 a0_4 a0_5 a0_6 a0_7 a0_8 a0_9 a0_10 a0_11 a0_12 a0_13 a0_14 a0_15 a0_16 a0_17 a0_18 a0_19 a0_20 a0_21 a0_22 a0_23 a0_24 a0_25 a0_26 a0_27 a0_28 a0_29 a0_30 a0_31 a0_32 a0_33 a0_34 a0_35 a1_0 a1_1 a1_2 a1_3 a1_4 a1_5 a1_6 w K :=
  fn_sound pok Try.func50 (fn := Try.f50) (c := bodyOf Try.f50) (nt := 57) (by kernel_rfl) (by kernel_rfl) (rs := [.tmp 4]) (by kernel_rfl) [.one .bool] K (.seq .leaf (.seq .leaf (.seq .leaf (.seq .leaf (.seq .leaf .leaf))))) [(Value.agg ⟨((Value.int .u8 a0_0) :: (Value.int .u8 a0_1) :: (Value.int .u8 a0_2) :: (Value.int .u8 a0_3) :: (Value.int .u8 a0_4) :: (Value.int .u8 a0_5) :: (Value.int .u8 a0_6) :: (Value.int .u8 a0_7) :: (Value.int .u8 a0_8) :: (Value.int .u8 a0_9) :: (Value.int .u8 a0_10) :: (Value.int .u8 a0_11) :: (Value.int .u8 a0_12) :: (Value.int .u8 a0_13) :: (Value.int .u8 a0_14) :: (Value.int .u8 a0_15) :: (Value.slice a0_16.a a0_16.len a0_16.cap) :: (Value.slice a0_17.a a0_17.len a0_17.cap) :: (Value.int .i64 a0_18) :: (Value.int .i64 a0_19) :: (Value.int .i64 a0_20) :: (Value.int .i64 a0_21) :: (Value.int .i64 a0_22) :: (Value.int .i64 a0_23) :: (Value.int .i64 a0_24) :: (Value.int .i64 a0_25) :: (Value.int .i64 a0_26) :: (Value.int .i64 a0_27) :: (Value.int .i64 a0_28) :: (Value.int .i64 a0_29) :: (Value.int .i64 a0_30) :: (Value.int .i64 a0_31) :: (Value.int .i64 a0_32) :: (Value.int .i64 a0_33) :: (Value.int .i64 a0_34) :: (Value.slice a0_35.a a0_35.len a0_35.cap) :: [])⟩), (Value.agg ⟨[(Value.int .i64 a1_0), (Value.slice a1_1.a a1_1.len a1_1.cap), (Value.slice a1_2.a a1_2.len a1_2.cap), (Value.int .i64 a1_3), (Value.int .i64 a1_4), (Value.int .i64 a1_5), (Value.slice a1_6.a a1_6.len a1_6.cap)]⟩)] (by kernel_rfl) w ((e_view_crowded a0_0 a0_1 a0_2 a0_3 a0_4 a0_5 a0_6 a0_7 a0_8 a0_9 a0_10 a0_11 a0_12 a0_13 a0_14 a0_15 a0_16 a0_17 a0_18 a0_19 a0_20 a0_21 a0_22 a0_23 a0_24 a0_25 a0_26 a0_27 a0_28 a0_29 a0_30 a0_31 a0_32 a0_33 a0_34 a0_35 a1_0 a1_1 a1_2 a1_3 a1_4 a1_5 a1_6 w K).mpr h)

/-- slices.ContainsFunc[[]goosepond/api.Binding,goosepond/api.Binding] -/
def s_slices_ContainsFunc_api_Binding_api_Binding (a0 : SliceV) (a1 : Value) (w : World) (K : Bool → World → Prop) : Prop :=
 (c_slices_IndexFunc_api_Binding_api_Binding a0 a1 w fun r3 w4 =>
 K (decide (r3 ≥ 0)) w4)
theorem e_slices_ContainsFunc_api_Binding_api_Binding (a0 : SliceV) (a1 : Value) (w : World) (K : Bool → World → Prop) : den Try.prog 9 (bodyOf Try.f51) none (.seq .leaf (.seq .leaf .leaf)) (argEnv 0 [(Value.slice a0.a a0.len a0.cap), a1]) [] w (retK Try.prog [.tmp 4] [.one .bool] K) = s_slices_ContainsFunc_api_Binding_api_Binding a0 a1 w K := by kernel_rfl
theorem ok_slices_ContainsFunc_api_Binding_api_Binding {a0 a1 w K} (h : s_slices_ContainsFunc_api_Binding_api_Binding a0 a1 w K) : c_slices_ContainsFunc_api_Binding_api_Binding a0 a1 w K :=
  fn_sound pok Try.func51 (fn := Try.f51) (c := bodyOf Try.f51) (nt := 9) (by kernel_rfl) (by kernel_rfl) (rs := [.tmp 4]) (by kernel_rfl) [.one .bool] K (.seq .leaf (.seq .leaf .leaf)) [(Value.slice a0.a a0.len a0.cap), a1] (by kernel_rfl) w ((e_slices_ContainsFunc_api_Binding_api_Binding a0 a1 w K).mpr h)

/-- goosepond/view.foreign -/
def s_view_foreign (a0_0 : Int) (a0_1 : Int) (a0_2 : Int) (a0_3 : Int) (a0_4 : Int) (a0_5 : Int) (a0_6 : Int) (a0_7 : Int) (a0_8 : Int) (a0_9 : Int) (a0_10 : Int) (a0_11 : Int) (a0_12 : Int) (a0_13 : Int) (a0_14 : Int) (a0_15 : Int) (a0_16 : SliceV) (a0_17 : SliceV) (a0_18 : Int) (a0_19 : Int) (a0_20 : Int) (a0_21 : Int) (a0_22 : Int) (a0_23 : Int) (a0_24 : Int) (a0_25 : Int) (a0_26 : Int) (a0_27 : Int) (a0_28 : Int) (a0_29 : Int) (a0_30 : Int) (a0_31 : Int) (a0_32 : Int) (a0_33 : Int) (a0_34 : Int) (a0_35 : SliceV) (w : World) (K : Value → World → Prop) : Prop :=
 (Al w (.cells ⟨((Value.int .u8 a0_0) :: (Value.int .u8 a0_1) :: (Value.int .u8 a0_2) :: (Value.int .u8 a0_3) :: (Value.int .u8 a0_4) :: (Value.int .u8 a0_5) :: (Value.int .u8 a0_6) :: (Value.int .u8 a0_7) :: (Value.int .u8 a0_8) :: (Value.int .u8 a0_9) :: (Value.int .u8 a0_10) :: (Value.int .u8 a0_11) :: (Value.int .u8 a0_12) :: (Value.int .u8 a0_13) :: (Value.int .u8 a0_14) :: (Value.int .u8 a0_15) :: (Value.slice a0_16.a a0_16.len a0_16.cap) :: (Value.slice a0_17.a a0_17.len a0_17.cap) :: (Value.int .i64 a0_18) :: (Value.int .i64 a0_19) :: (Value.int .i64 a0_20) :: (Value.int .i64 a0_21) :: (Value.int .i64 a0_22) :: (Value.int .i64 a0_23) :: (Value.int .i64 a0_24) :: (Value.int .i64 a0_25) :: (Value.int .i64 a0_26) :: (Value.int .i64 a0_27) :: (Value.int .i64 a0_28) :: (Value.int .i64 a0_29) :: (Value.int .i64 a0_30) :: (Value.int .i64 a0_31) :: (Value.int .i64 a0_32) :: (Value.int .i64 a0_33) :: (Value.int .i64 a0_34) :: (Value.slice a0_35.a a0_35.len a0_35.cap) :: [])⟩ 42) fun a3 w2 =>
 K (Value.func (.func 94) #[] #[(Value.pointer (some a3))]) w2)
theorem e_view_foreign (a0_0 : Int) (a0_1 : Int) (a0_2 : Int) (a0_3 : Int) (a0_4 : Int) (a0_5 : Int) (a0_6 : Int) (a0_7 : Int) (a0_8 : Int) (a0_9 : Int) (a0_10 : Int) (a0_11 : Int) (a0_12 : Int) (a0_13 : Int) (a0_14 : Int) (a0_15 : Int) (a0_16 : SliceV) (a0_17 : SliceV) (a0_18 : Int) (a0_19 : Int) (a0_20 : Int) (a0_21 : Int) (a0_22 : Int) (a0_23 : Int) (a0_24 : Int) (a0_25 : Int) (a0_26 : Int) (a0_27 : Int) (a0_28 : Int) (a0_29 : Int) (a0_30 : Int) (a0_31 : Int) (a0_32 : Int) (a0_33 : Int) (a0_34 : Int) (a0_35 : SliceV) (w : World) (K : Value → World → Prop) : den Try.prog 4 (bodyOf Try.f52) none (.seq .leaf (.seq .leaf .leaf)) (argEnv 0 [(Value.agg ⟨((Value.int .u8 a0_0) :: (Value.int .u8 a0_1) :: (Value.int .u8 a0_2) :: (Value.int .u8 a0_3) :: (Value.int .u8 a0_4) :: (Value.int .u8 a0_5) :: (Value.int .u8 a0_6) :: (Value.int .u8 a0_7) :: (Value.int .u8 a0_8) :: (Value.int .u8 a0_9) :: (Value.int .u8 a0_10) :: (Value.int .u8 a0_11) :: (Value.int .u8 a0_12) :: (Value.int .u8 a0_13) :: (Value.int .u8 a0_14) :: (Value.int .u8 a0_15) :: (Value.slice a0_16.a a0_16.len a0_16.cap) :: (Value.slice a0_17.a a0_17.len a0_17.cap) :: (Value.int .i64 a0_18) :: (Value.int .i64 a0_19) :: (Value.int .i64 a0_20) :: (Value.int .i64 a0_21) :: (Value.int .i64 a0_22) :: (Value.int .i64 a0_23) :: (Value.int .i64 a0_24) :: (Value.int .i64 a0_25) :: (Value.int .i64 a0_26) :: (Value.int .i64 a0_27) :: (Value.int .i64 a0_28) :: (Value.int .i64 a0_29) :: (Value.int .i64 a0_30) :: (Value.int .i64 a0_31) :: (Value.int .i64 a0_32) :: (Value.int .i64 a0_33) :: (Value.int .i64 a0_34) :: (Value.slice a0_35.a a0_35.len a0_35.cap) :: [])⟩)]) [] w (retK Try.prog [.tmp 2] [.one .any] K) = s_view_foreign a0_0 a0_1 a0_2 a0_3 a0_4 a0_5 a0_6 a0_7 a0_8 a0_9 a0_10 a0_11 a0_12 a0_13 a0_14 a0_15 a0_16 a0_17 a0_18 a0_19 a0_20 a0_21 a0_22 a0_23 a0_24 a0_25 a0_26 a0_27 a0_28 a0_29 a0_30 a0_31 a0_32 a0_33 a0_34 a0_35 w K := by kernel_rfl
theorem ok_view_foreign {a0_0 a0_1 a0_2 a0_3 a0_4 a0_5 a0_6 a0_7 a0_8 a0_9 a0_10 a0_11 a0_12 a0_13 a0_14 a0_15 a0_16 a0_17 a0_18 a0_19 a0_20 a0_21 a0_22 a0_23 a0_24 a0_25 a0_26 a0_27 a0_28 a0_29 a0_30 a0_31 a0_32 a0_33 a0_34 a0_35 w K} (h : s_view_foreign a0_0 a0_1 a0_2 a0_3 a0_4 a0_5 a0_6 a0_7 a0_8 a0_9 a0_10 a0_11 a0_12 a0_13 a0_14 a0_15 a0_16 a0_17 a0_18 a0_19 a0_20 a0_21 a0_22 a0_23 a0_24 a0_25 a0_26 a0_27 a0_28 a0_29 a0_30 a0_31 a0_32 a0_33 a0_34 a0_35 w K) : c_view_foreign a0_0 a0_1 a0_2 a0_3 a0_4 a0_5 a0_6 a0_7 a0_8 a0_9 a0_10 a0_11 a0_12 a0_13 a0_14 a0_15 a0_16 a0_17 a0_18 a0_19 a0_20 a0_21 a0_22 a0_23 a0_24 a0_25 a0_26 a0_27 a0_28 a0_29 a0_30 a0_31 a0_32 a0_33 a0_34 a0_35 w K :=
  fn_sound pok Try.func52 (fn := Try.f52) (c := bodyOf Try.f52) (nt := 4) (by kernel_rfl) (by kernel_rfl) (rs := [.tmp 2]) (by kernel_rfl) [.one .any] K (.seq .leaf (.seq .leaf .leaf)) [(Value.agg ⟨((Value.int .u8 a0_0) :: (Value.int .u8 a0_1) :: (Value.int .u8 a0_2) :: (Value.int .u8 a0_3) :: (Value.int .u8 a0_4) :: (Value.int .u8 a0_5) :: (Value.int .u8 a0_6) :: (Value.int .u8 a0_7) :: (Value.int .u8 a0_8) :: (Value.int .u8 a0_9) :: (Value.int .u8 a0_10) :: (Value.int .u8 a0_11) :: (Value.int .u8 a0_12) :: (Value.int .u8 a0_13) :: (Value.int .u8 a0_14) :: (Value.int .u8 a0_15) :: (Value.slice a0_16.a a0_16.len a0_16.cap) :: (Value.slice a0_17.a a0_17.len a0_17.cap) :: (Value.int .i64 a0_18) :: (Value.int .i64 a0_19) :: (Value.int .i64 a0_20) :: (Value.int .i64 a0_21) :: (Value.int .i64 a0_22) :: (Value.int .i64 a0_23) :: (Value.int .i64 a0_24) :: (Value.int .i64 a0_25) :: (Value.int .i64 a0_26) :: (Value.int .i64 a0_27) :: (Value.int .i64 a0_28) :: (Value.int .i64 a0_29) :: (Value.int .i64 a0_30) :: (Value.int .i64 a0_31) :: (Value.int .i64 a0_32) :: (Value.int .i64 a0_33) :: (Value.int .i64 a0_34) :: (Value.slice a0_35.a a0_35.len a0_35.cap) :: [])⟩)] (by kernel_rfl) w ((e_view_foreign a0_0 a0_1 a0_2 a0_3 a0_4 a0_5 a0_6 a0_7 a0_8 a0_9 a0_10 a0_11 a0_12 a0_13 a0_14 a0_15 a0_16 a0_17 a0_18 a0_19 a0_20 a0_21 a0_22 a0_23 a0_24 a0_25 a0_26 a0_27 a0_28 a0_29 a0_30 a0_31 a0_32 a0_33 a0_34 a0_35 w K).mpr h)

/-- slices.ContainsFunc[[]goosepond/api.Session,goosepond/api.Session] -/
def s_slices_ContainsFunc_api_Session_api_Session (a0 : SliceV) (a1 : Value) (w : World) (K : Bool → World → Prop) : Prop :=
 (c_slices_IndexFunc_api_Session_api_Session a0 a1 w fun r3 w4 =>
 K (decide (r3 ≥ 0)) w4)
theorem e_slices_ContainsFunc_api_Session_api_Session (a0 : SliceV) (a1 : Value) (w : World) (K : Bool → World → Prop) : den Try.prog 9 (bodyOf Try.f53) none (.seq .leaf (.seq .leaf .leaf)) (argEnv 0 [(Value.slice a0.a a0.len a0.cap), a1]) [] w (retK Try.prog [.tmp 4] [.one .bool] K) = s_slices_ContainsFunc_api_Session_api_Session a0 a1 w K := by kernel_rfl
theorem ok_slices_ContainsFunc_api_Session_api_Session {a0 a1 w K} (h : s_slices_ContainsFunc_api_Session_api_Session a0 a1 w K) : c_slices_ContainsFunc_api_Session_api_Session a0 a1 w K :=
  fn_sound pok Try.func53 (fn := Try.f53) (c := bodyOf Try.f53) (nt := 9) (by kernel_rfl) (by kernel_rfl) (rs := [.tmp 4]) (by kernel_rfl) [.one .bool] K (.seq .leaf (.seq .leaf .leaf)) [(Value.slice a0.a a0.len a0.cap), a1] (by kernel_rfl) w ((e_slices_ContainsFunc_api_Session_api_Session a0 a1 w K).mpr h)

/-- goosepond/view.once[goosepond/api.Inner] -/
def s_view_once_api_Inner (a0 : Value) (w : World) (K : Bool → World → Prop) : Prop :=
 (Al w (.cells ⟨[(Value.bool false)]⟩ 4) fun a3 w2 =>
 Al w2 (.map #[] 0) fun a5 w4 =>
 Al w4 (.cells ⟨[(Value.map none)]⟩ 135) fun a7 w6 =>
 St w6 a7 (Value.map (some w2.heap.size)) fun w8 =>
 RngP Try.prog none [.agg [(.int .i64), (.int .i64), (.int .i64), (.int .i64)]] a0 w8 (fun l9 x10 W11 Kb12 =>
 Al W11 (.cells ⟨[(Value.int .i64 0), (Value.int .i64 0), (Value.int .i64 0), (Value.int .i64 0)]⟩ 59) fun a14 w13 =>
 StN [(Value.int .i64 x10.1.1), (Value.int .i64 x10.1.2.1), (Value.int .i64 x10.1.2.2.1), (Value.int .i64 x10.1.2.2.2.1)] w13 a14 0 fun w15 =>
 w15.heap[l9]? = W11.heap[l9]? ∧
 Ld .map (busyW w15 l9) a7 fun x16 =>
 Ld (.int .i64) (busyW w15 l9) (a14.add 0) fun x17 =>
 Ld (.int .i64) (busyW w15 l9) (a14.add 1) fun x18 =>
 Ld (.int .i64) (busyW w15 l9) (a14.add 2) fun x19 =>
 Ld (.int .i64) (busyW w15 l9) (a14.add 3) fun x20 =>
 MapGet Try.prog 59 .bool x16 (Value.agg ⟨[(Value.int .i64 x17), (Value.int .i64 x18), (Value.int .i64 x19), (Value.int .i64 x20)]⟩) (Value.bool false) (busyW w15 l9) fun x21 =>
 (bif x21 then
 St (busyW w15 l9) a3 (Value.bool false) fun w22 =>
 Kb12 .ret w22
 else
 Ld .map (busyW w15 l9) a7 fun x23 =>
 Ld (.int .i64) (busyW w15 l9) (a14.add 0) fun x24 =>
 Ld (.int .i64) (busyW w15 l9) (a14.add 1) fun x25 =>
 Ld (.int .i64) (busyW w15 l9) (a14.add 2) fun x26 =>
 Ld (.int .i64) (busyW w15 l9) (a14.add 3) fun x27 =>
 MapSet Try.prog 59 x23 (Value.agg ⟨[(Value.int .i64 x24), (Value.int .i64 x25), (Value.int .i64 x26), (Value.int .i64 x27)]⟩) (Value.bool true) (busyW w15 l9) fun w28 =>
 Kb12 .normal w28))
 (fun w29 =>
 St w29 a3 (Value.bool true) fun w30 =>
 w30.heap[w8.heap.size]? = some (.deferred (some [])) ∧
 Ld .bool (w30.putObj w8.heap.size (.deferred none)) a3 fun y31 =>
 K y31 (w30.putObj w8.heap.size (.deferred none)))
 (fun w32 =>
 w32.heap[w8.heap.size]? = some (.deferred (some [])) ∧
 Ld .bool (w32.putObj w8.heap.size (.deferred none)) a3 fun y33 =>
 K y33 (w32.putObj w8.heap.size (.deferred none)))
 [])
theorem e_view_once_api_Inner (a0 : Value) (w : World) (K : Bool → World → Prop) : den Try.prog 13 (bodyOf Try.f54) none (.seq .leaf (.seq .leaf (.seq (.seq .leaf (.blk (.rng [.agg [(.int .i64), (.int .i64), (.int .i64), (.int .i64)]] .leaf (.blk (.seq (.seq .leaf (.cond (.seq .leaf .leaf) .leaf)) .leaf))))) (.seq .leaf .leaf)))) (argEnv 0 [a0]) [] w (retK Try.prog [.cell 2 4] [.one .bool] K) = s_view_once_api_Inner a0 w K := by kernel_rfl
theorem ok_view_once_api_Inner {a0 w K} (h : s_view_once_api_Inner a0 w K) : c_view_once_api_Inner a0 w K :=
  fn_sound pok Try.func54 (fn := Try.f54) (c := bodyOf Try.f54) (nt := 13) (by kernel_rfl) (by kernel_rfl) (rs := [.cell 2 4]) (by kernel_rfl) [.one .bool] K (.seq .leaf (.seq .leaf (.seq (.seq .leaf (.blk (.rng [.agg [(.int .i64), (.int .i64), (.int .i64), (.int .i64)]] .leaf (.blk (.seq (.seq .leaf (.cond (.seq .leaf .leaf) .leaf)) .leaf))))) (.seq .leaf .leaf)))) [a0] (by kernel_rfl) w ((e_view_once_api_Inner a0 w K).mpr h)

/-- goosepond/view.each[goosepond/api.Binding,goosepond/api.Inner] -/
def s_view_each_api_Binding_api_Inner (a0 : SliceV) (a1 : Value) (w : World) (K : Value → World → Prop) : Prop :=
 (isOne (Value.slice a0.a a0.len a0.cap) = true ∧
 Al w (.cells ⟨[(Value.slice a0.a a0.len a0.cap)]⟩ 52) fun a4 w3 =>
 isOne a1 = true ∧
 Al w3 (.cells ⟨[a1]⟩ 97) fun a6 w5 =>
 K (Value.func (.func 96) #[] #[(Value.pointer (some a4)), (Value.pointer (some a6))]) w5)
theorem e_view_each_api_Binding_api_Inner (a0 : SliceV) (a1 : Value) (w : World) (K : Value → World → Prop) : den Try.prog 6 (bodyOf Try.f55) none (.seq .leaf (.seq .leaf .leaf)) (argEnv 0 [(Value.slice a0.a a0.len a0.cap), a1]) [] w (retK Try.prog [.tmp 4] [.one .any] K) = s_view_each_api_Binding_api_Inner a0 a1 w K := by kernel_rfl
theorem ok_view_each_api_Binding_api_Inner {a0 a1 w K} (h : s_view_each_api_Binding_api_Inner a0 a1 w K) : c_view_each_api_Binding_api_Inner a0 a1 w K :=
  fn_sound pok Try.func55 (fn := Try.f55) (c := bodyOf Try.f55) (nt := 6) (by kernel_rfl) (by kernel_rfl) (rs := [.tmp 4]) (by kernel_rfl) [.one .any] K (.seq .leaf (.seq .leaf .leaf)) [(Value.slice a0.a a0.len a0.cap), a1] (by kernel_rfl) w ((e_view_each_api_Binding_api_Inner a0 a1 w K).mpr h)

/-- goosepond/view.inner -/
def s_view_inner (a0_0 : Int) (a0_1 : Int) (a0_2 : Int) (a0_3 : Int) (a0_4 : Int) (a0_5 : Int) (a0_6 : Int) (a0_7 : Bool) (w : World) (K : Int → Int → Int → Int → World → Prop) : Prop :=
 (Al w (.cells ⟨[(Value.int .i64 a0_0), (Value.int .i64 a0_1), (Value.int .i64 a0_2), (Value.int .i64 a0_3), (Value.int .i64 a0_4), (Value.int .i64 a0_5), (Value.int .i64 a0_6), (Value.bool a0_7)]⟩ 61) fun a3 w2 =>
 Al w2 (.cells ⟨[(Value.int .i64 0), (Value.int .i64 0), (Value.int .i64 0), (Value.int .i64 0)]⟩ 59) fun a5 w4 =>
 Ld (.int .i64) w4 (a3.add 0) fun x6 =>
 Ld (.int .i64) w4 (a3.add 1) fun x7 =>
 Ld (.int .i64) w4 (a3.add 2) fun x8 =>
 Ld (.int .i64) w4 (a3.add 3) fun x9 =>
 StN [(Value.int .i64 x6), (Value.int .i64 x7), (Value.int .i64 x8), (Value.int .i64 x9)] w4 a5 0 fun w10 =>
 Ld (.int .i64) w10 (a5.add 0) fun y11 =>
 Ld (.int .i64) w10 (a5.add 1) fun y12 =>
 Ld (.int .i64) w10 (a5.add 2) fun y13 =>
 Ld (.int .i64) w10 (a5.add 3) fun y14 =>
 K y11 y12 y13 y14 w10)
theorem e_view_inner (a0_0 : Int) (a0_1 : Int) (a0_2 : Int) (a0_3 : Int) (a0_4 : Int) (a0_5 : Int) (a0_6 : Int) (a0_7 : Bool) (w : World) (K : Int → Int → Int → Int → World → Prop) : den Try.prog 5 (bodyOf Try.f56) none (.seq .leaf (.seq .leaf .leaf)) (argEnv 0 [(Value.agg ⟨[(Value.int .i64 a0_0), (Value.int .i64 a0_1), (Value.int .i64 a0_2), (Value.int .i64 a0_3), (Value.int .i64 a0_4), (Value.int .i64 a0_5), (Value.int .i64 a0_6), (Value.bool a0_7)]⟩)]) [] w (retK Try.prog [.cell 2 59] [.agg [(.int .i64), (.int .i64), (.int .i64), (.int .i64)]] K) = s_view_inner a0_0 a0_1 a0_2 a0_3 a0_4 a0_5 a0_6 a0_7 w K := by kernel_rfl
theorem ok_view_inner {a0_0 a0_1 a0_2 a0_3 a0_4 a0_5 a0_6 a0_7 w K} (h : s_view_inner a0_0 a0_1 a0_2 a0_3 a0_4 a0_5 a0_6 a0_7 w K) : c_view_inner a0_0 a0_1 a0_2 a0_3 a0_4 a0_5 a0_6 a0_7 w K :=
  fn_sound pok Try.func56 (fn := Try.f56) (c := bodyOf Try.f56) (nt := 5) (by kernel_rfl) (by kernel_rfl) (rs := [.cell 2 59]) (by kernel_rfl) [.agg [(.int .i64), (.int .i64), (.int .i64), (.int .i64)]] K (.seq .leaf (.seq .leaf .leaf)) [(Value.agg ⟨[(Value.int .i64 a0_0), (Value.int .i64 a0_1), (Value.int .i64 a0_2), (Value.int .i64 a0_3), (Value.int .i64 a0_4), (Value.int .i64 a0_5), (Value.int .i64 a0_6), (Value.bool a0_7)]⟩)] (by kernel_rfl) w ((e_view_inner a0_0 a0_1 a0_2 a0_3 a0_4 a0_5 a0_6 a0_7 w K).mpr h)

/-- goosepond/view.once[goosepond/api.Outer] -/
def s_view_once_api_Outer (a0 : Value) (w : World) (K : Bool → World → Prop) : Prop :=
 (Al w (.cells ⟨[(Value.bool false)]⟩ 4) fun a3 w2 =>
 Al w2 (.map #[] 0) fun a5 w4 =>
 Al w4 (.cells ⟨[(Value.map none)]⟩ 70) fun a7 w6 =>
 St w6 a7 (Value.map (some w2.heap.size)) fun w8 =>
 RngP Try.prog none [.agg [(.int .i64), (.int .i64), (.int .i64)]] a0 w8 (fun l9 x10 W11 Kb12 =>
 Al W11 (.cells ⟨[(Value.int .i64 0), (Value.int .i64 0), (Value.int .i64 0)]⟩ 32) fun a14 w13 =>
 StN [(Value.int .i64 x10.1.1), (Value.int .i64 x10.1.2.1), (Value.int .i64 x10.1.2.2.1)] w13 a14 0 fun w15 =>
 w15.heap[l9]? = W11.heap[l9]? ∧
 Ld .map (busyW w15 l9) a7 fun x16 =>
 Ld (.int .i64) (busyW w15 l9) (a14.add 0) fun x17 =>
 Ld (.int .i64) (busyW w15 l9) (a14.add 1) fun x18 =>
 Ld (.int .i64) (busyW w15 l9) (a14.add 2) fun x19 =>
 MapGet Try.prog 32 .bool x16 (Value.agg ⟨[(Value.int .i64 x17), (Value.int .i64 x18), (Value.int .i64 x19)]⟩) (Value.bool false) (busyW w15 l9) fun x20 =>
 (bif x20 then
 St (busyW w15 l9) a3 (Value.bool false) fun w21 =>
 Kb12 .ret w21
 else
 Ld .map (busyW w15 l9) a7 fun x22 =>
 Ld (.int .i64) (busyW w15 l9) (a14.add 0) fun x23 =>
 Ld (.int .i64) (busyW w15 l9) (a14.add 1) fun x24 =>
 Ld (.int .i64) (busyW w15 l9) (a14.add 2) fun x25 =>
 MapSet Try.prog 32 x22 (Value.agg ⟨[(Value.int .i64 x23), (Value.int .i64 x24), (Value.int .i64 x25)]⟩) (Value.bool true) (busyW w15 l9) fun w26 =>
 Kb12 .normal w26))
 (fun w27 =>
 St w27 a3 (Value.bool true) fun w28 =>
 w28.heap[w8.heap.size]? = some (.deferred (some [])) ∧
 Ld .bool (w28.putObj w8.heap.size (.deferred none)) a3 fun y29 =>
 K y29 (w28.putObj w8.heap.size (.deferred none)))
 (fun w30 =>
 w30.heap[w8.heap.size]? = some (.deferred (some [])) ∧
 Ld .bool (w30.putObj w8.heap.size (.deferred none)) a3 fun y31 =>
 K y31 (w30.putObj w8.heap.size (.deferred none)))
 [])
theorem e_view_once_api_Outer (a0 : Value) (w : World) (K : Bool → World → Prop) : den Try.prog 13 (bodyOf Try.f57) none (.seq .leaf (.seq .leaf (.seq (.seq .leaf (.blk (.rng [.agg [(.int .i64), (.int .i64), (.int .i64)]] .leaf (.blk (.seq (.seq .leaf (.cond (.seq .leaf .leaf) .leaf)) .leaf))))) (.seq .leaf .leaf)))) (argEnv 0 [a0]) [] w (retK Try.prog [.cell 2 4] [.one .bool] K) = s_view_once_api_Outer a0 w K := by kernel_rfl
theorem ok_view_once_api_Outer {a0 w K} (h : s_view_once_api_Outer a0 w K) : c_view_once_api_Outer a0 w K :=
  fn_sound pok Try.func57 (fn := Try.f57) (c := bodyOf Try.f57) (nt := 13) (by kernel_rfl) (by kernel_rfl) (rs := [.cell 2 4]) (by kernel_rfl) [.one .bool] K (.seq .leaf (.seq .leaf (.seq (.seq .leaf (.blk (.rng [.agg [(.int .i64), (.int .i64), (.int .i64)]] .leaf (.blk (.seq (.seq .leaf (.cond (.seq .leaf .leaf) .leaf)) .leaf))))) (.seq .leaf .leaf)))) [a0] (by kernel_rfl) w ((e_view_once_api_Outer a0 w K).mpr h)

/-- goosepond/view.each[goosepond/api.Binding,goosepond/api.Outer] -/
def s_view_each_api_Binding_api_Outer (a0 : SliceV) (a1 : Value) (w : World) (K : Value → World → Prop) : Prop :=
 (isOne (Value.slice a0.a a0.len a0.cap) = true ∧
 Al w (.cells ⟨[(Value.slice a0.a a0.len a0.cap)]⟩ 52) fun a4 w3 =>
 isOne a1 = true ∧
 Al w3 (.cells ⟨[a1]⟩ 102) fun a6 w5 =>
 K (Value.func (.func 97) #[] #[(Value.pointer (some a4)), (Value.pointer (some a6))]) w5)
theorem e_view_each_api_Binding_api_Outer (a0 : SliceV) (a1 : Value) (w : World) (K : Value → World → Prop) : den Try.prog 6 (bodyOf Try.f58) none (.seq .leaf (.seq .leaf .leaf)) (argEnv 0 [(Value.slice a0.a a0.len a0.cap), a1]) [] w (retK Try.prog [.tmp 4] [.one .any] K) = s_view_each_api_Binding_api_Outer a0 a1 w K := by kernel_rfl
theorem ok_view_each_api_Binding_api_Outer {a0 a1 w K} (h : s_view_each_api_Binding_api_Outer a0 a1 w K) : c_view_each_api_Binding_api_Outer a0 a1 w K :=
  fn_sound pok Try.func58 (fn := Try.f58) (c := bodyOf Try.f58) (nt := 6) (by kernel_rfl) (by kernel_rfl) (rs := [.tmp 4]) (by kernel_rfl) [.one .any] K (.seq .leaf (.seq .leaf .leaf)) [(Value.slice a0.a a0.len a0.cap), a1] (by kernel_rfl) w ((e_view_each_api_Binding_api_Outer a0 a1 w K).mpr h)

/-- goosepond/view.outer -/
def s_view_outer (a0_0 : Int) (a0_1 : Int) (a0_2 : Int) (a0_3 : Int) (a0_4 : Int) (a0_5 : Int) (a0_6 : Int) (a0_7 : Bool) (w : World) (K : Int → Int → Int → World → Prop) : Prop :=
 (Al w (.cells ⟨[(Value.int .i64 a0_0), (Value.int .i64 a0_1), (Value.int .i64 a0_2), (Value.int .i64 a0_3), (Value.int .i64 a0_4), (Value.int .i64 a0_5), (Value.int .i64 a0_6), (Value.bool a0_7)]⟩ 61) fun a3 w2 =>
 Al w2 (.cells ⟨[(Value.int .i64 0), (Value.int .i64 0), (Value.int .i64 0)]⟩ 32) fun a5 w4 =>
 Ld (.int .i64) w4 ((a3.add 4).add 0) fun x6 =>
 Ld (.int .i64) w4 ((a3.add 4).add 1) fun x7 =>
 Ld (.int .i64) w4 ((a3.add 4).add 2) fun x8 =>
 StN [(Value.int .i64 x6), (Value.int .i64 x7), (Value.int .i64 x8)] w4 a5 0 fun w9 =>
 Ld (.int .i64) w9 (a5.add 0) fun y10 =>
 Ld (.int .i64) w9 (a5.add 1) fun y11 =>
 Ld (.int .i64) w9 (a5.add 2) fun y12 =>
 K y10 y11 y12 w9)
theorem e_view_outer (a0_0 : Int) (a0_1 : Int) (a0_2 : Int) (a0_3 : Int) (a0_4 : Int) (a0_5 : Int) (a0_6 : Int) (a0_7 : Bool) (w : World) (K : Int → Int → Int → World → Prop) : den Try.prog 5 (bodyOf Try.f59) none (.seq .leaf (.seq .leaf .leaf)) (argEnv 0 [(Value.agg ⟨[(Value.int .i64 a0_0), (Value.int .i64 a0_1), (Value.int .i64 a0_2), (Value.int .i64 a0_3), (Value.int .i64 a0_4), (Value.int .i64 a0_5), (Value.int .i64 a0_6), (Value.bool a0_7)]⟩)]) [] w (retK Try.prog [.cell 2 32] [.agg [(.int .i64), (.int .i64), (.int .i64)]] K) = s_view_outer a0_0 a0_1 a0_2 a0_3 a0_4 a0_5 a0_6 a0_7 w K := by kernel_rfl
theorem ok_view_outer {a0_0 a0_1 a0_2 a0_3 a0_4 a0_5 a0_6 a0_7 w K} (h : s_view_outer a0_0 a0_1 a0_2 a0_3 a0_4 a0_5 a0_6 a0_7 w K) : c_view_outer a0_0 a0_1 a0_2 a0_3 a0_4 a0_5 a0_6 a0_7 w K :=
  fn_sound pok Try.func59 (fn := Try.f59) (c := bodyOf Try.f59) (nt := 5) (by kernel_rfl) (by kernel_rfl) (rs := [.cell 2 32]) (by kernel_rfl) [.agg [(.int .i64), (.int .i64), (.int .i64)]] K (.seq .leaf (.seq .leaf .leaf)) [(Value.agg ⟨[(Value.int .i64 a0_0), (Value.int .i64 a0_1), (Value.int .i64 a0_2), (Value.int .i64 a0_3), (Value.int .i64 a0_4), (Value.int .i64 a0_5), (Value.int .i64 a0_6), (Value.bool a0_7)]⟩)] (by kernel_rfl) w ((e_view_outer a0_0 a0_1 a0_2 a0_3 a0_4 a0_5 a0_6 a0_7 w K).mpr h)

/-- slices.IndexFunc[[]goosepond/api.Binding,goosepond/api.Binding] -/
def s_slices_IndexFunc_api_Binding_api_Binding (a0 : SliceV) (a1 : Value) (w : World) (K : Int → World → Prop) : Prop :=
 (LoopP (S := Int × Unit) (fun s3 w4 next5 =>
 (bif (decide (s3.1 < (a0.len : Int))) then
 AtIx a0 8 s3.1 fun a6 =>
 Ld (.int .i64) w4 (a6.add 0) fun x7 =>
 Ld (.int .i64) w4 (a6.add 1) fun x8 =>
 Ld (.int .i64) w4 (a6.add 2) fun x9 =>
 Ld (.int .i64) w4 (a6.add 3) fun x10 =>
 Ld (.int .i64) w4 (a6.add 4) fun x11 =>
 Ld (.int .i64) w4 (a6.add 5) fun x12 =>
 Ld (.int .i64) w4 (a6.add 6) fun x13 =>
 Ld .bool w4 (a6.add 7) fun x14 =>
 CallV Try.prog [.one .bool] a1 [(Value.agg ⟨[(Value.int .i64 x7), (Value.int .i64 x8), (Value.int .i64 x9), (Value.int .i64 x10), (Value.int .i64 x11), (Value.int .i64 x12), (Value.int .i64 x13), (Value.bool x14)]⟩)] w4 fun r15 w16 =>
 ∃ r17 : Bool, r15 = (Value.bool r17) ∧
 (bif r17 then
 K s3.1 w16
 else
 next5 ((IntKind.i64.wrap (s3.1 + 1)), ()) w16)
 else
 K (-1) w4)) (0, ()) w)
theorem e_slices_IndexFunc_api_Binding_api_Binding (a0 : SliceV) (a1 : Value) (w : World) (K : Int → World → Prop) : den Try.prog 19 (bodyOf Try.f60) none (.seq .leaf (.seq (.seq .leaf (.blk (.loop [(8, (.int .i64))] (.seq .leaf (.seq (.cond .leaf .leaf) (.seq (.blk (.seq .leaf (.seq .leaf (.cond (.seq .leaf .leaf) .leaf)))) .leaf)))))) (.seq .leaf .leaf))) (argEnv 0 [(Value.slice a0.a a0.len a0.cap), a1]) [] w (retK Try.prog [.tmp 4] [.one (.int .i64)] K) = s_slices_IndexFunc_api_Binding_api_Binding a0 a1 w K := by kernel_rfl
theorem ok_slices_IndexFunc_api_Binding_api_Binding {a0 a1 w K} (h : s_slices_IndexFunc_api_Binding_api_Binding a0 a1 w K) : c_slices_IndexFunc_api_Binding_api_Binding a0 a1 w K :=
  fn_sound pok Try.func60 (fn := Try.f60) (c := bodyOf Try.f60) (nt := 19) (by kernel_rfl) (by kernel_rfl) (rs := [.tmp 4]) (by kernel_rfl) [.one (.int .i64)] K (.seq .leaf (.seq (.seq .leaf (.blk (.loop [(8, (.int .i64))] (.seq .leaf (.seq (.cond .leaf .leaf) (.seq (.blk (.seq .leaf (.seq .leaf (.cond (.seq .leaf .leaf) .leaf)))) .leaf)))))) (.seq .leaf .leaf))) [(Value.slice a0.a a0.len a0.cap), a1] (by kernel_rfl) w ((e_slices_IndexFunc_api_Binding_api_Binding a0 a1 w K).mpr h)

/-- goosepond/view.Owner$1 -/
def s_view_Owner_1 (a0_0 : Int) (a0_1 : Int) (a0_2 : Int) (a0_3 : Int) (a0_4 : Int) (a0_5 : Int) (a0_6 : Int) (a0_7 : Bool) (f0 : Addr) (w : World) (K : Bool → World → Prop) : Prop :=
 (Al w (.cells ⟨[(Value.int .i64 a0_0), (Value.int .i64 a0_1), (Value.int .i64 a0_2), (Value.int .i64 a0_3), (Value.int .i64 a0_4), (Value.int .i64 a0_5), (Value.int .i64 a0_6), (Value.bool a0_7)]⟩ 61) fun a3 w2 =>
 Ld (.int .i64) w2 ((a3.add 4).add 0) fun x4 =>
 Ld (.int .i64) w2 ((a3.add 4).add 1) fun x5 =>
 Ld (.int .i64) w2 ((a3.add 4).add 2) fun x6 =>
 Ld (.int .i64) w2 (f0.add 0) fun x7 =>
 Ld (.int .i64) w2 (f0.add 1) fun x8 =>
 Ld (.int .i64) w2 (f0.add 2) fun x9 =>
 K ((x4 == x7) && ((x5 == x8) && ((x6 == x9) && true))) w2)
theorem e_view_Owner_1 (a0_0 : Int) (a0_1 : Int) (a0_2 : Int) (a0_3 : Int) (a0_4 : Int) (a0_5 : Int) (a0_6 : Int) (a0_7 : Bool) (f0 : Addr) (w : World) (K : Bool → World → Prop) : den Try.prog 8 (bodyOf Try.f61) none (.seq .leaf (.seq .leaf .leaf)) (argEnv 0 [(Value.agg ⟨[(Value.int .i64 a0_0), (Value.int .i64 a0_1), (Value.int .i64 a0_2), (Value.int .i64 a0_3), (Value.int .i64 a0_4), (Value.int .i64 a0_5), (Value.int .i64 a0_6), (Value.bool a0_7)]⟩), (Value.pointer (some f0))]) [] w (retK Try.prog [.tmp 3] [.one .bool] K) = s_view_Owner_1 a0_0 a0_1 a0_2 a0_3 a0_4 a0_5 a0_6 a0_7 f0 w K := by kernel_rfl
theorem ok_view_Owner_1 {a0_0 a0_1 a0_2 a0_3 a0_4 a0_5 a0_6 a0_7 f0 w K} (h : s_view_Owner_1 a0_0 a0_1 a0_2 a0_3 a0_4 a0_5 a0_6 a0_7 f0 w K) : c_view_Owner_1 a0_0 a0_1 a0_2 a0_3 a0_4 a0_5 a0_6 a0_7 f0 w K :=
  fn_sound pok Try.func61 (fn := Try.f61) (c := bodyOf Try.f61) (nt := 8) (by kernel_rfl) (by kernel_rfl) (rs := [.tmp 3]) (by kernel_rfl) [.one .bool] K (.seq .leaf (.seq .leaf .leaf)) [(Value.agg ⟨[(Value.int .i64 a0_0), (Value.int .i64 a0_1), (Value.int .i64 a0_2), (Value.int .i64 a0_3), (Value.int .i64 a0_4), (Value.int .i64 a0_5), (Value.int .i64 a0_6), (Value.bool a0_7)]⟩), (Value.pointer (some f0))] (by kernel_rfl) w ((e_view_Owner_1 a0_0 a0_1 a0_2 a0_3 a0_4 a0_5 a0_6 a0_7 f0 w K).mpr h)

/-- goosepond/view.foreign$1 -/
def s_view_foreign_1 (a0_0 : Int) (a0_1 : Int) (a0_2 : Int) (a0_3 : Int) (a0_4 : Int) (a0_5 : Int) (a0_6 : Int) (a0_7 : Bool) (f0 : Addr) (w : World) (K : Bool → World → Prop) : Prop :=
 (Al w (.cells ⟨[(Value.int .i64 a0_0), (Value.int .i64 a0_1), (Value.int .i64 a0_2), (Value.int .i64 a0_3), (Value.int .i64 a0_4), (Value.int .i64 a0_5), (Value.int .i64 a0_6), (Value.bool a0_7)]⟩ 61) fun a3 w2 =>
 Ld .slice w2 (f0.add 17) fun x4 =>
 Ld (.int .i64) w2 ((a3.add 4).add 1) fun x5 =>
 c_slices_Contains_int_int x4 x5 w2 fun r6 w7 =>
 (bif (!r6) then
 K true w7
 else
 let J8 : Bool → Prop := fun j9 =>
 (K j9 w7)
 Ld .bool w7 (a3.add 7) fun x10 =>
 (bif (!x10) then
 Ld (.int .i64) w7 ((a3.add 4).add 2) fun x11 =>
 Ld (.int .i64) w7 (f0.add 18) fun x12 =>
 (bif (decide (x11 < x12)) then
 J8 true
 else
 Ld (.int .i64) w7 ((a3.add 4).add 2) fun x13 =>
 Ld (.int .i64) w7 (f0.add 19) fun x14 =>
 J8 (decide (x13 > x14)))
 else
 J8 false)))
theorem e_view_foreign_1 (a0_0 : Int) (a0_1 : Int) (a0_2 : Int) (a0_3 : Int) (a0_4 : Int) (a0_5 : Int) (a0_6 : Int) (a0_7 : Bool) (f0 : Addr) (w : World) (K : Bool → World → Prop) : den Try.prog 30 (bodyOf Try.f94) none (.seq .leaf (.seq (.seq .leaf (.cond (.seq .leaf .leaf) .leaf)) (.seq .leaf .leaf))) (argEnv 0 [(Value.agg ⟨[(Value.int .i64 a0_0), (Value.int .i64 a0_1), (Value.int .i64 a0_2), (Value.int .i64 a0_3), (Value.int .i64 a0_4), (Value.int .i64 a0_5), (Value.int .i64 a0_6), (Value.bool a0_7)]⟩), (Value.pointer (some f0))]) [] w (retK Try.prog [.tmp 3] [.one .bool] K) = s_view_foreign_1 a0_0 a0_1 a0_2 a0_3 a0_4 a0_5 a0_6 a0_7 f0 w K := by kernel_rfl
theorem ok_view_foreign_1 {a0_0 a0_1 a0_2 a0_3 a0_4 a0_5 a0_6 a0_7 f0 w K} (h : s_view_foreign_1 a0_0 a0_1 a0_2 a0_3 a0_4 a0_5 a0_6 a0_7 f0 w K) : c_view_foreign_1 a0_0 a0_1 a0_2 a0_3 a0_4 a0_5 a0_6 a0_7 f0 w K :=
  fn_sound pok Try.func94 (fn := Try.f94) (c := bodyOf Try.f94) (nt := 30) (by kernel_rfl) (by kernel_rfl) (rs := [.tmp 3]) (by kernel_rfl) [.one .bool] K (.seq .leaf (.seq (.seq .leaf (.cond (.seq .leaf .leaf) .leaf)) (.seq .leaf .leaf))) [(Value.agg ⟨[(Value.int .i64 a0_0), (Value.int .i64 a0_1), (Value.int .i64 a0_2), (Value.int .i64 a0_3), (Value.int .i64 a0_4), (Value.int .i64 a0_5), (Value.int .i64 a0_6), (Value.bool a0_7)]⟩), (Value.pointer (some f0))] (by kernel_rfl) w ((e_view_foreign_1 a0_0 a0_1 a0_2 a0_3 a0_4 a0_5 a0_6 a0_7 f0 w K).mpr h)

/-- slices.IndexFunc[[]goosepond/api.Session,goosepond/api.Session] -/
def s_slices_IndexFunc_api_Session_api_Session (a0 : SliceV) (a1 : Value) (w : World) (K : Int → World → Prop) : Prop :=
 (LoopP (S := Int × Unit) (fun s3 w4 next5 =>
 (bif (decide (s3.1 < (a0.len : Int))) then
 AtIx a0 5 s3.1 fun a6 =>
 Ld (.int .i64) w4 (a6.add 0) fun x7 =>
 Ld (.int .i64) w4 (a6.add 1) fun x8 =>
 Ld (.int .i64) w4 (a6.add 2) fun x9 =>
 Ld (.int .i64) w4 (a6.add 3) fun x10 =>
 Ld (.int .i64) w4 (a6.add 4) fun x11 =>
 CallV Try.prog [.one .bool] a1 [(Value.agg ⟨[(Value.int .i64 x7), (Value.int .i64 x8), (Value.int .i64 x9), (Value.int .i64 x10), (Value.int .i64 x11)]⟩)] w4 fun r12 w13 =>
 ∃ r14 : Bool, r12 = (Value.bool r14) ∧
 (bif r14 then
 K s3.1 w13
 else
 next5 ((IntKind.i64.wrap (s3.1 + 1)), ()) w13)
 else
 K (-1) w4)) (0, ()) w)
theorem e_slices_IndexFunc_api_Session_api_Session (a0 : SliceV) (a1 : Value) (w : World) (K : Int → World → Prop) : den Try.prog 19 (bodyOf Try.f95) none (.seq .leaf (.seq (.seq .leaf (.blk (.loop [(8, (.int .i64))] (.seq .leaf (.seq (.cond .leaf .leaf) (.seq (.blk (.seq .leaf (.seq .leaf (.cond (.seq .leaf .leaf) .leaf)))) .leaf)))))) (.seq .leaf .leaf))) (argEnv 0 [(Value.slice a0.a a0.len a0.cap), a1]) [] w (retK Try.prog [.tmp 4] [.one (.int .i64)] K) = s_slices_IndexFunc_api_Session_api_Session a0 a1 w K := by kernel_rfl
theorem ok_slices_IndexFunc_api_Session_api_Session {a0 a1 w K} (h : s_slices_IndexFunc_api_Session_api_Session a0 a1 w K) : c_slices_IndexFunc_api_Session_api_Session a0 a1 w K :=
  fn_sound pok Try.func95 (fn := Try.f95) (c := bodyOf Try.f95) (nt := 19) (by kernel_rfl) (by kernel_rfl) (rs := [.tmp 4]) (by kernel_rfl) [.one (.int .i64)] K (.seq .leaf (.seq (.seq .leaf (.blk (.loop [(8, (.int .i64))] (.seq .leaf (.seq (.cond .leaf .leaf) (.seq (.blk (.seq .leaf (.seq .leaf (.cond (.seq .leaf .leaf) .leaf)))) .leaf)))))) (.seq .leaf .leaf))) [(Value.slice a0.a a0.len a0.cap), a1] (by kernel_rfl) w ((e_slices_IndexFunc_api_Session_api_Session a0 a1 w K).mpr h)

/-- goosepond/view.each[goosepond/api.Binding,goosepond/api.Inner]$1 -/
def s_view_each_api_Binding_api_Inner_1 (a0 : Value) (f0 : Addr) (f1 : Addr) (w : World) (K : World → Prop) : Prop :=
 (Ld .slice w f0 fun x2 =>
 LoopP (S := Int × Unit) (fun s3 w4 next5 =>
 (bif (decide (s3.1 < (x2.len : Int))) then
 AtIx x2 8 s3.1 fun a6 =>
 Ld (.int .i64) w4 (a6.add 0) fun x7 =>
 Ld (.int .i64) w4 (a6.add 1) fun x8 =>
 Ld (.int .i64) w4 (a6.add 2) fun x9 =>
 Ld (.int .i64) w4 (a6.add 3) fun x10 =>
 Ld (.int .i64) w4 (a6.add 4) fun x11 =>
 Ld (.int .i64) w4 (a6.add 5) fun x12 =>
 Ld (.int .i64) w4 (a6.add 6) fun x13 =>
 Ld .bool w4 (a6.add 7) fun x14 =>
 Al w4 (.cells ⟨[(Value.int .i64 0), (Value.int .i64 0), (Value.int .i64 0), (Value.int .i64 0), (Value.int .i64 0), (Value.int .i64 0), (Value.int .i64 0), (Value.bool false)]⟩ 61) fun a16 w15 =>
 StN [(Value.int .i64 x7), (Value.int .i64 x8), (Value.int .i64 x9), (Value.int .i64 x10), (Value.int .i64 x11), (Value.int .i64 x12), (Value.int .i64 x13), (Value.bool x14)] w15 a16 0 fun w17 =>
 Ld .any w17 f1 fun x18 =>
 Ld (.int .i64) w17 (a16.add 0) fun x19 =>
 Ld (.int .i64) w17 (a16.add 1) fun x20 =>
 Ld (.int .i64) w17 (a16.add 2) fun x21 =>
 Ld (.int .i64) w17 (a16.add 3) fun x22 =>
 Ld (.int .i64) w17 (a16.add 4) fun x23 =>
 Ld (.int .i64) w17 (a16.add 5) fun x24 =>
 Ld (.int .i64) w17 (a16.add 6) fun x25 =>
 Ld .bool w17 (a16.add 7) fun x26 =>
 CallV Try.prog [.agg [(.int .i64), (.int .i64), (.int .i64), (.int .i64)]] x18 [(Value.agg ⟨[(Value.int .i64 x19), (Value.int .i64 x20), (Value.int .i64 x21), (Value.int .i64 x22), (Value.int .i64 x23), (Value.int .i64 x24), (Value.int .i64 x25), (Value.bool x26)]⟩)] w17 fun r27 w28 =>
 ∃ r29 : Int, ∃ r30 : Int, ∃ r31 : Int, ∃ r32 : Int, r27 = (Value.agg ⟨[(Value.int .i64 r29), (Value.int .i64 r30), (Value.int .i64 r31), (Value.int .i64 r32)]⟩) ∧
 CallV Try.prog [.one .bool] a0 [(Value.agg ⟨[(Value.int .i64 r29), (Value.int .i64 r30), (Value.int .i64 r31), (Value.int .i64 r32)]⟩)] w28 fun r33 w34 =>
 ∃ r35 : Bool, r33 = (Value.bool r35) ∧
 (bif (!r35) then
 K w34
 else
 next5 ((IntKind.i64.wrap (s3.1 + 1)), ()) w34)
 else
 K w4)) (0, ()) w)
theorem e_view_each_api_Binding_api_Inner_1 (a0 : Value) (f0 : Addr) (f1 : Addr) (w : World) (K : World → Prop) : den Try.prog 19 (bodyOf Try.f96) none (.seq .leaf (.blk (.loop [(8, (.int .i64))] (.seq .leaf (.seq (.cond .leaf .leaf) (.seq (.blk (.seq .leaf (.seq .leaf (.cond .leaf .leaf)))) .leaf)))))) (argEnv 0 [a0, (Value.pointer (some f0)), (Value.pointer (some f1))]) [] w (retK Try.prog [] [] K) = s_view_each_api_Binding_api_Inner_1 a0 f0 f1 w K := by kernel_rfl
theorem ok_view_each_api_Binding_api_Inner_1 {a0 f0 f1 w K} (h : s_view_each_api_Binding_api_Inner_1 a0 f0 f1 w K) : c_view_each_api_Binding_api_Inner_1 a0 f0 f1 w K :=
  fn_sound pok Try.func96 (fn := Try.f96) (c := bodyOf Try.f96) (nt := 19) (by kernel_rfl) (by kernel_rfl) (rs := []) (by kernel_rfl) [] K (.seq .leaf (.blk (.loop [(8, (.int .i64))] (.seq .leaf (.seq (.cond .leaf .leaf) (.seq (.blk (.seq .leaf (.seq .leaf (.cond .leaf .leaf)))) .leaf)))))) [a0, (Value.pointer (some f0)), (Value.pointer (some f1))] (by kernel_rfl) w ((e_view_each_api_Binding_api_Inner_1 a0 f0 f1 w K).mpr h)

/-- goosepond/view.each[goosepond/api.Binding,goosepond/api.Outer]$1 -/
def s_view_each_api_Binding_api_Outer_1 (a0 : Value) (f0 : Addr) (f1 : Addr) (w : World) (K : World → Prop) : Prop :=
 (Ld .slice w f0 fun x2 =>
 LoopP (S := Int × Unit) (fun s3 w4 next5 =>
 (bif (decide (s3.1 < (x2.len : Int))) then
 AtIx x2 8 s3.1 fun a6 =>
 Ld (.int .i64) w4 (a6.add 0) fun x7 =>
 Ld (.int .i64) w4 (a6.add 1) fun x8 =>
 Ld (.int .i64) w4 (a6.add 2) fun x9 =>
 Ld (.int .i64) w4 (a6.add 3) fun x10 =>
 Ld (.int .i64) w4 (a6.add 4) fun x11 =>
 Ld (.int .i64) w4 (a6.add 5) fun x12 =>
 Ld (.int .i64) w4 (a6.add 6) fun x13 =>
 Ld .bool w4 (a6.add 7) fun x14 =>
 Al w4 (.cells ⟨[(Value.int .i64 0), (Value.int .i64 0), (Value.int .i64 0), (Value.int .i64 0), (Value.int .i64 0), (Value.int .i64 0), (Value.int .i64 0), (Value.bool false)]⟩ 61) fun a16 w15 =>
 StN [(Value.int .i64 x7), (Value.int .i64 x8), (Value.int .i64 x9), (Value.int .i64 x10), (Value.int .i64 x11), (Value.int .i64 x12), (Value.int .i64 x13), (Value.bool x14)] w15 a16 0 fun w17 =>
 Ld .any w17 f1 fun x18 =>
 Ld (.int .i64) w17 (a16.add 0) fun x19 =>
 Ld (.int .i64) w17 (a16.add 1) fun x20 =>
 Ld (.int .i64) w17 (a16.add 2) fun x21 =>
 Ld (.int .i64) w17 (a16.add 3) fun x22 =>
 Ld (.int .i64) w17 (a16.add 4) fun x23 =>
 Ld (.int .i64) w17 (a16.add 5) fun x24 =>
 Ld (.int .i64) w17 (a16.add 6) fun x25 =>
 Ld .bool w17 (a16.add 7) fun x26 =>
 CallV Try.prog [.agg [(.int .i64), (.int .i64), (.int .i64)]] x18 [(Value.agg ⟨[(Value.int .i64 x19), (Value.int .i64 x20), (Value.int .i64 x21), (Value.int .i64 x22), (Value.int .i64 x23), (Value.int .i64 x24), (Value.int .i64 x25), (Value.bool x26)]⟩)] w17 fun r27 w28 =>
 ∃ r29 : Int, ∃ r30 : Int, ∃ r31 : Int, r27 = (Value.agg ⟨[(Value.int .i64 r29), (Value.int .i64 r30), (Value.int .i64 r31)]⟩) ∧
 CallV Try.prog [.one .bool] a0 [(Value.agg ⟨[(Value.int .i64 r29), (Value.int .i64 r30), (Value.int .i64 r31)]⟩)] w28 fun r32 w33 =>
 ∃ r34 : Bool, r32 = (Value.bool r34) ∧
 (bif (!r34) then
 K w33
 else
 next5 ((IntKind.i64.wrap (s3.1 + 1)), ()) w33)
 else
 K w4)) (0, ()) w)
theorem e_view_each_api_Binding_api_Outer_1 (a0 : Value) (f0 : Addr) (f1 : Addr) (w : World) (K : World → Prop) : den Try.prog 19 (bodyOf Try.f97) none (.seq .leaf (.blk (.loop [(8, (.int .i64))] (.seq .leaf (.seq (.cond .leaf .leaf) (.seq (.blk (.seq .leaf (.seq .leaf (.cond .leaf .leaf)))) .leaf)))))) (argEnv 0 [a0, (Value.pointer (some f0)), (Value.pointer (some f1))]) [] w (retK Try.prog [] [] K) = s_view_each_api_Binding_api_Outer_1 a0 f0 f1 w K := by kernel_rfl
theorem ok_view_each_api_Binding_api_Outer_1 {a0 f0 f1 w K} (h : s_view_each_api_Binding_api_Outer_1 a0 f0 f1 w K) : c_view_each_api_Binding_api_Outer_1 a0 f0 f1 w K :=
  fn_sound pok Try.func97 (fn := Try.f97) (c := bodyOf Try.f97) (nt := 19) (by kernel_rfl) (by kernel_rfl) (rs := []) (by kernel_rfl) [] K (.seq .leaf (.blk (.loop [(8, (.int .i64))] (.seq .leaf (.seq (.cond .leaf .leaf) (.seq (.blk (.seq .leaf (.seq .leaf (.cond .leaf .leaf)))) .leaf)))))) [a0, (Value.pointer (some f0)), (Value.pointer (some f1))] (by kernel_rfl) w ((e_view_each_api_Binding_api_Outer_1 a0 f0 f1 w K).mpr h)

end Go.Proofs
