import Derived.Test.YtcnkafgimclghaaG41a
import Derived.Test.YtcnkafgimclghaaG41b
namespace Go.Proofs
open Gp
set_option maxRecDepth 100000
set_option maxHeartbeats 4000000
/-- goosepond/goosepondlaw30.RelayTable -/
abbrev n_law30_RelayTable : FuncId := 3
def c_law30_RelayTable (a0 : Int) (a1 : Int) (a2 : Int) (w : World) (K : Bool → World → Prop) : Prop :=
  Calls Try.prog 3 ⟨[(Value.int .i64 a0), (Value.int .i64 a1), (Value.int .i64 a2)]⟩ w fun e w' => ∃ y21 : Bool, e = .returned (Value.bool y21) ∧ K y21 w'
theorem cm_law30_RelayTable {a0 a1 a2 w K K'} (h : c_law30_RelayTable a0 a1 a2 w K) (hk : ∀ x0 w', K x0 w' → K' x0 w') : c_law30_RelayTable a0 a1 a2 w K' :=
  Calls.mono h fun e w' hh => by obtain ⟨x0, he, hx⟩ := hh; exact ⟨x0, he, hk _ _ hx⟩

/-- goosepond/goosepondlaw30.RelayReaches -/
abbrev n_law30_RelayReaches : FuncId := 4
def c_law30_RelayReaches (a0_0 : Int) (a0_1 : Int) (a0_2 : Int) (a0_3 : Int) (a0_4 : Int) (a0_5 : Int) (a0_6 : Int) (a0_7 : Int) (a0_8 : Int) (a0_9 : Int) (a0_10 : Int) (a0_11 : Int) (a0_12 : Int) (a0_13 : Int) (a0_14 : Int) (a0_15 : Int) (a1_0 : Int) (a1_1 : Int) (a1_2 : Int) (a1_3 : Int) (a1_4 : Int) (a1_5 : Int) (a1_6 : Int) (a1_7 : Int) (a1_8 : Int) (a1_9 : Int) (a1_10 : Int) (a1_11 : Int) (a1_12 : Int) (a1_13 : Int) (a1_14 : Int) (a1_15 : Int) (a2_0 : Int) (a2_1 : Int) (a3 : SliceV) (a4 : Int) (a5 : Int) (w : World) (K : Bool → World → Prop) : Prop :=
  Calls Try.prog 4 ⟨[(Value.agg ⟨[(Value.int .u8 a0_0), (Value.int .u8 a0_1), (Value.int .u8 a0_2), (Value.int .u8 a0_3), (Value.int .u8 a0_4), (Value.int .u8 a0_5), (Value.int .u8 a0_6), (Value.int .u8 a0_7), (Value.int .u8 a0_8), (Value.int .u8 a0_9), (Value.int .u8 a0_10), (Value.int .u8 a0_11), (Value.int .u8 a0_12), (Value.int .u8 a0_13), (Value.int .u8 a0_14), (Value.int .u8 a0_15)]⟩), (Value.agg ⟨[(Value.int .u8 a1_0), (Value.int .u8 a1_1), (Value.int .u8 a1_2), (Value.int .u8 a1_3), (Value.int .u8 a1_4), (Value.int .u8 a1_5), (Value.int .u8 a1_6), (Value.int .u8 a1_7), (Value.int .u8 a1_8), (Value.int .u8 a1_9), (Value.int .u8 a1_10), (Value.int .u8 a1_11), (Value.int .u8 a1_12), (Value.int .u8 a1_13), (Value.int .u8 a1_14), (Value.int .u8 a1_15)]⟩), (Value.agg ⟨[(Value.int .u16 a2_0), (Value.int .u16 a2_1)]⟩), (Value.slice a3.a a3.len a3.cap), (Value.int .u16 a4), (Value.int .u8 a5)]⟩ w fun e w' => ∃ y253 : Bool, e = .returned (Value.bool y253) ∧ K y253 w'
theorem cm_law30_RelayReaches {a0_0 a0_1 a0_2 a0_3 a0_4 a0_5 a0_6 a0_7 a0_8 a0_9 a0_10 a0_11 a0_12 a0_13 a0_14 a0_15 a1_0 a1_1 a1_2 a1_3 a1_4 a1_5 a1_6 a1_7 a1_8 a1_9 a1_10 a1_11 a1_12 a1_13 a1_14 a1_15 a2_0 a2_1 a3 a4 a5 w K K'} (h : c_law30_RelayReaches a0_0 a0_1 a0_2 a0_3 a0_4 a0_5 a0_6 a0_7 a0_8 a0_9 a0_10 a0_11 a0_12 a0_13 a0_14 a0_15 a1_0 a1_1 a1_2 a1_3 a1_4 a1_5 a1_6 a1_7 a1_8 a1_9 a1_10 a1_11 a1_12 a1_13 a1_14 a1_15 a2_0 a2_1 a3 a4 a5 w K) (hk : ∀ x0 w', K x0 w' → K' x0 w') : c_law30_RelayReaches a0_0 a0_1 a0_2 a0_3 a0_4 a0_5 a0_6 a0_7 a0_8 a0_9 a0_10 a0_11 a0_12 a0_13 a0_14 a0_15 a1_0 a1_1 a1_2 a1_3 a1_4 a1_5 a1_6 a1_7 a1_8 a1_9 a1_10 a1_11 a1_12 a1_13 a1_14 a1_15 a2_0 a2_1 a3 a4 a5 w K' :=
  Calls.mono h fun e w' hh => by obtain ⟨x0, he, hx⟩ := hh; exact ⟨x0, he, hk _ _ hx⟩

/-- goosepond/goosepondlaw30.RelayOnce -/
abbrev n_law30_RelayOnce : FuncId := 5
def c_law30_RelayOnce (a0_0 : Int) (a0_1 : Int) (a0_2 : Int) (a0_3 : Int) (a0_4 : Int) (a0_5 : Int) (a0_6 : Int) (a0_7 : Int) (a0_8 : Int) (a0_9 : Int) (a0_10 : Int) (a0_11 : Int) (a0_12 : Int) (a0_13 : Int) (a0_14 : Int) (a0_15 : Int) (a1_0 : Int) (a1_1 : Int) (a1_2 : Int) (a1_3 : Int) (a1_4 : Int) (a1_5 : Int) (a1_6 : Int) (a1_7 : Int) (a1_8 : Int) (a1_9 : Int) (a1_10 : Int) (a1_11 : Int) (a1_12 : Int) (a1_13 : Int) (a1_14 : Int) (a1_15 : Int) (a2_0 : Int) (a2_1 : Int) (a2_2 : Int) (a2_3 : SliceV) (a3 : Int) (w : World) (K : Bool → World → Prop) : Prop :=
  Calls Try.prog 5 ⟨[(Value.agg ⟨[(Value.int .u8 a0_0), (Value.int .u8 a0_1), (Value.int .u8 a0_2), (Value.int .u8 a0_3), (Value.int .u8 a0_4), (Value.int .u8 a0_5), (Value.int .u8 a0_6), (Value.int .u8 a0_7), (Value.int .u8 a0_8), (Value.int .u8 a0_9), (Value.int .u8 a0_10), (Value.int .u8 a0_11), (Value.int .u8 a0_12), (Value.int .u8 a0_13), (Value.int .u8 a0_14), (Value.int .u8 a0_15)]⟩), (Value.agg ⟨[(Value.int .u8 a1_0), (Value.int .u8 a1_1), (Value.int .u8 a1_2), (Value.int .u8 a1_3), (Value.int .u8 a1_4), (Value.int .u8 a1_5), (Value.int .u8 a1_6), (Value.int .u8 a1_7), (Value.int .u8 a1_8), (Value.int .u8 a1_9), (Value.int .u8 a1_10), (Value.int .u8 a1_11), (Value.int .u8 a1_12), (Value.int .u8 a1_13), (Value.int .u8 a1_14), (Value.int .u8 a1_15)]⟩), (Value.agg ⟨[(Value.int .i64 a2_0), (Value.int .i64 a2_1), (Value.int .i64 a2_2), (Value.slice a2_3.a a2_3.len a2_3.cap)]⟩), (Value.int .u8 a3)]⟩ w fun e w' => ∃ y247 : Bool, e = .returned (Value.bool y247) ∧ K y247 w'
theorem cm_law30_RelayOnce {a0_0 a0_1 a0_2 a0_3 a0_4 a0_5 a0_6 a0_7 a0_8 a0_9 a0_10 a0_11 a0_12 a0_13 a0_14 a0_15 a1_0 a1_1 a1_2 a1_3 a1_4 a1_5 a1_6 a1_7 a1_8 a1_9 a1_10 a1_11 a1_12 a1_13 a1_14 a1_15 a2_0 a2_1 a2_2 a2_3 a3 w K K'} (h : c_law30_RelayOnce a0_0 a0_1 a0_2 a0_3 a0_4 a0_5 a0_6 a0_7 a0_8 a0_9 a0_10 a0_11 a0_12 a0_13 a0_14 a0_15 a1_0 a1_1 a1_2 a1_3 a1_4 a1_5 a1_6 a1_7 a1_8 a1_9 a1_10 a1_11 a1_12 a1_13 a1_14 a1_15 a2_0 a2_1 a2_2 a2_3 a3 w K) (hk : ∀ x0 w', K x0 w' → K' x0 w') : c_law30_RelayOnce a0_0 a0_1 a0_2 a0_3 a0_4 a0_5 a0_6 a0_7 a0_8 a0_9 a0_10 a0_11 a0_12 a0_13 a0_14 a0_15 a1_0 a1_1 a1_2 a1_3 a1_4 a1_5 a1_6 a1_7 a1_8 a1_9 a1_10 a1_11 a1_12 a1_13 a1_14 a1_15 a2_0 a2_1 a2_2 a2_3 a3 w K' :=
  Calls.mono h fun e w' hh => by obtain ⟨x0, he, hx⟩ := hh; exact ⟨x0, he, hk _ _ hx⟩

/-- goosepond/goosepondlaw30.RelayTells -/
abbrev n_law30_RelayTells : FuncId := 6
def c_law30_RelayTells (a0_0 : Int) (a0_1 : Int) (a0_2 : Int) (a0_3 : Int) (a0_4 : Int) (a0_5 : Int) (a0_6 : Int) (a0_7 : Int) (a0_8 : Int) (a0_9 : Int) (a0_10 : Int) (a0_11 : Int) (a0_12 : Int) (a0_13 : Int) (a0_14 : Int) (a0_15 : Int) (a1_0 : Int) (a1_1 : Int) (a1_2 : Int) (a1_3 : SliceV) (a2 : Int) (w : World) (K : Bool → World → Prop) : Prop :=
  Calls Try.prog 6 ⟨[(Value.agg ⟨[(Value.int .u8 a0_0), (Value.int .u8 a0_1), (Value.int .u8 a0_2), (Value.int .u8 a0_3), (Value.int .u8 a0_4), (Value.int .u8 a0_5), (Value.int .u8 a0_6), (Value.int .u8 a0_7), (Value.int .u8 a0_8), (Value.int .u8 a0_9), (Value.int .u8 a0_10), (Value.int .u8 a0_11), (Value.int .u8 a0_12), (Value.int .u8 a0_13), (Value.int .u8 a0_14), (Value.int .u8 a0_15)]⟩), (Value.agg ⟨[(Value.int .i64 a1_0), (Value.int .i64 a1_1), (Value.int .i64 a1_2), (Value.slice a1_3.a a1_3.len a1_3.cap)]⟩), (Value.int .i64 a2)]⟩ w fun e w' => ∃ y247 : Bool, e = .returned (Value.bool y247) ∧ K y247 w'
theorem cm_law30_RelayTells {a0_0 a0_1 a0_2 a0_3 a0_4 a0_5 a0_6 a0_7 a0_8 a0_9 a0_10 a0_11 a0_12 a0_13 a0_14 a0_15 a1_0 a1_1 a1_2 a1_3 a2 w K K'} (h : c_law30_RelayTells a0_0 a0_1 a0_2 a0_3 a0_4 a0_5 a0_6 a0_7 a0_8 a0_9 a0_10 a0_11 a0_12 a0_13 a0_14 a0_15 a1_0 a1_1 a1_2 a1_3 a2 w K) (hk : ∀ x0 w', K x0 w' → K' x0 w') : c_law30_RelayTells a0_0 a0_1 a0_2 a0_3 a0_4 a0_5 a0_6 a0_7 a0_8 a0_9 a0_10 a0_11 a0_12 a0_13 a0_14 a0_15 a1_0 a1_1 a1_2 a1_3 a2 w K' :=
  Calls.mono h fun e w' hh => by obtain ⟨x0, he, hx⟩ := hh; exact ⟨x0, he, hk _ _ hx⟩

/-- goosepond/relay.Table -/
abbrev n_relay_Table : FuncId := 8
def c_relay_Table (a0 : Int) (a1 : Int) (a2 : Int) (w : World) (K : Int → Int → Int → Bool → World → Prop) : Prop :=
  Calls Try.prog 8 ⟨[(Value.int .i64 a0), (Value.int .i64 a1), (Value.int .i64 a2)]⟩ w fun e w' => ∃ y8 : Int, ∃ y9 : Int, ∃ y10 : Int, ∃ y11 : Bool, e = .returned (Value.tuple ⟨[(Value.int .i64 y8), (Value.int .i64 y9), (Value.int .i64 y10), (Value.bool y11)]⟩) ∧ K y8 y9 y10 y11 w'
theorem cm_relay_Table {a0 a1 a2 w K K'} (h : c_relay_Table a0 a1 a2 w K) (hk : ∀ x0 x1 x2 x3 w', K x0 x1 x2 x3 w' → K' x0 x1 x2 x3 w') : c_relay_Table a0 a1 a2 w K' :=
  Calls.mono h fun e w' hh => by obtain ⟨x0, x1, x2, x3, he, hx⟩ := hh; exact ⟨x0, x1, x2, x3, he, hk _ _ _ _ _ hx⟩

/-- goosepond/goosepondref30.Table -/
abbrev n_ref30_Table : FuncId := 9
def c_ref30_Table (a0 : Int) (a1 : Int) (a2 : Int) (w : World) (K : Int → Int → Int → Bool → World → Prop) : Prop :=
  Calls Try.prog 9 ⟨[(Value.int .i64 a0), (Value.int .i64 a1), (Value.int .i64 a2)]⟩ w fun e w' => ∃ y6 : Int, ∃ y7 : Int, ∃ y8 : Int, ∃ y9 : Bool, e = .returned (Value.tuple ⟨[(Value.int .i64 y6), (Value.int .i64 y7), (Value.int .i64 y8), (Value.bool y9)]⟩) ∧ K y6 y7 y8 y9 w'
theorem cm_ref30_Table {a0 a1 a2 w K K'} (h : c_ref30_Table a0 a1 a2 w K) (hk : ∀ x0 x1 x2 x3 w', K x0 x1 x2 x3 w' → K' x0 x1 x2 x3 w') : c_ref30_Table a0 a1 a2 w K' :=
  Calls.mono h fun e w' hh => by obtain ⟨x0, x1, x2, x3, he, hx⟩ := hh; exact ⟨x0, x1, x2, x3, he, hk _ _ _ _ _ hx⟩

/-- goosepond/goosepondlaw30.awake -/
abbrev n_law30_awake : FuncId := 10
def c_law30_awake  (w : World) (K : Bool → World → Prop) : Prop :=
  Calls Try.prog 10 ⟨[]⟩ w fun e w' => ∃ y325 : Bool, e = .returned (Value.bool y325) ∧ K y325 w'
theorem cm_law30_awake { w K K'} (h : c_law30_awake  w K) (hk : ∀ x0 w', K x0 w' → K' x0 w') : c_law30_awake  w K' :=
  Calls.mono h fun e w' hh => by obtain ⟨x0, he, hx⟩ := hh; exact ⟨x0, he, hk _ _ hx⟩

/-- goosepond/relay.Of -/
abbrev n_relay_Of : FuncId := 14
def c_relay_Of (a0_0 : Int) (a0_1 : Int) (a0_2 : Int) (a0_3 : Int) (a0_4 : Int) (a0_5 : Int) (a0_6 : Int) (a0_7 : Int) (a0_8 : Int) (a0_9 : Int) (a0_10 : Int) (a0_11 : Int) (a0_12 : Int) (a0_13 : Int) (a0_14 : Int) (a0_15 : Int) (a1_0 : Int) (a1_1 : Int) (a1_2 : Int) (a1_3 : SliceV) (w : World) (K : Int → Int → Int → Int → Int → Int → Int → Int → Int → Int → Int → Int → Int → Int → Int → Int → Int → Int → Int → SliceV → Int → World → Prop) : Prop :=
  Calls Try.prog 14 ⟨[(Value.agg ⟨[(Value.int .u8 a0_0), (Value.int .u8 a0_1), (Value.int .u8 a0_2), (Value.int .u8 a0_3), (Value.int .u8 a0_4), (Value.int .u8 a0_5), (Value.int .u8 a0_6), (Value.int .u8 a0_7), (Value.int .u8 a0_8), (Value.int .u8 a0_9), (Value.int .u8 a0_10), (Value.int .u8 a0_11), (Value.int .u8 a0_12), (Value.int .u8 a0_13), (Value.int .u8 a0_14), (Value.int .u8 a0_15)]⟩), (Value.agg ⟨[(Value.int .i64 a1_0), (Value.int .i64 a1_1), (Value.int .i64 a1_2), (Value.slice a1_3.a a1_3.len a1_3.cap)]⟩)]⟩ w fun e w' => ∃ y135 : Int, ∃ y136 : Int, ∃ y137 : Int, ∃ y138 : Int, ∃ y139 : Int, ∃ y140 : Int, ∃ y141 : Int, ∃ y142 : Int, ∃ y143 : Int, ∃ y144 : Int, ∃ y145 : Int, ∃ y146 : Int, ∃ y147 : Int, ∃ y148 : Int, ∃ y149 : Int, ∃ y150 : Int, ∃ y151 : Int, ∃ y152 : Int, ∃ y153 : Int, ∃ y154 : SliceV, ∃ y155 : Int, e = .returned (Value.tuple ⟨[(Value.agg ⟨[(Value.int .u8 y135), (Value.int .u8 y136), (Value.int .u8 y137), (Value.int .u8 y138), (Value.int .u8 y139), (Value.int .u8 y140), (Value.int .u8 y141), (Value.int .u8 y142), (Value.int .u8 y143), (Value.int .u8 y144), (Value.int .u8 y145), (Value.int .u8 y146), (Value.int .u8 y147), (Value.int .u8 y148), (Value.int .u8 y149), (Value.int .u8 y150), (Value.int .i64 y151), (Value.int .i64 y152), (Value.int .i64 y153), (Value.slice y154.a y154.len y154.cap)]⟩), (Value.int .i64 y155)]⟩) ∧ K y135 y136 y137 y138 y139 y140 y141 y142 y143 y144 y145 y146 y147 y148 y149 y150 y151 y152 y153 y154 y155 w'
theorem cm_relay_Of {a0_0 a0_1 a0_2 a0_3 a0_4 a0_5 a0_6 a0_7 a0_8 a0_9 a0_10 a0_11 a0_12 a0_13 a0_14 a0_15 a1_0 a1_1 a1_2 a1_3 w K K'} (h : c_relay_Of a0_0 a0_1 a0_2 a0_3 a0_4 a0_5 a0_6 a0_7 a0_8 a0_9 a0_10 a0_11 a0_12 a0_13 a0_14 a0_15 a1_0 a1_1 a1_2 a1_3 w K) (hk : ∀ x0 x1 x2 x3 x4 x5 x6 x7 x8 x9 x10 x11 x12 x13 x14 x15 x16 x17 x18 x19 x20 w', K x0 x1 x2 x3 x4 x5 x6 x7 x8 x9 x10 x11 x12 x13 x14 x15 x16 x17 x18 x19 x20 w' → K' x0 x1 x2 x3 x4 x5 x6 x7 x8 x9 x10 x11 x12 x13 x14 x15 x16 x17 x18 x19 x20 w') : c_relay_Of a0_0 a0_1 a0_2 a0_3 a0_4 a0_5 a0_6 a0_7 a0_8 a0_9 a0_10 a0_11 a0_12 a0_13 a0_14 a0_15 a1_0 a1_1 a1_2 a1_3 w K' :=
  Calls.mono h fun e w' hh => by obtain ⟨x0, x1, x2, x3, x4, x5, x6, x7, x8, x9, x10, x11, x12, x13, x14, x15, x16, x17, x18, x19, x20, he, hx⟩ := hh; exact ⟨x0, x1, x2, x3, x4, x5, x6, x7, x8, x9, x10, x11, x12, x13, x14, x15, x16, x17, x18, x19, x20, he, hk _ _ _ _ _ _ _ _ _ _ _ _ _ _ _ _ _ _ _ _ _ _ hx⟩

/-- goosepond/relay.Packet -/
abbrev n_relay_Packet : FuncId := 15
def c_relay_Packet (a0 : Int) (a1_0 : Int) (a1_1 : Int) (a1_2 : Int) (a1_3 : Int) (a1_4 : Int) (a1_5 : Int) (a1_6 : Int) (a1_7 : Int) (a1_8 : Int) (a1_9 : Int) (a1_10 : Int) (a1_11 : Int) (a1_12 : Int) (a1_13 : Int) (a1_14 : Int) (a1_15 : Int) (a1_16 : Int) (a1_17 : Int) (a1_18 : Int) (a1_19 : SliceV) (w : World) (K : Int → Int → Int → Int → Int → Int → Int → Bool → Bool → SliceV → SliceV → Int → World → Prop) : Prop :=
  Calls Try.prog 15 ⟨[(Value.int .i64 a0), (Value.agg ⟨[(Value.int .u8 a1_0), (Value.int .u8 a1_1), (Value.int .u8 a1_2), (Value.int .u8 a1_3), (Value.int .u8 a1_4), (Value.int .u8 a1_5), (Value.int .u8 a1_6), (Value.int .u8 a1_7), (Value.int .u8 a1_8), (Value.int .u8 a1_9), (Value.int .u8 a1_10), (Value.int .u8 a1_11), (Value.int .u8 a1_12), (Value.int .u8 a1_13), (Value.int .u8 a1_14), (Value.int .u8 a1_15), (Value.int .i64 a1_16), (Value.int .i64 a1_17), (Value.int .i64 a1_18), (Value.slice a1_19.a a1_19.len a1_19.cap)]⟩)]⟩ w fun e w' => ∃ y36 : Int, ∃ y37 : Int, ∃ y38 : Int, ∃ y39 : Int, ∃ y40 : Int, ∃ y41 : Int, ∃ y42 : Int, ∃ y43 : Bool, ∃ y44 : Bool, ∃ y45 : SliceV, ∃ y46 : SliceV, ∃ y47 : Int, e = .returned (Value.tuple ⟨[(Value.agg ⟨[(Value.int .i64 y36), (Value.int .i64 y37), (Value.int .i64 y38), (Value.int .i64 y39), (Value.int .i64 y40), (Value.int .i64 y41), (Value.int .i64 y42), (Value.bool y43), (Value.bool y44), (Value.slice y45.a y45.len y45.cap), (Value.slice y46.a y46.len y46.cap)]⟩), (Value.int .i64 y47)]⟩) ∧ K y36 y37 y38 y39 y40 y41 y42 y43 y44 y45 y46 y47 w'
theorem cm_relay_Packet {a0 a1_0 a1_1 a1_2 a1_3 a1_4 a1_5 a1_6 a1_7 a1_8 a1_9 a1_10 a1_11 a1_12 a1_13 a1_14 a1_15 a1_16 a1_17 a1_18 a1_19 w K K'} (h : c_relay_Packet a0 a1_0 a1_1 a1_2 a1_3 a1_4 a1_5 a1_6 a1_7 a1_8 a1_9 a1_10 a1_11 a1_12 a1_13 a1_14 a1_15 a1_16 a1_17 a1_18 a1_19 w K) (hk : ∀ x0 x1 x2 x3 x4 x5 x6 x7 x8 x9 x10 x11 w', K x0 x1 x2 x3 x4 x5 x6 x7 x8 x9 x10 x11 w' → K' x0 x1 x2 x3 x4 x5 x6 x7 x8 x9 x10 x11 w') : c_relay_Packet a0 a1_0 a1_1 a1_2 a1_3 a1_4 a1_5 a1_6 a1_7 a1_8 a1_9 a1_10 a1_11 a1_12 a1_13 a1_14 a1_15 a1_16 a1_17 a1_18 a1_19 w K' :=
  Calls.mono h fun e w' hh => by obtain ⟨x0, x1, x2, x3, x4, x5, x6, x7, x8, x9, x10, x11, he, hx⟩ := hh; exact ⟨x0, x1, x2, x3, x4, x5, x6, x7, x8, x9, x10, x11, he, hk _ _ _ _ _ _ _ _ _ _ _ _ _ hx⟩

/-- goosepond/goosepondref30.Of -/
abbrev n_ref30_Of : FuncId := 17
def c_ref30_Of (a0_0 : Int) (a0_1 : Int) (a0_2 : Int) (a0_3 : Int) (a0_4 : Int) (a0_5 : Int) (a0_6 : Int) (a0_7 : Int) (a0_8 : Int) (a0_9 : Int) (a0_10 : Int) (a0_11 : Int) (a0_12 : Int) (a0_13 : Int) (a0_14 : Int) (a0_15 : Int) (a1_0 : Int) (a1_1 : Int) (a1_2 : Int) (a1_3 : SliceV) (w : World) (K : Int → Int → Int → Int → Int → Int → Int → Int → Int → Int → Int → Int → Int → Int → Int → Int → Int → Int → Int → SliceV → Int → World → Prop) : Prop :=
  Calls Try.prog 17 ⟨[(Value.agg ⟨[(Value.int .u8 a0_0), (Value.int .u8 a0_1), (Value.int .u8 a0_2), (Value.int .u8 a0_3), (Value.int .u8 a0_4), (Value.int .u8 a0_5), (Value.int .u8 a0_6), (Value.int .u8 a0_7), (Value.int .u8 a0_8), (Value.int .u8 a0_9), (Value.int .u8 a0_10), (Value.int .u8 a0_11), (Value.int .u8 a0_12), (Value.int .u8 a0_13), (Value.int .u8 a0_14), (Value.int .u8 a0_15)]⟩), (Value.agg ⟨[(Value.int .i64 a1_0), (Value.int .i64 a1_1), (Value.int .i64 a1_2), (Value.slice a1_3.a a1_3.len a1_3.cap)]⟩)]⟩ w fun e w' => ∃ y312 : Int, ∃ y313 : Int, ∃ y314 : Int, ∃ y315 : Int, ∃ y316 : Int, ∃ y317 : Int, ∃ y318 : Int, ∃ y319 : Int, ∃ y320 : Int, ∃ y321 : Int, ∃ y322 : Int, ∃ y323 : Int, ∃ y324 : Int, ∃ y325 : Int, ∃ y326 : Int, ∃ y327 : Int, ∃ y328 : Int, ∃ y329 : Int, ∃ y330 : Int, ∃ y331 : SliceV, ∃ y332 : Int, e = .returned (Value.tuple ⟨[(Value.agg ⟨[(Value.int .u8 y312), (Value.int .u8 y313), (Value.int .u8 y314), (Value.int .u8 y315), (Value.int .u8 y316), (Value.int .u8 y317), (Value.int .u8 y318), (Value.int .u8 y319), (Value.int .u8 y320), (Value.int .u8 y321), (Value.int .u8 y322), (Value.int .u8 y323), (Value.int .u8 y324), (Value.int .u8 y325), (Value.int .u8 y326), (Value.int .u8 y327), (Value.int .i64 y328), (Value.int .i64 y329), (Value.int .i64 y330), (Value.slice y331.a y331.len y331.cap)]⟩), (Value.int .i64 y332)]⟩) ∧ K y312 y313 y314 y315 y316 y317 y318 y319 y320 y321 y322 y323 y324 y325 y326 y327 y328 y329 y330 y331 y332 w'
theorem cm_ref30_Of {a0_0 a0_1 a0_2 a0_3 a0_4 a0_5 a0_6 a0_7 a0_8 a0_9 a0_10 a0_11 a0_12 a0_13 a0_14 a0_15 a1_0 a1_1 a1_2 a1_3 w K K'} (h : c_ref30_Of a0_0 a0_1 a0_2 a0_3 a0_4 a0_5 a0_6 a0_7 a0_8 a0_9 a0_10 a0_11 a0_12 a0_13 a0_14 a0_15 a1_0 a1_1 a1_2 a1_3 w K) (hk : ∀ x0 x1 x2 x3 x4 x5 x6 x7 x8 x9 x10 x11 x12 x13 x14 x15 x16 x17 x18 x19 x20 w', K x0 x1 x2 x3 x4 x5 x6 x7 x8 x9 x10 x11 x12 x13 x14 x15 x16 x17 x18 x19 x20 w' → K' x0 x1 x2 x3 x4 x5 x6 x7 x8 x9 x10 x11 x12 x13 x14 x15 x16 x17 x18 x19 x20 w') : c_ref30_Of a0_0 a0_1 a0_2 a0_3 a0_4 a0_5 a0_6 a0_7 a0_8 a0_9 a0_10 a0_11 a0_12 a0_13 a0_14 a0_15 a1_0 a1_1 a1_2 a1_3 w K' :=
  Calls.mono h fun e w' hh => by obtain ⟨x0, x1, x2, x3, x4, x5, x6, x7, x8, x9, x10, x11, x12, x13, x14, x15, x16, x17, x18, x19, x20, he, hx⟩ := hh; exact ⟨x0, x1, x2, x3, x4, x5, x6, x7, x8, x9, x10, x11, x12, x13, x14, x15, x16, x17, x18, x19, x20, he, hk _ _ _ _ _ _ _ _ _ _ _ _ _ _ _ _ _ _ _ _ _ _ hx⟩

/-- goosepond/goosepondref30.Packet -/
abbrev n_ref30_Packet : FuncId := 19
def c_ref30_Packet (a0 : Int) (a1_0 : Int) (a1_1 : Int) (a1_2 : Int) (a1_3 : Int) (a1_4 : Int) (a1_5 : Int) (a1_6 : Int) (a1_7 : Int) (a1_8 : Int) (a1_9 : Int) (a1_10 : Int) (a1_11 : Int) (a1_12 : Int) (a1_13 : Int) (a1_14 : Int) (a1_15 : Int) (a1_16 : Int) (a1_17 : Int) (a1_18 : Int) (a1_19 : SliceV) (w : World) (K : Int → Int → Int → Int → Int → Int → Int → Bool → Bool → SliceV → SliceV → Int → World → Prop) : Prop :=
  Calls Try.prog 19 ⟨[(Value.int .i64 a0), (Value.agg ⟨[(Value.int .u8 a1_0), (Value.int .u8 a1_1), (Value.int .u8 a1_2), (Value.int .u8 a1_3), (Value.int .u8 a1_4), (Value.int .u8 a1_5), (Value.int .u8 a1_6), (Value.int .u8 a1_7), (Value.int .u8 a1_8), (Value.int .u8 a1_9), (Value.int .u8 a1_10), (Value.int .u8 a1_11), (Value.int .u8 a1_12), (Value.int .u8 a1_13), (Value.int .u8 a1_14), (Value.int .u8 a1_15), (Value.int .i64 a1_16), (Value.int .i64 a1_17), (Value.int .i64 a1_18), (Value.slice a1_19.a a1_19.len a1_19.cap)]⟩)]⟩ w fun e w' => ∃ y36 : Int, ∃ y37 : Int, ∃ y38 : Int, ∃ y39 : Int, ∃ y40 : Int, ∃ y41 : Int, ∃ y42 : Int, ∃ y43 : Bool, ∃ y44 : Bool, ∃ y45 : SliceV, ∃ y46 : SliceV, ∃ y47 : Int, e = .returned (Value.tuple ⟨[(Value.agg ⟨[(Value.int .i64 y36), (Value.int .i64 y37), (Value.int .i64 y38), (Value.int .i64 y39), (Value.int .i64 y40), (Value.int .i64 y41), (Value.int .i64 y42), (Value.bool y43), (Value.bool y44), (Value.slice y45.a y45.len y45.cap), (Value.slice y46.a y46.len y46.cap)]⟩), (Value.int .i64 y47)]⟩) ∧ K y36 y37 y38 y39 y40 y41 y42 y43 y44 y45 y46 y47 w'
theorem cm_ref30_Packet {a0 a1_0 a1_1 a1_2 a1_3 a1_4 a1_5 a1_6 a1_7 a1_8 a1_9 a1_10 a1_11 a1_12 a1_13 a1_14 a1_15 a1_16 a1_17 a1_18 a1_19 w K K'} (h : c_ref30_Packet a0 a1_0 a1_1 a1_2 a1_3 a1_4 a1_5 a1_6 a1_7 a1_8 a1_9 a1_10 a1_11 a1_12 a1_13 a1_14 a1_15 a1_16 a1_17 a1_18 a1_19 w K) (hk : ∀ x0 x1 x2 x3 x4 x5 x6 x7 x8 x9 x10 x11 w', K x0 x1 x2 x3 x4 x5 x6 x7 x8 x9 x10 x11 w' → K' x0 x1 x2 x3 x4 x5 x6 x7 x8 x9 x10 x11 w') : c_ref30_Packet a0 a1_0 a1_1 a1_2 a1_3 a1_4 a1_5 a1_6 a1_7 a1_8 a1_9 a1_10 a1_11 a1_12 a1_13 a1_14 a1_15 a1_16 a1_17 a1_18 a1_19 w K' :=
  Calls.mono h fun e w' hh => by obtain ⟨x0, x1, x2, x3, x4, x5, x6, x7, x8, x9, x10, x11, he, hx⟩ := hh; exact ⟨x0, x1, x2, x3, x4, x5, x6, x7, x8, x9, x10, x11, he, hk _ _ _ _ _ _ _ _ _ _ _ _ _ hx⟩

/-- goosepond/relay.sent -/
abbrev n_relay_sent : FuncId := 36
def c_relay_sent (a0_0 : Int) (a0_1 : Int) (a0_2 : Int) (a0_3 : Int) (a0_4 : Int) (a0_5 : Int) (a0_6 : Int) (a0_7 : Int) (a0_8 : Int) (a0_9 : Int) (a0_10 : Int) (a0_11 : Int) (a0_12 : Int) (a0_13 : Int) (a0_14 : Int) (a0_15 : Int) (a1 : SliceV) (w : World) (K : Int → Int → Int → Int → Int → Int → Int → Int → Int → Int → Int → Int → Int → Int → Int → Int → SliceV → Int → World → Prop) : Prop :=
  Calls Try.prog 36 ⟨[(Value.agg ⟨[(Value.int .u8 a0_0), (Value.int .u8 a0_1), (Value.int .u8 a0_2), (Value.int .u8 a0_3), (Value.int .u8 a0_4), (Value.int .u8 a0_5), (Value.int .u8 a0_6), (Value.int .u8 a0_7), (Value.int .u8 a0_8), (Value.int .u8 a0_9), (Value.int .u8 a0_10), (Value.int .u8 a0_11), (Value.int .u8 a0_12), (Value.int .u8 a0_13), (Value.int .u8 a0_14), (Value.int .u8 a0_15)]⟩), (Value.slice a1.a a1.len a1.cap)]⟩ w fun e w' => ∃ y258 : Int, ∃ y259 : Int, ∃ y260 : Int, ∃ y261 : Int, ∃ y262 : Int, ∃ y263 : Int, ∃ y264 : Int, ∃ y265 : Int, ∃ y266 : Int, ∃ y267 : Int, ∃ y268 : Int, ∃ y269 : Int, ∃ y270 : Int, ∃ y271 : Int, ∃ y272 : Int, ∃ y273 : Int, ∃ y274 : SliceV, ∃ y275 : Int, e = .returned (Value.tuple ⟨[(Value.agg ⟨[(Value.int .u8 y258), (Value.int .u8 y259), (Value.int .u8 y260), (Value.int .u8 y261), (Value.int .u8 y262), (Value.int .u8 y263), (Value.int .u8 y264), (Value.int .u8 y265), (Value.int .u8 y266), (Value.int .u8 y267), (Value.int .u8 y268), (Value.int .u8 y269), (Value.int .u8 y270), (Value.int .u8 y271), (Value.int .u8 y272), (Value.int .u8 y273)]⟩), (Value.slice y274.a y274.len y274.cap), (Value.int .i64 y275)]⟩) ∧ K y258 y259 y260 y261 y262 y263 y264 y265 y266 y267 y268 y269 y270 y271 y272 y273 y274 y275 w'
theorem cm_relay_sent {a0_0 a0_1 a0_2 a0_3 a0_4 a0_5 a0_6 a0_7 a0_8 a0_9 a0_10 a0_11 a0_12 a0_13 a0_14 a0_15 a1 w K K'} (h : c_relay_sent a0_0 a0_1 a0_2 a0_3 a0_4 a0_5 a0_6 a0_7 a0_8 a0_9 a0_10 a0_11 a0_12 a0_13 a0_14 a0_15 a1 w K) (hk : ∀ x0 x1 x2 x3 x4 x5 x6 x7 x8 x9 x10 x11 x12 x13 x14 x15 x16 x17 w', K x0 x1 x2 x3 x4 x5 x6 x7 x8 x9 x10 x11 x12 x13 x14 x15 x16 x17 w' → K' x0 x1 x2 x3 x4 x5 x6 x7 x8 x9 x10 x11 x12 x13 x14 x15 x16 x17 w') : c_relay_sent a0_0 a0_1 a0_2 a0_3 a0_4 a0_5 a0_6 a0_7 a0_8 a0_9 a0_10 a0_11 a0_12 a0_13 a0_14 a0_15 a1 w K' :=
  Calls.mono h fun e w' hh => by obtain ⟨x0, x1, x2, x3, x4, x5, x6, x7, x8, x9, x10, x11, x12, x13, x14, x15, x16, x17, he, hx⟩ := hh; exact ⟨x0, x1, x2, x3, x4, x5, x6, x7, x8, x9, x10, x11, x12, x13, x14, x15, x16, x17, he, hk _ _ _ _ _ _ _ _ _ _ _ _ _ _ _ _ _ _ _ hx⟩

/-- goosepond/goosepondlaw30.RelayTable -/
def s_law30_RelayTable (a0 : Int) (a1 : Int) (a2 : Int) (w : World) (K : Bool → World → Prop) : Prop :=
 (c_relay_Table a0 a1 a2 w fun r4 r5 r6 r7 w8 =>
 c_ref30_Table a0 a1 a2 w8 fun r9 r10 r11 r12 w13 =>
 let J14 : Bool → World → Prop := fun j15 w16 =>
 (K j15 w16)
 (bif (r4 == r9) then
 (bif (r5 == r10) then
 (bif (r6 == r11) then
 (bif ((r7 : Bool) == r12) then
 (bif (a0 != 2) then
 c_law30_awake  w13 fun r17 w18 =>
 J14 r17 w18
 else
 (bif (decide (r6 ≥ 68)) then
 (bif (decide (r6 ≤ 65535)) then
 c_law30_awake  w13 fun r19 w20 =>
 J14 r19 w20
 else
 J14 false w13)
 else
 J14 false w13))
 else
 J14 false w13)
 else
 J14 false w13)
 else
 J14 false w13)
 else
 J14 false w13))
theorem e_law30_RelayTable (a0 : Int) (a1 : Int) (a2 : Int) (w : World) (K : Bool → World → Prop) : den Try.prog 66 (bodyOf Try.f3) none (.seq .leaf (.seq .leaf (.seq .leaf (.seq .leaf .leaf)))) (argEnv 0 [(Value.int .i64 a0), (Value.int .i64 a1), (Value.int .i64 a2)]) [] w (retK Try.prog [.tmp 6] [.one .bool] K) = s_law30_RelayTable a0 a1 a2 w K := by kernel_rfl
theorem ok_law30_RelayTable {a0 a1 a2 w K} (h : s_law30_RelayTable a0 a1 a2 w K) : c_law30_RelayTable a0 a1 a2 w K :=
  fn_sound pok Try.func3 (fn := Try.f3) (c := bodyOf Try.f3) (nt := 66) (by kernel_rfl) (by kernel_rfl) (rs := [.tmp 6]) (by kernel_rfl) [.one .bool] K (.seq .leaf (.seq .leaf (.seq .leaf (.seq .leaf .leaf)))) [(Value.int .i64 a0), (Value.int .i64 a1), (Value.int .i64 a2)] (by kernel_rfl) w ((e_law30_RelayTable a0 a1 a2 w K).mpr h)

/-- goosepond/goosepondlaw30.RelayReaches -/
def s_law30_RelayReaches (a0_0 : Int) (a0_1 : Int) (a0_2 : Int) (a0_3 : Int) (a0_4 : Int) (a0_5 : Int) (a0_6 : Int) (a0_7 : Int) (a0_8 : Int) (a0_9 : Int) (a0_10 : Int) (a0_11 : Int) (a0_12 : Int) (a0_13 : Int) (a0_14 : Int) (a0_15 : Int) (a1_0 : Int) (a1_1 : Int) (a1_2 : Int) (a1_3 : Int) (a1_4 : Int) (a1_5 : Int) (a1_6 : Int) (a1_7 : Int) (a1_8 : Int) (a1_9 : Int) (a1_10 : Int) (a1_11 : Int) (a1_12 : Int) (a1_13 : Int) (a1_14 : Int) (a1_15 : Int) (a2_0 : Int) (a2_1 : Int) (a3 : SliceV) (a4 : Int) (a5 : Int) (w : World) (K : Bool → World → Prop) : Prop :=
 (Al w (.cells ⟨[(Value.int .u8 a0_0), (Value.int .u8 a0_1), (Value.int .u8 a0_2), (Value.int .u8 a0_3), (Value.int .u8 a0_4), (Value.int .u8 a0_5), (Value.int .u8 a0_6), (Value.int .u8 a0_7), (Value.int .u8 a0_8), (Value.int .u8 a0_9), (Value.int .u8 a0_10), (Value.int .u8 a0_11), (Value.int .u8 a0_12), (Value.int .u8 a0_13), (Value.int .u8 a0_14), (Value.int .u8 a0_15)]⟩ 27) fun a8 w7 =>
 Al w7 (.cells ⟨[(Value.int .u8 a1_0), (Value.int .u8 a1_1), (Value.int .u8 a1_2), (Value.int .u8 a1_3), (Value.int .u8 a1_4), (Value.int .u8 a1_5), (Value.int .u8 a1_6), (Value.int .u8 a1_7), (Value.int .u8 a1_8), (Value.int .u8 a1_9), (Value.int .u8 a1_10), (Value.int .u8 a1_11), (Value.int .u8 a1_12), (Value.int .u8 a1_13), (Value.int .u8 a1_14), (Value.int .u8 a1_15)]⟩ 27) fun a10 w9 =>
 Al w9 (.cells ⟨[(Value.int .u16 a2_0), (Value.int .u16 a2_1)]⟩ 29) fun a12 w11 =>
 (bif (decide ((a3.len : Int) > 1000)) then
 c_law30_awake  w11 fun r13 w14 =>
 K r13 w14
 else
 (0 : Int) ≤ 0 ∧ 0 < (2 : Int) ∧
 Ld (.int .u16) w11 (a12.add (Int.toNat 0 * 1)) fun x15 =>
 (0 : Int) ≤ 1 ∧ 1 < (2 : Int) ∧
 Ld (.int .u16) w11 (a12.add (Int.toNat 1 * 1)) fun x16 =>
 c_plain_Datagram (IntKind.i64.wrap (167772160 + (IntKind.i64.wrap x15))) (IntKind.i64.wrap (134217728 + (IntKind.i64.wrap x16))) 5 6 9 a3 w11 fun r17 w18 =>
 Ld (.int .u8) w18 (a8.add 0) fun x19 =>
 Ld (.int .u8) w18 (a8.add 1) fun x20 =>
 Ld (.int .u8) w18 (a8.add 2) fun x21 =>
 Ld (.int .u8) w18 (a8.add 3) fun x22 =>
 Ld (.int .u8) w18 (a8.add 4) fun x23 =>
 Ld (.int .u8) w18 (a8.add 5) fun x24 =>
 Ld (.int .u8) w18 (a8.add 6) fun x25 =>
 Ld (.int .u8) w18 (a8.add 7) fun x26 =>
 Ld (.int .u8) w18 (a8.add 8) fun x27 =>
 Ld (.int .u8) w18 (a8.add 9) fun x28 =>
 Ld (.int .u8) w18 (a8.add 10) fun x29 =>
 Ld (.int .u8) w18 (a8.add 11) fun x30 =>
 Ld (.int .u8) w18 (a8.add 12) fun x31 =>
 Ld (.int .u8) w18 (a8.add 13) fun x32 =>
 Ld (.int .u8) w18 (a8.add 14) fun x33 =>
 Ld (.int .u8) w18 (a8.add 15) fun x34 =>
 Ld (.int .u8) w18 (a10.add 0) fun x35 =>
 Ld (.int .u8) w18 (a10.add 1) fun x36 =>
 Ld (.int .u8) w18 (a10.add 2) fun x37 =>
 Ld (.int .u8) w18 (a10.add 3) fun x38 =>
 Ld (.int .u8) w18 (a10.add 4) fun x39 =>
 Ld (.int .u8) w18 (a10.add 5) fun x40 =>
 Ld (.int .u8) w18 (a10.add 6) fun x41 =>
 Ld (.int .u8) w18 (a10.add 7) fun x42 =>
 Ld (.int .u8) w18 (a10.add 8) fun x43 =>
 Ld (.int .u8) w18 (a10.add 9) fun x44 =>
 Ld (.int .u8) w18 (a10.add 10) fun x45 =>
 Ld (.int .u8) w18 (a10.add 11) fun x46 =>
 Ld (.int .u8) w18 (a10.add 12) fun x47 =>
 Ld (.int .u8) w18 (a10.add 13) fun x48 =>
 Ld (.int .u8) w18 (a10.add 14) fun x49 =>
 Ld (.int .u8) w18 (a10.add 15) fun x50 =>
 c_wrap_Wrap x19 x20 x21 x22 x23 x24 x25 x26 x27 x28 x29 x30 x31 x32 x33 x34 x35 x36 x37 x38 x39 x40 x41 x42 x43 x44 x45 x46 x47 x48 x49 x50 64 r17 w18 fun r51 r52 r53 r54 r55 r56 r57 r58 r59 r60 r61 r62 r63 r64 r65 r66 r67 r68 r69 r70 r71 r72 r73 r74 r75 r76 r77 r78 r79 r80 r81 r82 r83 r84 r85 r86 r87 r88 w89 =>
 Al w89 (.cells ⟨((Value.int .i64 0) :: (Value.int .i64 0) :: (Value.int .i64 0) :: (Value.int .i64 0) :: (Value.int .u8 0) :: (Value.int .u8 0) :: (Value.int .u8 0) :: (Value.int .u8 0) :: (Value.int .u8 0) :: (Value.int .u8 0) :: (Value.int .u8 0) :: (Value.int .u8 0) :: (Value.int .u8 0) :: (Value.int .u8 0) :: (Value.int .u8 0) :: (Value.int .u8 0) :: (Value.int .u8 0) :: (Value.int .u8 0) :: (Value.int .u8 0) :: (Value.int .u8 0) :: (Value.int .u8 0) :: (Value.int .u8 0) :: (Value.int .u8 0) :: (Value.int .u8 0) :: (Value.int .u8 0) :: (Value.int .u8 0) :: (Value.int .u8 0) :: (Value.int .u8 0) :: (Value.int .u8 0) :: (Value.int .u8 0) :: (Value.int .u8 0) :: (Value.int .u8 0) :: (Value.int .u8 0) :: (Value.int .u8 0) :: (Value.int .u8 0) :: (Value.int .u8 0) :: (Value.slice none 0 0) :: [])⟩ 33) fun a91 w90 =>
 StN ((Value.int .i64 r51) :: (Value.int .i64 r52) :: (Value.int .i64 r53) :: (Value.int .i64 r54) :: (Value.int .u8 r55) :: (Value.int .u8 r56) :: (Value.int .u8 r57) :: (Value.int .u8 r58) :: (Value.int .u8 r59) :: (Value.int .u8 r60) :: (Value.int .u8 r61) :: (Value.int .u8 r62) :: (Value.int .u8 r63) :: (Value.int .u8 r64) :: (Value.int .u8 r65) :: (Value.int .u8 r66) :: (Value.int .u8 r67) :: (Value.int .u8 r68) :: (Value.int .u8 r69) :: (Value.int .u8 r70) :: (Value.int .u8 r71) :: (Value.int .u8 r72) :: (Value.int .u8 r73) :: (Value.int .u8 r74) :: (Value.int .u8 r75) :: (Value.int .u8 r76) :: (Value.int .u8 r77) :: (Value.int .u8 r78) :: (Value.int .u8 r79) :: (Value.int .u8 r80) :: (Value.int .u8 r81) :: (Value.int .u8 r82) :: (Value.int .u8 r83) :: (Value.int .u8 r84) :: (Value.int .u8 r85) :: (Value.int .u8 r86) :: (Value.slice r87.a r87.len r87.cap) :: []) w90 a91 0 fun w92 =>
 Ld (.int .i64) w92 (a91.add 0) fun x93 =>
 Ld (.int .i64) w92 (a91.add 1) fun x94 =>
 Ld (.int .i64) w92 (a91.add 2) fun x95 =>
 Ld (.int .i64) w92 (a91.add 3) fun x96 =>
 Ld (.int .u8) w92 (a91.add 4) fun x97 =>
 Ld (.int .u8) w92 (a91.add 5) fun x98 =>
 Ld (.int .u8) w92 (a91.add 6) fun x99 =>
 Ld (.int .u8) w92 (a91.add 7) fun x100 =>
 Ld (.int .u8) w92 (a91.add 8) fun x101 =>
 Ld (.int .u8) w92 (a91.add 9) fun x102 =>
 Ld (.int .u8) w92 (a91.add 10) fun x103 =>
 Ld (.int .u8) w92 (a91.add 11) fun x104 =>
 Ld (.int .u8) w92 (a91.add 12) fun x105 =>
 Ld (.int .u8) w92 (a91.add 13) fun x106 =>
 Ld (.int .u8) w92 (a91.add 14) fun x107 =>
 Ld (.int .u8) w92 (a91.add 15) fun x108 =>
 Ld (.int .u8) w92 (a91.add 16) fun x109 =>
 Ld (.int .u8) w92 (a91.add 17) fun x110 =>
 Ld (.int .u8) w92 (a91.add 18) fun x111 =>
 Ld (.int .u8) w92 (a91.add 19) fun x112 =>
 Ld (.int .u8) w92 (a91.add 20) fun x113 =>
 Ld (.int .u8) w92 (a91.add 21) fun x114 =>
 Ld (.int .u8) w92 (a91.add 22) fun x115 =>
 Ld (.int .u8) w92 (a91.add 23) fun x116 =>
 Ld (.int .u8) w92 (a91.add 24) fun x117 =>
 Ld (.int .u8) w92 (a91.add 25) fun x118 =>
 Ld (.int .u8) w92 (a91.add 26) fun x119 =>
 Ld (.int .u8) w92 (a91.add 27) fun x120 =>
 Ld (.int .u8) w92 (a91.add 28) fun x121 =>
 Ld (.int .u8) w92 (a91.add 29) fun x122 =>
 Ld (.int .u8) w92 (a91.add 30) fun x123 =>
 Ld (.int .u8) w92 (a91.add 31) fun x124 =>
 Ld (.int .u8) w92 (a91.add 32) fun x125 =>
 Ld (.int .u8) w92 (a91.add 33) fun x126 =>
 Ld (.int .u8) w92 (a91.add 34) fun x127 =>
 Ld (.int .u8) w92 (a91.add 35) fun x128 =>
 Ld .slice w92 (a91.add 36) fun x129 =>
 c_v6_Build x93 x94 x95 x96 x97 x98 x99 x100 x101 x102 x103 x104 x105 x106 x107 x108 x109 x110 x111 x112 x113 x114 x115 x116 x117 x118 x119 x120 x121 x122 x123 x124 x125 x126 x127 x128 x129 w92 fun r130 r131 w132 =>
 let J133 : Bool → Prop := fun j134 =>
 ((bif j134 then
 K false w132
 else
 SubSl r130 1 0 (if (IntKind.i64.wrap ((r130.len : Int) - (IntKind.i64.wrap a5))) > 68 then (IntKind.i64.wrap ((r130.len : Int) - (IntKind.i64.wrap a5))) else 68) fun s135 =>
 Ld (.int .u8) w132 (a8.add 0) fun x136 =>
 Ld (.int .u8) w132 (a8.add 1) fun x137 =>
 Ld (.int .u8) w132 (a8.add 2) fun x138 =>
 Ld (.int .u8) w132 (a8.add 3) fun x139 =>
 Ld (.int .u8) w132 (a8.add 4) fun x140 =>
 Ld (.int .u8) w132 (a8.add 5) fun x141 =>
 Ld (.int .u8) w132 (a8.add 6) fun x142 =>
 Ld (.int .u8) w132 (a8.add 7) fun x143 =>
 Ld (.int .u8) w132 (a8.add 8) fun x144 =>
 Ld (.int .u8) w132 (a8.add 9) fun x145 =>
 Ld (.int .u8) w132 (a8.add 10) fun x146 =>
 Ld (.int .u8) w132 (a8.add 11) fun x147 =>
 Ld (.int .u8) w132 (a8.add 12) fun x148 =>
 Ld (.int .u8) w132 (a8.add 13) fun x149 =>
 Ld (.int .u8) w132 (a8.add 14) fun x150 =>
 Ld (.int .u8) w132 (a8.add 15) fun x151 =>
 c_relay_Of x136 x137 x138 x139 x140 x141 x142 x143 x144 x145 x146 x147 x148 x149 x150 x151 2 0 (IntKind.i64.wrap a4) s135 w132 fun r152 r153 r154 r155 r156 r157 r158 r159 r160 r161 r162 r163 r164 r165 r166 r167 r168 r169 r170 r171 r172 w173 =>
 Al w173 (.cells ⟨[(Value.int .u8 0), (Value.int .u8 0), (Value.int .u8 0), (Value.int .u8 0), (Value.int .u8 0), (Value.int .u8 0), (Value.int .u8 0), (Value.int .u8 0), (Value.int .u8 0), (Value.int .u8 0), (Value.int .u8 0), (Value.int .u8 0), (Value.int .u8 0), (Value.int .u8 0), (Value.int .u8 0), (Value.int .u8 0), (Value.int .i64 0), (Value.int .i64 0), (Value.int .i64 0), (Value.slice none 0 0)]⟩ 40) fun a175 w174 =>
 StN [(Value.int .u8 r152), (Value.int .u8 r153), (Value.int .u8 r154), (Value.int .u8 r155), (Value.int .u8 r156), (Value.int .u8 r157), (Value.int .u8 r158), (Value.int .u8 r159), (Value.int .u8 r160), (Value.int .u8 r161), (Value.int .u8 r162), (Value.int .u8 r163), (Value.int .u8 r164), (Value.int .u8 r165), (Value.int .u8 r166), (Value.int .u8 r167), (Value.int .i64 r168), (Value.int .i64 r169), (Value.int .i64 r170), (Value.slice r171.a r171.len r171.cap)] w174 a175 0 fun w176 =>
 Ld (.int .u8) w176 (a175.add 0) fun x177 =>
 Ld (.int .u8) w176 (a175.add 1) fun x178 =>
 Ld (.int .u8) w176 (a175.add 2) fun x179 =>
 Ld (.int .u8) w176 (a175.add 3) fun x180 =>
 Ld (.int .u8) w176 (a175.add 4) fun x181 =>
 Ld (.int .u8) w176 (a175.add 5) fun x182 =>
 Ld (.int .u8) w176 (a175.add 6) fun x183 =>
 Ld (.int .u8) w176 (a175.add 7) fun x184 =>
 Ld (.int .u8) w176 (a175.add 8) fun x185 =>
 Ld (.int .u8) w176 (a175.add 9) fun x186 =>
 Ld (.int .u8) w176 (a175.add 10) fun x187 =>
 Ld (.int .u8) w176 (a175.add 11) fun x188 =>
 Ld (.int .u8) w176 (a175.add 12) fun x189 =>
 Ld (.int .u8) w176 (a175.add 13) fun x190 =>
 Ld (.int .u8) w176 (a175.add 14) fun x191 =>
 Ld (.int .u8) w176 (a175.add 15) fun x192 =>
 Ld (.int .i64) w176 (a175.add 16) fun x193 =>
 Ld (.int .i64) w176 (a175.add 17) fun x194 =>
 Ld (.int .i64) w176 (a175.add 18) fun x195 =>
 Ld .slice w176 (a175.add 19) fun x196 =>
 c_relay_Packet 3221225474 x177 x178 x179 x180 x181 x182 x183 x184 x185 x186 x187 x188 x189 x190 x191 x192 x193 x194 x195 x196 w176 fun r197 r198 r199 r200 r201 r202 r203 r204 r205 r206 r207 r208 w209 =>
 Al w209 (.cells ⟨[(Value.int .i64 0), (Value.int .i64 0), (Value.int .i64 0), (Value.int .i64 0), (Value.int .i64 0), (Value.int .i64 0), (Value.int .i64 0), (Value.bool false), (Value.bool false), (Value.slice none 0 0), (Value.slice none 0 0)]⟩ 46) fun a211 w210 =>
 StN [(Value.int .i64 r197), (Value.int .i64 r198), (Value.int .i64 r199), (Value.int .i64 r200), (Value.int .i64 r201), (Value.int .i64 r202), (Value.int .i64 r203), (Value.bool r204), (Value.bool r205), (Value.slice r206.a r206.len r206.cap), (Value.slice r207.a r207.len r207.cap)] w210 a211 0 fun w212 =>
 let J213 : Bool → World → Prop := fun j214 w215 =>
 (K j214 w215)
 (bif (r172 == 0) then
 (bif (r208 == 0) then
 Ld (.int .u8) w212 (a175.add 0) fun x216 =>
 Ld (.int .u8) w212 (a175.add 1) fun x217 =>
 Ld (.int .u8) w212 (a175.add 2) fun x218 =>
 Ld (.int .u8) w212 (a175.add 3) fun x219 =>
 Ld (.int .u8) w212 (a175.add 4) fun x220 =>
 Ld (.int .u8) w212 (a175.add 5) fun x221 =>
 Ld (.int .u8) w212 (a175.add 6) fun x222 =>
 Ld (.int .u8) w212 (a175.add 7) fun x223 =>
 Ld (.int .u8) w212 (a175.add 8) fun x224 =>
 Ld (.int .u8) w212 (a175.add 9) fun x225 =>
 Ld (.int .u8) w212 (a175.add 10) fun x226 =>
 Ld (.int .u8) w212 (a175.add 11) fun x227 =>
 Ld (.int .u8) w212 (a175.add 12) fun x228 =>
 Ld (.int .u8) w212 (a175.add 13) fun x229 =>
 Ld (.int .u8) w212 (a175.add 14) fun x230 =>
 Ld (.int .u8) w212 (a175.add 15) fun x231 =>
 Ld (.int .u8) w212 (a10.add 0) fun x232 =>
 Ld (.int .u8) w212 (a10.add 1) fun x233 =>
 Ld (.int .u8) w212 (a10.add 2) fun x234 =>
 Ld (.int .u8) w212 (a10.add 3) fun x235 =>
 Ld (.int .u8) w212 (a10.add 4) fun x236 =>
 Ld (.int .u8) w212 (a10.add 5) fun x237 =>
 Ld (.int .u8) w212 (a10.add 6) fun x238 =>
 Ld (.int .u8) w212 (a10.add 7) fun x239 =>
 Ld (.int .u8) w212 (a10.add 8) fun x240 =>
 Ld (.int .u8) w212 (a10.add 9) fun x241 =>
 Ld (.int .u8) w212 (a10.add 10) fun x242 =>
 Ld (.int .u8) w212 (a10.add 11) fun x243 =>
 Ld (.int .u8) w212 (a10.add 12) fun x244 =>
 Ld (.int .u8) w212 (a10.add 13) fun x245 =>
 Ld (.int .u8) w212 (a10.add 14) fun x246 =>
 Ld (.int .u8) w212 (a10.add 15) fun x247 =>
 (bif ((x216 == x232) && ((x217 == x233) && ((x218 == x234) && ((x219 == x235) && ((x220 == x236) && ((x221 == x237) && ((x222 == x238) && ((x223 == x239) && ((x224 == x240) && ((x225 == x241) && ((x226 == x242) && ((x227 == x243) && ((x228 == x244) && ((x229 == x245) && ((x230 == x246) && ((x231 == x247) && true)))))))))))))))) then
 Ld (.int .i64) w212 (a175.add 18) fun x248 =>
 (bif (x248 == (if (68 : Int) > (IntKind.i64.wrap ((IntKind.i64.wrap a4) - 40)) then 68 else (IntKind.i64.wrap ((IntKind.i64.wrap a4) - 40)))) then
 Ld (.int .i64) w212 (a211.add 6) fun x249 =>
 (0 : Int) ≤ 0 ∧ 0 < (2 : Int) ∧
 Ld (.int .u16) w212 (a12.add (Int.toNat 0 * 1)) fun x250 =>
 (bif (x249 == (IntKind.i64.wrap (167772160 + (IntKind.i64.wrap x250)))) then
 c_law30_awake  w212 fun r251 w252 =>
 J213 r251 w252
 else
 J213 false w212)
 else
 J213 false w212)
 else
 J213 false w212)
 else
 J213 false w212)
 else
 J213 false w212)))
 (bif (r88 != 0) then
 J133 true
 else
 (bif (r131 != 0) then
 J133 true
 else
 J133 (decide ((r130.len : Int) < 68))))))
theorem e_law30_RelayReaches (a0_0 : Int) (a0_1 : Int) (a0_2 : Int) (a0_3 : Int) (a0_4 : Int) (a0_5 : Int) (a0_6 : Int) (a0_7 : Int) (a0_8 : Int) (a0_9 : Int) (a0_10 : Int) (a0_11 : Int) (a0_12 : Int) (a0_13 : Int) (a0_14 : Int) (a0_15 : Int) (a1_0 : Int) (a1_1 : Int) (a1_2 : Int) (a1_3 : Int) (a1_4 : Int) (a1_5 : Int) (a1_6 : Int) (a1_7 : Int) (a1_8 : Int) (a1_9 : Int) (a1_10 : Int) (a1_11 : Int) (a1_12 : Int) (a1_13 : Int) (a1_14 : Int) (a1_15 : Int) (a2_0 : Int) (a2_1 : Int) (a3 : SliceV) (a4 : Int) (a5 : Int) (w : World) (K : Bool → World → Prop) : den Try.prog 114 (bodyOf Try.f4) none (.seq .leaf (.seq (.seq .leaf (.cond (.seq .leaf .leaf) .leaf)) (.seq .leaf (.seq .leaf (.seq .leaf (.seq (.seq .leaf (.cond (.seq .leaf .leaf) .leaf)) (.seq .leaf (.seq .leaf (.seq .leaf (.seq .leaf .leaf)))))))))) (argEnv 0 [(Value.agg ⟨[(Value.int .u8 a0_0), (Value.int .u8 a0_1), (Value.int .u8 a0_2), (Value.int .u8 a0_3), (Value.int .u8 a0_4), (Value.int .u8 a0_5), (Value.int .u8 a0_6), (Value.int .u8 a0_7), (Value.int .u8 a0_8), (Value.int .u8 a0_9), (Value.int .u8 a0_10), (Value.int .u8 a0_11), (Value.int .u8 a0_12), (Value.int .u8 a0_13), (Value.int .u8 a0_14), (Value.int .u8 a0_15)]⟩), (Value.agg ⟨[(Value.int .u8 a1_0), (Value.int .u8 a1_1), (Value.int .u8 a1_2), (Value.int .u8 a1_3), (Value.int .u8 a1_4), (Value.int .u8 a1_5), (Value.int .u8 a1_6), (Value.int .u8 a1_7), (Value.int .u8 a1_8), (Value.int .u8 a1_9), (Value.int .u8 a1_10), (Value.int .u8 a1_11), (Value.int .u8 a1_12), (Value.int .u8 a1_13), (Value.int .u8 a1_14), (Value.int .u8 a1_15)]⟩), (Value.agg ⟨[(Value.int .u16 a2_0), (Value.int .u16 a2_1)]⟩), (Value.slice a3.a a3.len a3.cap), (Value.int .u16 a4), (Value.int .u8 a5)]) [] w (retK Try.prog [.tmp 12] [.one .bool] K) = s_law30_RelayReaches a0_0 a0_1 a0_2 a0_3 a0_4 a0_5 a0_6 a0_7 a0_8 a0_9 a0_10 a0_11 a0_12 a0_13 a0_14 a0_15 a1_0 a1_1 a1_2 a1_3 a1_4 a1_5 a1_6 a1_7 a1_8 a1_9 a1_10 a1_11 a1_12 a1_13 a1_14 a1_15 a2_0 a2_1 a3 a4 a5 w K := by kernel_rfl
theorem ok_law30_RelayReaches {a0_0 a0_1 a0_2 a0_3 a0_4 a0_5 a0_6 a0_7 a0_8 a0_9 a0_10 a0_11 a0_12 a0_13 a0_14 a0_15 a1_0 a1_1 a1_2 a1_3 a1_4 a1_5 a1_6 a1_7 a1_8 a1_9 a1_10 a1_11 a1_12 a1_13 a1_14 a1_15 a2_0 a2_1 a3 a4 a5 w K} (h : s_law30_RelayReaches a0_0 a0_1 a0_2 a0_3 a0_4 a0_5 a0_6 a0_7 a0_8 a0_9 a0_10 a0_11 a0_12 a0_13 a0_14 a0_15 a1_0 a1_1 a1_2 a1_3 a1_4 a1_5 a1_6 a1_7 a1_8 a1_9 a1_10 a1_11 a1_12 a1_13 a1_14 a1_15 a2_0 a2_1 a3 a4 a5 w K) : c_law30_RelayReaches a0_0 a0_1 a0_2 a0_3 a0_4 a0_5 a0_6 a0_7 a0_8 a0_9 a0_10 a0_11 a0_12 a0_13 a0_14 a0_15 a1_0 a1_1 a1_2 a1_3 a1_4 a1_5 a1_6 a1_7 a1_8 a1_9 a1_10 a1_11 a1_12 a1_13 a1_14 a1_15 a2_0 a2_1 a3 a4 a5 w K :=
  fn_sound pok Try.func4 (fn := Try.f4) (c := bodyOf Try.f4) (nt := 114) (by kernel_rfl) (by kernel_rfl) (rs := [.tmp 12]) (by kernel_rfl) [.one .bool] K (.seq .leaf (.seq (.seq .leaf (.cond (.seq .leaf .leaf) .leaf)) (.seq .leaf (.seq .leaf (.seq .leaf (.seq (.seq .leaf (.cond (.seq .leaf .leaf) .leaf)) (.seq .leaf (.seq .leaf (.seq .leaf (.seq .leaf .leaf)))))))))) [(Value.agg ⟨[(Value.int .u8 a0_0), (Value.int .u8 a0_1), (Value.int .u8 a0_2), (Value.int .u8 a0_3), (Value.int .u8 a0_4), (Value.int .u8 a0_5), (Value.int .u8 a0_6), (Value.int .u8 a0_7), (Value.int .u8 a0_8), (Value.int .u8 a0_9), (Value.int .u8 a0_10), (Value.int .u8 a0_11), (Value.int .u8 a0_12), (Value.int .u8 a0_13), (Value.int .u8 a0_14), (Value.int .u8 a0_15)]⟩), (Value.agg ⟨[(Value.int .u8 a1_0), (Value.int .u8 a1_1), (Value.int .u8 a1_2), (Value.int .u8 a1_3), (Value.int .u8 a1_4), (Value.int .u8 a1_5), (Value.int .u8 a1_6), (Value.int .u8 a1_7), (Value.int .u8 a1_8), (Value.int .u8 a1_9), (Value.int .u8 a1_10), (Value.int .u8 a1_11), (Value.int .u8 a1_12), (Value.int .u8 a1_13), (Value.int .u8 a1_14), (Value.int .u8 a1_15)]⟩), (Value.agg ⟨[(Value.int .u16 a2_0), (Value.int .u16 a2_1)]⟩), (Value.slice a3.a a3.len a3.cap), (Value.int .u16 a4), (Value.int .u8 a5)] (by kernel_rfl) w ((e_law30_RelayReaches a0_0 a0_1 a0_2 a0_3 a0_4 a0_5 a0_6 a0_7 a0_8 a0_9 a0_10 a0_11 a0_12 a0_13 a0_14 a0_15 a1_0 a1_1 a1_2 a1_3 a1_4 a1_5 a1_6 a1_7 a1_8 a1_9 a1_10 a1_11 a1_12 a1_13 a1_14 a1_15 a2_0 a2_1 a3 a4 a5 w K).mpr h)

/-- goosepond/goosepondlaw30.RelayOnce -/
def s_law30_RelayOnce (a0_0 : Int) (a0_1 : Int) (a0_2 : Int) (a0_3 : Int) (a0_4 : Int) (a0_5 : Int) (a0_6 : Int) (a0_7 : Int) (a0_8 : Int) (a0_9 : Int) (a0_10 : Int) (a0_11 : Int) (a0_12 : Int) (a0_13 : Int) (a0_14 : Int) (a0_15 : Int) (a1_0 : Int) (a1_1 : Int) (a1_2 : Int) (a1_3 : Int) (a1_4 : Int) (a1_5 : Int) (a1_6 : Int) (a1_7 : Int) (a1_8 : Int) (a1_9 : Int) (a1_10 : Int) (a1_11 : Int) (a1_12 : Int) (a1_13 : Int) (a1_14 : Int) (a1_15 : Int) (a2_0 : Int) (a2_1 : Int) (a2_2 : Int) (a2_3 : SliceV) (a3 : Int) (w : World) (K : Bool → World → Prop) : Prop :=
 (Al w (.cells ⟨[(Value.int .u8 a0_0), (Value.int .u8 a0_1), (Value.int .u8 a0_2), (Value.int .u8 a0_3), (Value.int .u8 a0_4), (Value.int .u8 a0_5), (Value.int .u8 a0_6), (Value.int .u8 a0_7), (Value.int .u8 a0_8), (Value.int .u8 a0_9), (Value.int .u8 a0_10), (Value.int .u8 a0_11), (Value.int .u8 a0_12), (Value.int .u8 a0_13), (Value.int .u8 a0_14), (Value.int .u8 a0_15)]⟩ 27) fun a6 w5 =>
 Al w5 (.cells ⟨[(Value.int .u8 a1_0), (Value.int .u8 a1_1), (Value.int .u8 a1_2), (Value.int .u8 a1_3), (Value.int .u8 a1_4), (Value.int .u8 a1_5), (Value.int .u8 a1_6), (Value.int .u8 a1_7), (Value.int .u8 a1_8), (Value.int .u8 a1_9), (Value.int .u8 a1_10), (Value.int .u8 a1_11), (Value.int .u8 a1_12), (Value.int .u8 a1_13), (Value.int .u8 a1_14), (Value.int .u8 a1_15)]⟩ 27) fun a8 w7 =>
 Al w7 (.cells ⟨[(Value.int .i64 a2_0), (Value.int .i64 a2_1), (Value.int .i64 a2_2), (Value.slice a2_3.a a2_3.len a2_3.cap)]⟩ 44) fun a10 w9 =>
 Ld .slice w9 (a10.add 3) fun x11 =>
 (bif (decide ((x11.len : Int) > 1000)) then
 c_law30_awake  w9 fun r12 w13 =>
 K r12 w13
 else
 c_plain_Datagram 167772162 134744072 5 6 9 ⟨none, 0, 0⟩ w9 fun r14 w15 =>
 c_relay_Packet 167772161 0 0 0 0 0 0 0 0 0 0 0 0 0 0 0 0 3 1 0 r14 w15 fun r16 r17 r18 r19 r20 r21 r22 r23 r24 r25 r26 r27 w28 =>
 Al w28 (.cells ⟨[(Value.int .i64 0), (Value.int .i64 0), (Value.int .i64 0), (Value.int .i64 0), (Value.int .i64 0), (Value.int .i64 0), (Value.int .i64 0), (Value.bool false), (Value.bool false), (Value.slice none 0 0), (Value.slice none 0 0)]⟩ 46) fun a30 w29 =>
 StN [(Value.int .i64 r16), (Value.int .i64 r17), (Value.int .i64 r18), (Value.int .i64 r19), (Value.int .i64 r20), (Value.int .i64 r21), (Value.int .i64 r22), (Value.bool r23), (Value.bool r24), (Value.slice r25.a r25.len r25.cap), (Value.slice r26.a r26.len r26.cap)] w29 a30 0 fun w31 =>
 Ld (.int .i64) w31 (a30.add 0) fun x32 =>
 Ld (.int .i64) w31 (a30.add 1) fun x33 =>
 Ld (.int .i64) w31 (a30.add 2) fun x34 =>
 Ld (.int .i64) w31 (a30.add 3) fun x35 =>
 Ld (.int .i64) w31 (a30.add 4) fun x36 =>
 Ld (.int .i64) w31 (a30.add 5) fun x37 =>
 Ld (.int .i64) w31 (a30.add 6) fun x38 =>
 Ld .bool w31 (a30.add 7) fun x39 =>
 Ld .bool w31 (a30.add 8) fun x40 =>
 Ld .slice w31 (a30.add 9) fun x41 =>
 Ld .slice w31 (a30.add 10) fun x42 =>
 c_ref05_Build x32 x33 x34 x35 x36 x37 x38 x39 x40 x41 x42 w31 fun r43 r44 w45 =>
 Ld (.int .u8) w45 (a6.add 0) fun x46 =>
 Ld (.int .u8) w45 (a6.add 1) fun x47 =>
 Ld (.int .u8) w45 (a6.add 2) fun x48 =>
 Ld (.int .u8) w45 (a6.add 3) fun x49 =>
 Ld (.int .u8) w45 (a6.add 4) fun x50 =>
 Ld (.int .u8) w45 (a6.add 5) fun x51 =>
 Ld (.int .u8) w45 (a6.add 6) fun x52 =>
 Ld (.int .u8) w45 (a6.add 7) fun x53 =>
 Ld (.int .u8) w45 (a6.add 8) fun x54 =>
 Ld (.int .u8) w45 (a6.add 9) fun x55 =>
 Ld (.int .u8) w45 (a6.add 10) fun x56 =>
 Ld (.int .u8) w45 (a6.add 11) fun x57 =>
 Ld (.int .u8) w45 (a6.add 12) fun x58 =>
 Ld (.int .u8) w45 (a6.add 13) fun x59 =>
 Ld (.int .u8) w45 (a6.add 14) fun x60 =>
 Ld (.int .u8) w45 (a6.add 15) fun x61 =>
 Ld (.int .u8) w45 (a8.add 0) fun x62 =>
 Ld (.int .u8) w45 (a8.add 1) fun x63 =>
 Ld (.int .u8) w45 (a8.add 2) fun x64 =>
 Ld (.int .u8) w45 (a8.add 3) fun x65 =>
 Ld (.int .u8) w45 (a8.add 4) fun x66 =>
 Ld (.int .u8) w45 (a8.add 5) fun x67 =>
 Ld (.int .u8) w45 (a8.add 6) fun x68 =>
 Ld (.int .u8) w45 (a8.add 7) fun x69 =>
 Ld (.int .u8) w45 (a8.add 8) fun x70 =>
 Ld (.int .u8) w45 (a8.add 9) fun x71 =>
 Ld (.int .u8) w45 (a8.add 10) fun x72 =>
 Ld (.int .u8) w45 (a8.add 11) fun x73 =>
 Ld (.int .u8) w45 (a8.add 12) fun x74 =>
 Ld (.int .u8) w45 (a8.add 13) fun x75 =>
 Ld (.int .u8) w45 (a8.add 14) fun x76 =>
 Ld (.int .u8) w45 (a8.add 15) fun x77 =>
 c_wrap_Wrap x46 x47 x48 x49 x50 x51 x52 x53 x54 x55 x56 x57 x58 x59 x60 x61 x62 x63 x64 x65 x66 x67 x68 x69 x70 x71 x72 x73 x74 x75 x76 x77 64 r43 w45 fun r78 r79 r80 r81 r82 r83 r84 r85 r86 r87 r88 r89 r90 r91 r92 r93 r94 r95 r96 r97 r98 r99 r100 r101 r102 r103 r104 r105 r106 r107 r108 r109 r110 r111 r112 r113 r114 r115 w116 =>
 Al w116 (.cells ⟨((Value.int .i64 0) :: (Value.int .i64 0) :: (Value.int .i64 0) :: (Value.int .i64 0) :: (Value.int .u8 0) :: (Value.int .u8 0) :: (Value.int .u8 0) :: (Value.int .u8 0) :: (Value.int .u8 0) :: (Value.int .u8 0) :: (Value.int .u8 0) :: (Value.int .u8 0) :: (Value.int .u8 0) :: (Value.int .u8 0) :: (Value.int .u8 0) :: (Value.int .u8 0) :: (Value.int .u8 0) :: (Value.int .u8 0) :: (Value.int .u8 0) :: (Value.int .u8 0) :: (Value.int .u8 0) :: (Value.int .u8 0) :: (Value.int .u8 0) :: (Value.int .u8 0) :: (Value.int .u8 0) :: (Value.int .u8 0) :: (Value.int .u8 0) :: (Value.int .u8 0) :: (Value.int .u8 0) :: (Value.int .u8 0) :: (Value.int .u8 0) :: (Value.int .u8 0) :: (Value.int .u8 0) :: (Value.int .u8 0) :: (Value.int .u8 0) :: (Value.int .u8 0) :: (Value.slice none 0 0) :: [])⟩ 33) fun a118 w117 =>
 StN ((Value.int .i64 r78) :: (Value.int .i64 r79) :: (Value.int .i64 r80) :: (Value.int .i64 r81) :: (Value.int .u8 r82) :: (Value.int .u8 r83) :: (Value.int .u8 r84) :: (Value.int .u8 r85) :: (Value.int .u8 r86) :: (Value.int .u8 r87) :: (Value.int .u8 r88) :: (Value.int .u8 r89) :: (Value.int .u8 r90) :: (Value.int .u8 r91) :: (Value.int .u8 r92) :: (Value.int .u8 r93) :: (Value.int .u8 r94) :: (Value.int .u8 r95) :: (Value.int .u8 r96) :: (Value.int .u8 r97) :: (Value.int .u8 r98) :: (Value.int .u8 r99) :: (Value.int .u8 r100) :: (Value.int .u8 r101) :: (Value.int .u8 r102) :: (Value.int .u8 r103) :: (Value.int .u8 r104) :: (Value.int .u8 r105) :: (Value.int .u8 r106) :: (Value.int .u8 r107) :: (Value.int .u8 r108) :: (Value.int .u8 r109) :: (Value.int .u8 r110) :: (Value.int .u8 r111) :: (Value.int .u8 r112) :: (Value.int .u8 r113) :: (Value.slice r114.a r114.len r114.cap) :: []) w117 a118 0 fun w119 =>
 Ld (.int .i64) w119 (a118.add 0) fun x120 =>
 Ld (.int .i64) w119 (a118.add 1) fun x121 =>
 Ld (.int .i64) w119 (a118.add 2) fun x122 =>
 Ld (.int .i64) w119 (a118.add 3) fun x123 =>
 Ld (.int .u8) w119 (a118.add 4) fun x124 =>
 Ld (.int .u8) w119 (a118.add 5) fun x125 =>
 Ld (.int .u8) w119 (a118.add 6) fun x126 =>
 Ld (.int .u8) w119 (a118.add 7) fun x127 =>
 Ld (.int .u8) w119 (a118.add 8) fun x128 =>
 Ld (.int .u8) w119 (a118.add 9) fun x129 =>
 Ld (.int .u8) w119 (a118.add 10) fun x130 =>
 Ld (.int .u8) w119 (a118.add 11) fun x131 =>
 Ld (.int .u8) w119 (a118.add 12) fun x132 =>
 Ld (.int .u8) w119 (a118.add 13) fun x133 =>
 Ld (.int .u8) w119 (a118.add 14) fun x134 =>
 Ld (.int .u8) w119 (a118.add 15) fun x135 =>
 Ld (.int .u8) w119 (a118.add 16) fun x136 =>
 Ld (.int .u8) w119 (a118.add 17) fun x137 =>
 Ld (.int .u8) w119 (a118.add 18) fun x138 =>
 Ld (.int .u8) w119 (a118.add 19) fun x139 =>
 Ld (.int .u8) w119 (a118.add 20) fun x140 =>
 Ld (.int .u8) w119 (a118.add 21) fun x141 =>
 Ld (.int .u8) w119 (a118.add 22) fun x142 =>
 Ld (.int .u8) w119 (a118.add 23) fun x143 =>
 Ld (.int .u8) w119 (a118.add 24) fun x144 =>
 Ld (.int .u8) w119 (a118.add 25) fun x145 =>
 Ld (.int .u8) w119 (a118.add 26) fun x146 =>
 Ld (.int .u8) w119 (a118.add 27) fun x147 =>
 Ld (.int .u8) w119 (a118.add 28) fun x148 =>
 Ld (.int .u8) w119 (a118.add 29) fun x149 =>
 Ld (.int .u8) w119 (a118.add 30) fun x150 =>
 Ld (.int .u8) w119 (a118.add 31) fun x151 =>
 Ld (.int .u8) w119 (a118.add 32) fun x152 =>
 Ld (.int .u8) w119 (a118.add 33) fun x153 =>
 Ld (.int .u8) w119 (a118.add 34) fun x154 =>
 Ld (.int .u8) w119 (a118.add 35) fun x155 =>
 Ld .slice w119 (a118.add 36) fun x156 =>
 c_v6_Build x120 x121 x122 x123 x124 x125 x126 x127 x128 x129 x130 x131 x132 x133 x134 x135 x136 x137 x138 x139 x140 x141 x142 x143 x144 x145 x146 x147 x148 x149 x150 x151 x152 x153 x154 x155 x156 w119 fun r157 r158 w159 =>
 let J160 : Bool → Prop := fun j161 =>
 ((bif j161 then
 K false w159
 else
 Ld (.int .u8) w159 (a6.add 0) fun x162 =>
 Ld (.int .u8) w159 (a6.add 1) fun x163 =>
 Ld (.int .u8) w159 (a6.add 2) fun x164 =>
 Ld (.int .u8) w159 (a6.add 3) fun x165 =>
 Ld (.int .u8) w159 (a6.add 4) fun x166 =>
 Ld (.int .u8) w159 (a6.add 5) fun x167 =>
 Ld (.int .u8) w159 (a6.add 6) fun x168 =>
 Ld (.int .u8) w159 (a6.add 7) fun x169 =>
 Ld (.int .u8) w159 (a6.add 8) fun x170 =>
 Ld (.int .u8) w159 (a6.add 9) fun x171 =>
 Ld (.int .u8) w159 (a6.add 10) fun x172 =>
 Ld (.int .u8) w159 (a6.add 11) fun x173 =>
 Ld (.int .u8) w159 (a6.add 12) fun x174 =>
 Ld (.int .u8) w159 (a6.add 13) fun x175 =>
 Ld (.int .u8) w159 (a6.add 14) fun x176 =>
 Ld (.int .u8) w159 (a6.add 15) fun x177 =>
 Ld (.int .i64) w159 (a10.add 2) fun x178 =>
 c_relay_Of x162 x163 x164 x165 x166 x167 x168 x169 x170 x171 x172 x173 x174 x175 x176 x177 (IntKind.i64.wrap a3) 0 x178 r157 w159 fun r179 r180 r181 r182 r183 r184 r185 r186 r187 r188 r189 r190 r191 r192 r193 r194 r195 r196 r197 r198 r199 w200 =>
 Al w200 (.cells ⟨[(Value.int .u8 0), (Value.int .u8 0), (Value.int .u8 0), (Value.int .u8 0), (Value.int .u8 0), (Value.int .u8 0), (Value.int .u8 0), (Value.int .u8 0), (Value.int .u8 0), (Value.int .u8 0), (Value.int .u8 0), (Value.int .u8 0), (Value.int .u8 0), (Value.int .u8 0), (Value.int .u8 0), (Value.int .u8 0), (Value.int .i64 0), (Value.int .i64 0), (Value.int .i64 0), (Value.slice none 0 0)]⟩ 40) fun a202 w201 =>
 StN [(Value.int .u8 r179), (Value.int .u8 r180), (Value.int .u8 r181), (Value.int .u8 r182), (Value.int .u8 r183), (Value.int .u8 r184), (Value.int .u8 r185), (Value.int .u8 r186), (Value.int .u8 r187), (Value.int .u8 r188), (Value.int .u8 r189), (Value.int .u8 r190), (Value.int .u8 r191), (Value.int .u8 r192), (Value.int .u8 r193), (Value.int .u8 r194), (Value.int .i64 r195), (Value.int .i64 r196), (Value.int .i64 r197), (Value.slice r198.a r198.len r198.cap)] w201 a202 0 fun w203 =>
 Ld (.int .u8) w203 (a202.add 0) fun x204 =>
 Ld (.int .u8) w203 (a202.add 1) fun x205 =>
 Ld (.int .u8) w203 (a202.add 2) fun x206 =>
 Ld (.int .u8) w203 (a202.add 3) fun x207 =>
 Ld (.int .u8) w203 (a202.add 4) fun x208 =>
 Ld (.int .u8) w203 (a202.add 5) fun x209 =>
 Ld (.int .u8) w203 (a202.add 6) fun x210 =>
 Ld (.int .u8) w203 (a202.add 7) fun x211 =>
 Ld (.int .u8) w203 (a202.add 8) fun x212 =>
 Ld (.int .u8) w203 (a202.add 9) fun x213 =>
 Ld (.int .u8) w203 (a202.add 10) fun x214 =>
 Ld (.int .u8) w203 (a202.add 11) fun x215 =>
 Ld (.int .u8) w203 (a202.add 12) fun x216 =>
 Ld (.int .u8) w203 (a202.add 13) fun x217 =>
 Ld (.int .u8) w203 (a202.add 14) fun x218 =>
 Ld (.int .u8) w203 (a202.add 15) fun x219 =>
 Ld (.int .i64) w203 (a202.add 16) fun x220 =>
 Ld (.int .i64) w203 (a202.add 17) fun x221 =>
 Ld (.int .i64) w203 (a202.add 18) fun x222 =>
 Ld .slice w203 (a202.add 19) fun x223 =>
 c_relay_Packet 3221225474 x204 x205 x206 x207 x208 x209 x210 x211 x212 x213 x214 x215 x216 x217 x218 x219 x220 x221 x222 x223 w203 fun r224 r225 r226 r227 r228 r229 r230 r231 r232 r233 r234 r235 w236 =>
 Al w236 (.cells ⟨[(Value.int .i64 0), (Value.int .i64 0), (Value.int .i64 0), (Value.int .i64 0), (Value.int .i64 0), (Value.int .i64 0), (Value.int .i64 0), (Value.bool false), (Value.bool false), (Value.slice none 0 0), (Value.slice none 0 0)]⟩ 46) fun a238 w237 =>
 StN [(Value.int .i64 r224), (Value.int .i64 r225), (Value.int .i64 r226), (Value.int .i64 r227), (Value.int .i64 r228), (Value.int .i64 r229), (Value.int .i64 r230), (Value.bool r231), (Value.bool r232), (Value.slice r233.a r233.len r233.cap), (Value.slice r234.a r234.len r234.cap)] w237 a238 0 fun w239 =>
 let J240 : Bool → World → Prop := fun j241 w242 =>
 (K j241 w242)
 (bif (r199 != 0) then
 c_law30_awake  w239 fun r243 w244 =>
 J240 r243 w244
 else
 (bif (r235 == 11) then
 c_law30_awake  w239 fun r245 w246 =>
 J240 r245 w246
 else
 J240 false w239))))
 (bif (r27 != 0) then
 J160 true
 else
 (bif (r44 != 0) then
 J160 true
 else
 (bif (r115 != 0) then
 J160 true
 else
 J160 (r158 != 0))))))
theorem e_law30_RelayOnce (a0_0 : Int) (a0_1 : Int) (a0_2 : Int) (a0_3 : Int) (a0_4 : Int) (a0_5 : Int) (a0_6 : Int) (a0_7 : Int) (a0_8 : Int) (a0_9 : Int) (a0_10 : Int) (a0_11 : Int) (a0_12 : Int) (a0_13 : Int) (a0_14 : Int) (a0_15 : Int) (a1_0 : Int) (a1_1 : Int) (a1_2 : Int) (a1_3 : Int) (a1_4 : Int) (a1_5 : Int) (a1_6 : Int) (a1_7 : Int) (a1_8 : Int) (a1_9 : Int) (a1_10 : Int) (a1_11 : Int) (a1_12 : Int) (a1_13 : Int) (a1_14 : Int) (a1_15 : Int) (a2_0 : Int) (a2_1 : Int) (a2_2 : Int) (a2_3 : SliceV) (a3 : Int) (w : World) (K : Bool → World → Prop) : den Try.prog 88 (bodyOf Try.f5) none (.seq .leaf (.seq (.seq .leaf (.cond (.seq .leaf .leaf) .leaf)) (.seq .leaf (.seq .leaf (.seq .leaf (.seq .leaf (.seq (.seq .leaf (.cond (.seq .leaf .leaf) .leaf)) (.seq .leaf (.seq .leaf (.seq .leaf .leaf)))))))))) (argEnv 0 [(Value.agg ⟨[(Value.int .u8 a0_0), (Value.int .u8 a0_1), (Value.int .u8 a0_2), (Value.int .u8 a0_3), (Value.int .u8 a0_4), (Value.int .u8 a0_5), (Value.int .u8 a0_6), (Value.int .u8 a0_7), (Value.int .u8 a0_8), (Value.int .u8 a0_9), (Value.int .u8 a0_10), (Value.int .u8 a0_11), (Value.int .u8 a0_12), (Value.int .u8 a0_13), (Value.int .u8 a0_14), (Value.int .u8 a0_15)]⟩), (Value.agg ⟨[(Value.int .u8 a1_0), (Value.int .u8 a1_1), (Value.int .u8 a1_2), (Value.int .u8 a1_3), (Value.int .u8 a1_4), (Value.int .u8 a1_5), (Value.int .u8 a1_6), (Value.int .u8 a1_7), (Value.int .u8 a1_8), (Value.int .u8 a1_9), (Value.int .u8 a1_10), (Value.int .u8 a1_11), (Value.int .u8 a1_12), (Value.int .u8 a1_13), (Value.int .u8 a1_14), (Value.int .u8 a1_15)]⟩), (Value.agg ⟨[(Value.int .i64 a2_0), (Value.int .i64 a2_1), (Value.int .i64 a2_2), (Value.slice a2_3.a a2_3.len a2_3.cap)]⟩), (Value.int .u8 a3)]) [] w (retK Try.prog [.tmp 8] [.one .bool] K) = s_law30_RelayOnce a0_0 a0_1 a0_2 a0_3 a0_4 a0_5 a0_6 a0_7 a0_8 a0_9 a0_10 a0_11 a0_12 a0_13 a0_14 a0_15 a1_0 a1_1 a1_2 a1_3 a1_4 a1_5 a1_6 a1_7 a1_8 a1_9 a1_10 a1_11 a1_12 a1_13 a1_14 a1_15 a2_0 a2_1 a2_2 a2_3 a3 w K := by kernel_rfl
theorem ok_law30_RelayOnce {a0_0 a0_1 a0_2 a0_3 a0_4 a0_5 a0_6 a0_7 a0_8 a0_9 a0_10 a0_11 a0_12 a0_13 a0_14 a0_15 a1_0 a1_1 a1_2 a1_3 a1_4 a1_5 a1_6 a1_7 a1_8 a1_9 a1_10 a1_11 a1_12 a1_13 a1_14 a1_15 a2_0 a2_1 a2_2 a2_3 a3 w K} (h : s_law30_RelayOnce a0_0 a0_1 a0_2 a0_3 a0_4 a0_5 a0_6 a0_7 a0_8 a0_9 a0_10 a0_11 a0_12 a0_13 a0_14 a0_15 a1_0 a1_1 a1_2 a1_3 a1_4 a1_5 a1_6 a1_7 a1_8 a1_9 a1_10 a1_11 a1_12 a1_13 a1_14 a1_15 a2_0 a2_1 a2_2 a2_3 a3 w K) : c_law30_RelayOnce a0_0 a0_1 a0_2 a0_3 a0_4 a0_5 a0_6 a0_7 a0_8 a0_9 a0_10 a0_11 a0_12 a0_13 a0_14 a0_15 a1_0 a1_1 a1_2 a1_3 a1_4 a1_5 a1_6 a1_7 a1_8 a1_9 a1_10 a1_11 a1_12 a1_13 a1_14 a1_15 a2_0 a2_1 a2_2 a2_3 a3 w K :=
  fn_sound pok Try.func5 (fn := Try.f5) (c := bodyOf Try.f5) (nt := 88) (by kernel_rfl) (by kernel_rfl) (rs := [.tmp 8]) (by kernel_rfl) [.one .bool] K (.seq .leaf (.seq (.seq .leaf (.cond (.seq .leaf .leaf) .leaf)) (.seq .leaf (.seq .leaf (.seq .leaf (.seq .leaf (.seq (.seq .leaf (.cond (.seq .leaf .leaf) .leaf)) (.seq .leaf (.seq .leaf (.seq .leaf .leaf)))))))))) [(Value.agg ⟨[(Value.int .u8 a0_0), (Value.int .u8 a0_1), (Value.int .u8 a0_2), (Value.int .u8 a0_3), (Value.int .u8 a0_4), (Value.int .u8 a0_5), (Value.int .u8 a0_6), (Value.int .u8 a0_7), (Value.int .u8 a0_8), (Value.int .u8 a0_9), (Value.int .u8 a0_10), (Value.int .u8 a0_11), (Value.int .u8 a0_12), (Value.int .u8 a0_13), (Value.int .u8 a0_14), (Value.int .u8 a0_15)]⟩), (Value.agg ⟨[(Value.int .u8 a1_0), (Value.int .u8 a1_1), (Value.int .u8 a1_2), (Value.int .u8 a1_3), (Value.int .u8 a1_4), (Value.int .u8 a1_5), (Value.int .u8 a1_6), (Value.int .u8 a1_7), (Value.int .u8 a1_8), (Value.int .u8 a1_9), (Value.int .u8 a1_10), (Value.int .u8 a1_11), (Value.int .u8 a1_12), (Value.int .u8 a1_13), (Value.int .u8 a1_14), (Value.int .u8 a1_15)]⟩), (Value.agg ⟨[(Value.int .i64 a2_0), (Value.int .i64 a2_1), (Value.int .i64 a2_2), (Value.slice a2_3.a a2_3.len a2_3.cap)]⟩), (Value.int .u8 a3)] (by kernel_rfl) w ((e_law30_RelayOnce a0_0 a0_1 a0_2 a0_3 a0_4 a0_5 a0_6 a0_7 a0_8 a0_9 a0_10 a0_11 a0_12 a0_13 a0_14 a0_15 a1_0 a1_1 a1_2 a1_3 a1_4 a1_5 a1_6 a1_7 a1_8 a1_9 a1_10 a1_11 a1_12 a1_13 a1_14 a1_15 a2_0 a2_1 a2_2 a2_3 a3 w K).mpr h)

/-- goosepond/goosepondlaw30.RelayTells -/
def s_law30_RelayTells (a0_0 : Int) (a0_1 : Int) (a0_2 : Int) (a0_3 : Int) (a0_4 : Int) (a0_5 : Int) (a0_6 : Int) (a0_7 : Int) (a0_8 : Int) (a0_9 : Int) (a0_10 : Int) (a0_11 : Int) (a0_12 : Int) (a0_13 : Int) (a0_14 : Int) (a0_15 : Int) (a1_0 : Int) (a1_1 : Int) (a1_2 : Int) (a1_3 : SliceV) (a2 : Int) (w : World) (K : Bool → World → Prop) : Prop :=
 (Al w (.cells ⟨[(Value.int .u8 a0_0), (Value.int .u8 a0_1), (Value.int .u8 a0_2), (Value.int .u8 a0_3), (Value.int .u8 a0_4), (Value.int .u8 a0_5), (Value.int .u8 a0_6), (Value.int .u8 a0_7), (Value.int .u8 a0_8), (Value.int .u8 a0_9), (Value.int .u8 a0_10), (Value.int .u8 a0_11), (Value.int .u8 a0_12), (Value.int .u8 a0_13), (Value.int .u8 a0_14), (Value.int .u8 a0_15)]⟩ 27) fun a5 w4 =>
 Al w4 (.cells ⟨[(Value.int .i64 a1_0), (Value.int .i64 a1_1), (Value.int .i64 a1_2), (Value.slice a1_3.a a1_3.len a1_3.cap)]⟩ 44) fun a7 w6 =>
 Ld .slice w6 (a7.add 3) fun x8 =>
 (bif (decide ((x8.len : Int) > 3000)) then
 c_law30_awake  w6 fun r9 w10 =>
 K r9 w10
 else
 Ld (.int .u8) w6 (a5.add 0) fun x11 =>
 Ld (.int .u8) w6 (a5.add 1) fun x12 =>
 Ld (.int .u8) w6 (a5.add 2) fun x13 =>
 Ld (.int .u8) w6 (a5.add 3) fun x14 =>
 Ld (.int .u8) w6 (a5.add 4) fun x15 =>
 Ld (.int .u8) w6 (a5.add 5) fun x16 =>
 Ld (.int .u8) w6 (a5.add 6) fun x17 =>
 Ld (.int .u8) w6 (a5.add 7) fun x18 =>
 Ld (.int .u8) w6 (a5.add 8) fun x19 =>
 Ld (.int .u8) w6 (a5.add 9) fun x20 =>
 Ld (.int .u8) w6 (a5.add 10) fun x21 =>
 Ld (.int .u8) w6 (a5.add 11) fun x22 =>
 Ld (.int .u8) w6 (a5.add 12) fun x23 =>
 Ld (.int .u8) w6 (a5.add 13) fun x24 =>
 Ld (.int .u8) w6 (a5.add 14) fun x25 =>
 Ld (.int .u8) w6 (a5.add 15) fun x26 =>
 Ld (.int .i64) w6 (a7.add 0) fun x27 =>
 Ld (.int .i64) w6 (a7.add 1) fun x28 =>
 Ld (.int .i64) w6 (a7.add 2) fun x29 =>
 Ld .slice w6 (a7.add 3) fun x30 =>
 c_relay_Of x11 x12 x13 x14 x15 x16 x17 x18 x19 x20 x21 x22 x23 x24 x25 x26 x27 x28 x29 x30 w6 fun r31 r32 r33 r34 r35 r36 r37 r38 r39 r40 r41 r42 r43 r44 r45 r46 r47 r48 r49 r50 r51 w52 =>
 Al w52 (.cells ⟨[(Value.int .u8 0), (Value.int .u8 0), (Value.int .u8 0), (Value.int .u8 0), (Value.int .u8 0), (Value.int .u8 0), (Value.int .u8 0), (Value.int .u8 0), (Value.int .u8 0), (Value.int .u8 0), (Value.int .u8 0), (Value.int .u8 0), (Value.int .u8 0), (Value.int .u8 0), (Value.int .u8 0), (Value.int .u8 0), (Value.int .i64 0), (Value.int .i64 0), (Value.int .i64 0), (Value.slice none 0 0)]⟩ 40) fun a54 w53 =>
 StN [(Value.int .u8 r31), (Value.int .u8 r32), (Value.int .u8 r33), (Value.int .u8 r34), (Value.int .u8 r35), (Value.int .u8 r36), (Value.int .u8 r37), (Value.int .u8 r38), (Value.int .u8 r39), (Value.int .u8 r40), (Value.int .u8 r41), (Value.int .u8 r42), (Value.int .u8 r43), (Value.int .u8 r44), (Value.int .u8 r45), (Value.int .u8 r46), (Value.int .i64 r47), (Value.int .i64 r48), (Value.int .i64 r49), (Value.slice r50.a r50.len r50.cap)] w53 a54 0 fun w55 =>
 Ld (.int .u8) w55 (a5.add 0) fun x56 =>
 Ld (.int .u8) w55 (a5.add 1) fun x57 =>
 Ld (.int .u8) w55 (a5.add 2) fun x58 =>
 Ld (.int .u8) w55 (a5.add 3) fun x59 =>
 Ld (.int .u8) w55 (a5.add 4) fun x60 =>
 Ld (.int .u8) w55 (a5.add 5) fun x61 =>
 Ld (.int .u8) w55 (a5.add 6) fun x62 =>
 Ld (.int .u8) w55 (a5.add 7) fun x63 =>
 Ld (.int .u8) w55 (a5.add 8) fun x64 =>
 Ld (.int .u8) w55 (a5.add 9) fun x65 =>
 Ld (.int .u8) w55 (a5.add 10) fun x66 =>
 Ld (.int .u8) w55 (a5.add 11) fun x67 =>
 Ld (.int .u8) w55 (a5.add 12) fun x68 =>
 Ld (.int .u8) w55 (a5.add 13) fun x69 =>
 Ld (.int .u8) w55 (a5.add 14) fun x70 =>
 Ld (.int .u8) w55 (a5.add 15) fun x71 =>
 Ld (.int .i64) w55 (a7.add 0) fun x72 =>
 Ld (.int .i64) w55 (a7.add 1) fun x73 =>
 Ld (.int .i64) w55 (a7.add 2) fun x74 =>
 Ld .slice w55 (a7.add 3) fun x75 =>
 c_ref30_Of x56 x57 x58 x59 x60 x61 x62 x63 x64 x65 x66 x67 x68 x69 x70 x71 x72 x73 x74 x75 w55 fun r76 r77 r78 r79 r80 r81 r82 r83 r84 r85 r86 r87 r88 r89 r90 r91 r92 r93 r94 r95 r96 w97 =>
 Al w97 (.cells ⟨[(Value.int .u8 0), (Value.int .u8 0), (Value.int .u8 0), (Value.int .u8 0), (Value.int .u8 0), (Value.int .u8 0), (Value.int .u8 0), (Value.int .u8 0), (Value.int .u8 0), (Value.int .u8 0), (Value.int .u8 0), (Value.int .u8 0), (Value.int .u8 0), (Value.int .u8 0), (Value.int .u8 0), (Value.int .u8 0), (Value.int .i64 0), (Value.int .i64 0), (Value.int .i64 0), (Value.slice none 0 0)]⟩ 52) fun a99 w98 =>
 StN [(Value.int .u8 r76), (Value.int .u8 r77), (Value.int .u8 r78), (Value.int .u8 r79), (Value.int .u8 r80), (Value.int .u8 r81), (Value.int .u8 r82), (Value.int .u8 r83), (Value.int .u8 r84), (Value.int .u8 r85), (Value.int .u8 r86), (Value.int .u8 r87), (Value.int .u8 r88), (Value.int .u8 r89), (Value.int .u8 r90), (Value.int .u8 r91), (Value.int .i64 r92), (Value.int .i64 r93), (Value.int .i64 r94), (Value.slice r95.a r95.len r95.cap)] w98 a99 0 fun w100 =>
 let J101 : Bool → World → Prop := fun j102 w103 =>
 ((bif j102 then
 K false w103
 else
 Ld (.int .u8) w103 (a54.add 0) fun x104 =>
 Ld (.int .u8) w103 (a54.add 1) fun x105 =>
 Ld (.int .u8) w103 (a54.add 2) fun x106 =>
 Ld (.int .u8) w103 (a54.add 3) fun x107 =>
 Ld (.int .u8) w103 (a54.add 4) fun x108 =>
 Ld (.int .u8) w103 (a54.add 5) fun x109 =>
 Ld (.int .u8) w103 (a54.add 6) fun x110 =>
 Ld (.int .u8) w103 (a54.add 7) fun x111 =>
 Ld (.int .u8) w103 (a54.add 8) fun x112 =>
 Ld (.int .u8) w103 (a54.add 9) fun x113 =>
 Ld (.int .u8) w103 (a54.add 10) fun x114 =>
 Ld (.int .u8) w103 (a54.add 11) fun x115 =>
 Ld (.int .u8) w103 (a54.add 12) fun x116 =>
 Ld (.int .u8) w103 (a54.add 13) fun x117 =>
 Ld (.int .u8) w103 (a54.add 14) fun x118 =>
 Ld (.int .u8) w103 (a54.add 15) fun x119 =>
 Ld (.int .i64) w103 (a54.add 16) fun x120 =>
 Ld (.int .i64) w103 (a54.add 17) fun x121 =>
 Ld (.int .i64) w103 (a54.add 18) fun x122 =>
 Ld .slice w103 (a54.add 19) fun x123 =>
 c_relay_Packet a2 x104 x105 x106 x107 x108 x109 x110 x111 x112 x113 x114 x115 x116 x117 x118 x119 x120 x121 x122 x123 w103 fun r124 r125 r126 r127 r128 r129 r130 r131 r132 r133 r134 r135 w136 =>
 Al w136 (.cells ⟨[(Value.int .i64 0), (Value.int .i64 0), (Value.int .i64 0), (Value.int .i64 0), (Value.int .i64 0), (Value.int .i64 0), (Value.int .i64 0), (Value.bool false), (Value.bool false), (Value.slice none 0 0), (Value.slice none 0 0)]⟩ 46) fun a138 w137 =>
 StN [(Value.int .i64 r124), (Value.int .i64 r125), (Value.int .i64 r126), (Value.int .i64 r127), (Value.int .i64 r128), (Value.int .i64 r129), (Value.int .i64 r130), (Value.bool r131), (Value.bool r132), (Value.slice r133.a r133.len r133.cap), (Value.slice r134.a r134.len r134.cap)] w137 a138 0 fun w139 =>
 Ld (.int .u8) w139 (a99.add 0) fun x140 =>
 Ld (.int .u8) w139 (a99.add 1) fun x141 =>
 Ld (.int .u8) w139 (a99.add 2) fun x142 =>
 Ld (.int .u8) w139 (a99.add 3) fun x143 =>
 Ld (.int .u8) w139 (a99.add 4) fun x144 =>
 Ld (.int .u8) w139 (a99.add 5) fun x145 =>
 Ld (.int .u8) w139 (a99.add 6) fun x146 =>
 Ld (.int .u8) w139 (a99.add 7) fun x147 =>
 Ld (.int .u8) w139 (a99.add 8) fun x148 =>
 Ld (.int .u8) w139 (a99.add 9) fun x149 =>
 Ld (.int .u8) w139 (a99.add 10) fun x150 =>
 Ld (.int .u8) w139 (a99.add 11) fun x151 =>
 Ld (.int .u8) w139 (a99.add 12) fun x152 =>
 Ld (.int .u8) w139 (a99.add 13) fun x153 =>
 Ld (.int .u8) w139 (a99.add 14) fun x154 =>
 Ld (.int .u8) w139 (a99.add 15) fun x155 =>
 Ld (.int .i64) w139 (a99.add 16) fun x156 =>
 Ld (.int .i64) w139 (a99.add 17) fun x157 =>
 Ld (.int .i64) w139 (a99.add 18) fun x158 =>
 Ld .slice w139 (a99.add 19) fun x159 =>
 c_ref30_Packet a2 x140 x141 x142 x143 x144 x145 x146 x147 x148 x149 x150 x151 x152 x153 x154 x155 x156 x157 x158 x159 w139 fun r160 r161 r162 r163 r164 r165 r166 r167 r168 r169 r170 r171 w172 =>
 Al w172 (.cells ⟨[(Value.int .i64 0), (Value.int .i64 0), (Value.int .i64 0), (Value.int .i64 0), (Value.int .i64 0), (Value.int .i64 0), (Value.int .i64 0), (Value.bool false), (Value.bool false), (Value.slice none 0 0), (Value.slice none 0 0)]⟩ 46) fun a174 w173 =>
 StN [(Value.int .i64 r160), (Value.int .i64 r161), (Value.int .i64 r162), (Value.int .i64 r163), (Value.int .i64 r164), (Value.int .i64 r165), (Value.int .i64 r166), (Value.bool r167), (Value.bool r168), (Value.slice r169.a r169.len r169.cap), (Value.slice r170.a r170.len r170.cap)] w173 a174 0 fun w175 =>
 let J176 : Bool → World → Prop := fun j177 w178 =>
 (K j177 w178)
 (bif (r135 == r171) then
 Ld (.int .i64) w175 (a138.add 0) fun x179 =>
 Ld (.int .i64) w175 (a138.add 1) fun x180 =>
 Ld (.int .i64) w175 (a138.add 2) fun x181 =>
 Ld (.int .i64) w175 (a138.add 3) fun x182 =>
 Ld (.int .i64) w175 (a138.add 4) fun x183 =>
 Ld (.int .i64) w175 (a138.add 5) fun x184 =>
 Ld (.int .i64) w175 (a138.add 6) fun x185 =>
 Ld .bool w175 (a138.add 7) fun x186 =>
 Ld .bool w175 (a138.add 8) fun x187 =>
 Ld .slice w175 (a138.add 9) fun x188 =>
 Ld .slice w175 (a138.add 10) fun x189 =>
 Ld (.int .i64) w175 (a174.add 0) fun x190 =>
 Ld (.int .i64) w175 (a174.add 1) fun x191 =>
 Ld (.int .i64) w175 (a174.add 2) fun x192 =>
 Ld (.int .i64) w175 (a174.add 3) fun x193 =>
 Ld (.int .i64) w175 (a174.add 4) fun x194 =>
 Ld (.int .i64) w175 (a174.add 5) fun x195 =>
 Ld (.int .i64) w175 (a174.add 6) fun x196 =>
 Ld .bool w175 (a174.add 7) fun x197 =>
 Ld .bool w175 (a174.add 8) fun x198 =>
 Ld .slice w175 (a174.add 9) fun x199 =>
 Ld .slice w175 (a174.add 10) fun x200 =>
 c_ref05_Same x179 x180 x181 x182 x183 x184 x185 x186 x187 x188 x189 x190 x191 x192 x193 x194 x195 x196 x197 x198 x199 x200 w175 fun r201 w202 =>
 (bif r201 then
 c_law30_awake  w202 fun r203 w204 =>
 J176 r203 w204
 else
 J176 false w202)
 else
 J176 false w175)))
 (bif (r51 != r96) then
 J101 true w100
 else
 Ld (.int .u8) w100 (a54.add 0) fun x205 =>
 Ld (.int .u8) w100 (a54.add 1) fun x206 =>
 Ld (.int .u8) w100 (a54.add 2) fun x207 =>
 Ld (.int .u8) w100 (a54.add 3) fun x208 =>
 Ld (.int .u8) w100 (a54.add 4) fun x209 =>
 Ld (.int .u8) w100 (a54.add 5) fun x210 =>
 Ld (.int .u8) w100 (a54.add 6) fun x211 =>
 Ld (.int .u8) w100 (a54.add 7) fun x212 =>
 Ld (.int .u8) w100 (a54.add 8) fun x213 =>
 Ld (.int .u8) w100 (a54.add 9) fun x214 =>
 Ld (.int .u8) w100 (a54.add 10) fun x215 =>
 Ld (.int .u8) w100 (a54.add 11) fun x216 =>
 Ld (.int .u8) w100 (a54.add 12) fun x217 =>
 Ld (.int .u8) w100 (a54.add 13) fun x218 =>
 Ld (.int .u8) w100 (a54.add 14) fun x219 =>
 Ld (.int .u8) w100 (a54.add 15) fun x220 =>
 Ld (.int .u8) w100 (a99.add 0) fun x221 =>
 Ld (.int .u8) w100 (a99.add 1) fun x222 =>
 Ld (.int .u8) w100 (a99.add 2) fun x223 =>
 Ld (.int .u8) w100 (a99.add 3) fun x224 =>
 Ld (.int .u8) w100 (a99.add 4) fun x225 =>
 Ld (.int .u8) w100 (a99.add 5) fun x226 =>
 Ld (.int .u8) w100 (a99.add 6) fun x227 =>
 Ld (.int .u8) w100 (a99.add 7) fun x228 =>
 Ld (.int .u8) w100 (a99.add 8) fun x229 =>
 Ld (.int .u8) w100 (a99.add 9) fun x230 =>
 Ld (.int .u8) w100 (a99.add 10) fun x231 =>
 Ld (.int .u8) w100 (a99.add 11) fun x232 =>
 Ld (.int .u8) w100 (a99.add 12) fun x233 =>
 Ld (.int .u8) w100 (a99.add 13) fun x234 =>
 Ld (.int .u8) w100 (a99.add 14) fun x235 =>
 Ld (.int .u8) w100 (a99.add 15) fun x236 =>
 (bif (!((x205 == x221) && ((x206 == x222) && ((x207 == x223) && ((x208 == x224) && ((x209 == x225) && ((x210 == x226) && ((x211 == x227) && ((x212 == x228) && ((x213 == x229) && ((x214 == x230) && ((x215 == x231) && ((x216 == x232) && ((x217 == x233) && ((x218 == x234) && ((x219 == x235) && ((x220 == x236) && true))))))))))))))))) then
 J101 true w100
 else
 Ld (.int .i64) w100 (a54.add 16) fun x237 =>
 Ld (.int .i64) w100 (a99.add 16) fun x238 =>
 (bif (x237 != x238) then
 J101 true w100
 else
 Ld (.int .i64) w100 (a54.add 17) fun x239 =>
 Ld (.int .i64) w100 (a99.add 17) fun x240 =>
 (bif (x239 != x240) then
 J101 true w100
 else
 Ld (.int .i64) w100 (a54.add 18) fun x241 =>
 Ld (.int .i64) w100 (a99.add 18) fun x242 =>
 (bif (x241 != x242) then
 J101 true w100
 else
 Ld .slice w100 (a54.add 19) fun x243 =>
 Ld .slice w100 (a99.add 19) fun x244 =>
 c_bytes_Equal x243 x244 w100 fun r245 w246 =>
 J101 (!r245) w246)))))))
theorem e_law30_RelayTells (a0_0 : Int) (a0_1 : Int) (a0_2 : Int) (a0_3 : Int) (a0_4 : Int) (a0_5 : Int) (a0_6 : Int) (a0_7 : Int) (a0_8 : Int) (a0_9 : Int) (a0_10 : Int) (a0_11 : Int) (a0_12 : Int) (a0_13 : Int) (a0_14 : Int) (a0_15 : Int) (a1_0 : Int) (a1_1 : Int) (a1_2 : Int) (a1_3 : SliceV) (a2 : Int) (w : World) (K : Bool → World → Prop) : den Try.prog 94 (bodyOf Try.f6) none (.seq .leaf (.seq (.seq .leaf (.cond (.seq .leaf .leaf) .leaf)) (.seq .leaf (.seq .leaf (.seq (.seq .leaf (.cond (.seq .leaf .leaf) .leaf)) (.seq .leaf (.seq .leaf (.seq .leaf .leaf)))))))) (argEnv 0 [(Value.agg ⟨[(Value.int .u8 a0_0), (Value.int .u8 a0_1), (Value.int .u8 a0_2), (Value.int .u8 a0_3), (Value.int .u8 a0_4), (Value.int .u8 a0_5), (Value.int .u8 a0_6), (Value.int .u8 a0_7), (Value.int .u8 a0_8), (Value.int .u8 a0_9), (Value.int .u8 a0_10), (Value.int .u8 a0_11), (Value.int .u8 a0_12), (Value.int .u8 a0_13), (Value.int .u8 a0_14), (Value.int .u8 a0_15)]⟩), (Value.agg ⟨[(Value.int .i64 a1_0), (Value.int .i64 a1_1), (Value.int .i64 a1_2), (Value.slice a1_3.a a1_3.len a1_3.cap)]⟩), (Value.int .i64 a2)]) [] w (retK Try.prog [.tmp 6] [.one .bool] K) = s_law30_RelayTells a0_0 a0_1 a0_2 a0_3 a0_4 a0_5 a0_6 a0_7 a0_8 a0_9 a0_10 a0_11 a0_12 a0_13 a0_14 a0_15 a1_0 a1_1 a1_2 a1_3 a2 w K := by kernel_rfl
theorem ok_law30_RelayTells {a0_0 a0_1 a0_2 a0_3 a0_4 a0_5 a0_6 a0_7 a0_8 a0_9 a0_10 a0_11 a0_12 a0_13 a0_14 a0_15 a1_0 a1_1 a1_2 a1_3 a2 w K} (h : s_law30_RelayTells a0_0 a0_1 a0_2 a0_3 a0_4 a0_5 a0_6 a0_7 a0_8 a0_9 a0_10 a0_11 a0_12 a0_13 a0_14 a0_15 a1_0 a1_1 a1_2 a1_3 a2 w K) : c_law30_RelayTells a0_0 a0_1 a0_2 a0_3 a0_4 a0_5 a0_6 a0_7 a0_8 a0_9 a0_10 a0_11 a0_12 a0_13 a0_14 a0_15 a1_0 a1_1 a1_2 a1_3 a2 w K :=
  fn_sound pok Try.func6 (fn := Try.f6) (c := bodyOf Try.f6) (nt := 94) (by kernel_rfl) (by kernel_rfl) (rs := [.tmp 6]) (by kernel_rfl) [.one .bool] K (.seq .leaf (.seq (.seq .leaf (.cond (.seq .leaf .leaf) .leaf)) (.seq .leaf (.seq .leaf (.seq (.seq .leaf (.cond (.seq .leaf .leaf) .leaf)) (.seq .leaf (.seq .leaf (.seq .leaf .leaf)))))))) [(Value.agg ⟨[(Value.int .u8 a0_0), (Value.int .u8 a0_1), (Value.int .u8 a0_2), (Value.int .u8 a0_3), (Value.int .u8 a0_4), (Value.int .u8 a0_5), (Value.int .u8 a0_6), (Value.int .u8 a0_7), (Value.int .u8 a0_8), (Value.int .u8 a0_9), (Value.int .u8 a0_10), (Value.int .u8 a0_11), (Value.int .u8 a0_12), (Value.int .u8 a0_13), (Value.int .u8 a0_14), (Value.int .u8 a0_15)]⟩), (Value.agg ⟨[(Value.int .i64 a1_0), (Value.int .i64 a1_1), (Value.int .i64 a1_2), (Value.slice a1_3.a a1_3.len a1_3.cap)]⟩), (Value.int .i64 a2)] (by kernel_rfl) w ((e_law30_RelayTells a0_0 a0_1 a0_2 a0_3 a0_4 a0_5 a0_6 a0_7 a0_8 a0_9 a0_10 a0_11 a0_12 a0_13 a0_14 a0_15 a1_0 a1_1 a1_2 a1_3 a2 w K).mpr h)

/-- goosepond/relay.Table -/
def s_relay_Table (a0 : Int) (a1 : Int) (a2 : Int) (w : World) (K : Int → Int → Int → Bool → World → Prop) : Prop :=
 ((bif (a0 == 2) then
 let J4 : Int → Prop := fun j5 =>
 (K 3 4 j5 true w)
 (bif (decide (a2 > 108)) then
 J4 (if (65535 : Int) < (IntKind.i64.wrap (a2 - 40)) then 65535 else (IntKind.i64.wrap (a2 - 40)))
 else
 J4 68)
 else
 let J6 : Bool → Prop := fun j7 =>
 ((bif j7 then
 K 3 1 0 true w
 else
 K 0 0 0 false w))
 (bif (a0 == 1) then
 J6 (a0 == 1)
 else
 (bif (a0 == 3) then
 J6 (a0 == 3)
 else
 J6 (a0 == 4)))))
theorem e_relay_Table (a0 : Int) (a1 : Int) (a2 : Int) (w : World) (K : Int → Int → Int → Bool → World → Prop) : den Try.prog 24 (bodyOf Try.f8) none (.seq .leaf (.seq (.seq .leaf (.blk (.seq .leaf (.cond (.seq .leaf (.seq (.seq .leaf (.cond .leaf .leaf)) (.seq .leaf .leaf))) (.seq (.seq .leaf (.cond .leaf (.seq .leaf (.cond .leaf .leaf)))) (.cond (.seq .leaf .leaf) .leaf)))))) (.seq .leaf .leaf))) (argEnv 0 [(Value.int .i64 a0), (Value.int .i64 a1), (Value.int .i64 a2)]) [] w (retK Try.prog [.tmp 6, .tmp 7, .tmp 8, .tmp 9] [.one (.int .i64), .one (.int .i64), .one (.int .i64), .one .bool] K) = s_relay_Table a0 a1 a2 w K := by kernel_rfl
theorem ok_relay_Table {a0 a1 a2 w K} (h : s_relay_Table a0 a1 a2 w K) : c_relay_Table a0 a1 a2 w K :=
  fn_sound pok Try.func8 (fn := Try.f8) (c := bodyOf Try.f8) (nt := 24) (by kernel_rfl) (by kernel_rfl) (rs := [.tmp 6, .tmp 7, .tmp 8, .tmp 9]) (by kernel_rfl) [.one (.int .i64), .one (.int .i64), .one (.int .i64), .one .bool] K (.seq .leaf (.seq (.seq .leaf (.blk (.seq .leaf (.cond (.seq .leaf (.seq (.seq .leaf (.cond .leaf .leaf)) (.seq .leaf .leaf))) (.seq (.seq .leaf (.cond .leaf (.seq .leaf (.cond .leaf .leaf)))) (.cond (.seq .leaf .leaf) .leaf)))))) (.seq .leaf .leaf))) [(Value.int .i64 a0), (Value.int .i64 a1), (Value.int .i64 a2)] (by kernel_rfl) w ((e_relay_Table a0 a1 a2 w K).mpr h)

/-- goosepond/goosepondref30.Table -/
def s_ref30_Table (a0 : Int) (a1 : Int) (a2 : Int) (w : World) (K : Int → Int → Int → Bool → World → Prop) : Prop :=
 ((bif (a0 == 2) then
 K 3 4 (if (65535 : Int) < (if (68 : Int) > (IntKind.i64.wrap ((if (0 : Int) > a2 then 0 else a2) - 40)) then 68 else (IntKind.i64.wrap ((if (0 : Int) > a2 then 0 else a2) - 40))) then 65535 else (if (68 : Int) > (IntKind.i64.wrap ((if (0 : Int) > a2 then 0 else a2) - 40)) then 68 else (IntKind.i64.wrap ((if (0 : Int) > a2 then 0 else a2) - 40)))) true w
 else
 let J4 : Bool → Prop := fun j5 =>
 ((bif j5 then
 K 3 1 0 true w
 else
 K 0 0 0 false w))
 (bif (a0 == 1) then
 J4 (a0 == 1)
 else
 (bif (a0 == 3) then
 J4 (a0 == 3)
 else
 J4 (a0 == 4)))))
theorem e_ref30_Table (a0 : Int) (a1 : Int) (a2 : Int) (w : World) (K : Int → Int → Int → Bool → World → Prop) : den Try.prog 22 (bodyOf Try.f9) none (.seq .leaf (.seq (.seq .leaf (.blk (.seq .leaf (.cond (.seq .leaf .leaf) (.seq (.seq .leaf (.cond .leaf (.seq .leaf (.cond .leaf .leaf)))) (.cond (.seq .leaf .leaf) .leaf)))))) (.seq .leaf .leaf))) (argEnv 0 [(Value.int .i64 a0), (Value.int .i64 a1), (Value.int .i64 a2)]) [] w (retK Try.prog [.tmp 6, .tmp 7, .tmp 8, .tmp 9] [.one (.int .i64), .one (.int .i64), .one (.int .i64), .one .bool] K) = s_ref30_Table a0 a1 a2 w K := by kernel_rfl
theorem ok_ref30_Table {a0 a1 a2 w K} (h : s_ref30_Table a0 a1 a2 w K) : c_ref30_Table a0 a1 a2 w K :=
  fn_sound pok Try.func9 (fn := Try.f9) (c := bodyOf Try.f9) (nt := 22) (by kernel_rfl) (by kernel_rfl) (rs := [.tmp 6, .tmp 7, .tmp 8, .tmp 9]) (by kernel_rfl) [.one (.int .i64), .one (.int .i64), .one (.int .i64), .one .bool] K (.seq .leaf (.seq (.seq .leaf (.blk (.seq .leaf (.cond (.seq .leaf .leaf) (.seq (.seq .leaf (.cond .leaf (.seq .leaf (.cond .leaf .leaf)))) (.cond (.seq .leaf .leaf) .leaf)))))) (.seq .leaf .leaf))) [(Value.int .i64 a0), (Value.int .i64 a1), (Value.int .i64 a2)] (by kernel_rfl) w ((e_ref30_Table a0 a1 a2 w K).mpr h)

/-- goosepond/goosepondlaw30.awake -/
def s_law30_awake  (w : World) (K : Bool → World → Prop) : Prop :=
 (Al w (.cells ⟨[(Value.int .u8 0), (Value.int .u8 0), (Value.int .u8 0), (Value.int .u8 0), (Value.int .u8 0), (Value.int .u8 0), (Value.int .u8 0), (Value.int .u8 0), (Value.int .u8 0), (Value.int .u8 0), (Value.int .u8 0), (Value.int .u8 0), (Value.int .u8 0), (Value.int .u8 0), (Value.int .u8 0), (Value.int .u8 0)]⟩ 27) fun a2 w1 =>
 Al w1 (.cells ⟨[(Value.int .u8 0), (Value.int .u8 0), (Value.int .u8 0), (Value.int .u8 0), (Value.int .u8 0), (Value.int .u8 0), (Value.int .u8 0), (Value.int .u8 0), (Value.int .u8 0), (Value.int .u8 0), (Value.int .u8 0), (Value.int .u8 0), (Value.int .u8 0), (Value.int .u8 0), (Value.int .u8 0), (Value.int .u8 0)]⟩ 27) fun a4 w3 =>
 StN [(Value.int .u8 1), (Value.int .u8 0), (Value.int .u8 0), (Value.int .u8 0), (Value.int .u8 0), (Value.int .u8 0), (Value.int .u8 0), (Value.int .u8 0), (Value.int .u8 0), (Value.int .u8 0), (Value.int .u8 0), (Value.int .u8 0), (Value.int .u8 0), (Value.int .u8 0), (Value.int .u8 0), (Value.int .u8 0)] w3 a2 0 fun w5 =>
 StN [(Value.int .u8 2), (Value.int .u8 0), (Value.int .u8 0), (Value.int .u8 0), (Value.int .u8 0), (Value.int .u8 0), (Value.int .u8 0), (Value.int .u8 0), (Value.int .u8 0), (Value.int .u8 0), (Value.int .u8 0), (Value.int .u8 0), (Value.int .u8 0), (Value.int .u8 0), (Value.int .u8 0), (Value.int .u8 0)] w5 a4 0 fun w6 =>
 let J7 : Addr → World → Prop := fun j8 w9 =>
 (Ld (.int .i64) w9 (j8.add 0) fun x10 =>
 Ld (.int .i64) w9 (j8.add 1) fun x11 =>
 Ld (.int .i64) w9 (j8.add 2) fun x12 =>
 Ld (.int .i64) w9 (j8.add 3) fun x13 =>
 Ld (.int .u8) w9 (j8.add 4) fun x14 =>
 Ld (.int .u8) w9 (j8.add 5) fun x15 =>
 Ld (.int .u8) w9 (j8.add 6) fun x16 =>
 Ld (.int .u8) w9 (j8.add 7) fun x17 =>
 Ld (.int .u8) w9 (j8.add 8) fun x18 =>
 Ld (.int .u8) w9 (j8.add 9) fun x19 =>
 Ld (.int .u8) w9 (j8.add 10) fun x20 =>
 Ld (.int .u8) w9 (j8.add 11) fun x21 =>
 Ld (.int .u8) w9 (j8.add 12) fun x22 =>
 Ld (.int .u8) w9 (j8.add 13) fun x23 =>
 Ld (.int .u8) w9 (j8.add 14) fun x24 =>
 Ld (.int .u8) w9 (j8.add 15) fun x25 =>
 Ld (.int .u8) w9 (j8.add 16) fun x26 =>
 Ld (.int .u8) w9 (j8.add 17) fun x27 =>
 Ld (.int .u8) w9 (j8.add 18) fun x28 =>
 Ld (.int .u8) w9 (j8.add 19) fun x29 =>
 Ld (.int .u8) w9 (j8.add 20) fun x30 =>
 Ld (.int .u8) w9 (j8.add 21) fun x31 =>
 Ld (.int .u8) w9 (j8.add 22) fun x32 =>
 Ld (.int .u8) w9 (j8.add 23) fun x33 =>
 Ld (.int .u8) w9 (j8.add 24) fun x34 =>
 Ld (.int .u8) w9 (j8.add 25) fun x35 =>
 Ld (.int .u8) w9 (j8.add 26) fun x36 =>
 Ld (.int .u8) w9 (j8.add 27) fun x37 =>
 Ld (.int .u8) w9 (j8.add 28) fun x38 =>
 Ld (.int .u8) w9 (j8.add 29) fun x39 =>
 Ld (.int .u8) w9 (j8.add 30) fun x40 =>
 Ld (.int .u8) w9 (j8.add 31) fun x41 =>
 Ld (.int .u8) w9 (j8.add 32) fun x42 =>
 Ld (.int .u8) w9 (j8.add 33) fun x43 =>
 Ld (.int .u8) w9 (j8.add 34) fun x44 =>
 Ld (.int .u8) w9 (j8.add 35) fun x45 =>
 Ld .slice w9 (j8.add 36) fun x46 =>
 c_v6_Build x10 x11 x12 x13 x14 x15 x16 x17 x18 x19 x20 x21 x22 x23 x24 x25 x26 x27 x28 x29 x30 x31 x32 x33 x34 x35 x36 x37 x38 x39 x40 x41 x42 x43 x44 x45 x46 w9 fun r47 r48 w49 =>
 Ld (.int .u8) w49 (a2.add 0) fun x50 =>
 Ld (.int .u8) w49 (a2.add 1) fun x51 =>
 Ld (.int .u8) w49 (a2.add 2) fun x52 =>
 Ld (.int .u8) w49 (a2.add 3) fun x53 =>
 Ld (.int .u8) w49 (a2.add 4) fun x54 =>
 Ld (.int .u8) w49 (a2.add 5) fun x55 =>
 Ld (.int .u8) w49 (a2.add 6) fun x56 =>
 Ld (.int .u8) w49 (a2.add 7) fun x57 =>
 Ld (.int .u8) w49 (a2.add 8) fun x58 =>
 Ld (.int .u8) w49 (a2.add 9) fun x59 =>
 Ld (.int .u8) w49 (a2.add 10) fun x60 =>
 Ld (.int .u8) w49 (a2.add 11) fun x61 =>
 Ld (.int .u8) w49 (a2.add 12) fun x62 =>
 Ld (.int .u8) w49 (a2.add 13) fun x63 =>
 Ld (.int .u8) w49 (a2.add 14) fun x64 =>
 Ld (.int .u8) w49 (a2.add 15) fun x65 =>
 c_relay_Of x50 x51 x52 x53 x54 x55 x56 x57 x58 x59 x60 x61 x62 x63 x64 x65 2 0 1400 r47 w49 fun r66 r67 r68 r69 r70 r71 r72 r73 r74 r75 r76 r77 r78 r79 r80 r81 r82 r83 r84 r85 r86 w87 =>
 Al w87 (.cells ⟨[(Value.int .u8 0), (Value.int .u8 0), (Value.int .u8 0), (Value.int .u8 0), (Value.int .u8 0), (Value.int .u8 0), (Value.int .u8 0), (Value.int .u8 0), (Value.int .u8 0), (Value.int .u8 0), (Value.int .u8 0), (Value.int .u8 0), (Value.int .u8 0), (Value.int .u8 0), (Value.int .u8 0), (Value.int .u8 0), (Value.int .i64 0), (Value.int .i64 0), (Value.int .i64 0), (Value.slice none 0 0)]⟩ 40) fun a89 w88 =>
 StN [(Value.int .u8 r66), (Value.int .u8 r67), (Value.int .u8 r68), (Value.int .u8 r69), (Value.int .u8 r70), (Value.int .u8 r71), (Value.int .u8 r72), (Value.int .u8 r73), (Value.int .u8 r74), (Value.int .u8 r75), (Value.int .u8 r76), (Value.int .u8 r77), (Value.int .u8 r78), (Value.int .u8 r79), (Value.int .u8 r80), (Value.int .u8 r81), (Value.int .i64 r82), (Value.int .i64 r83), (Value.int .i64 r84), (Value.slice r85.a r85.len r85.cap)] w88 a89 0 fun w90 =>
 Ld (.int .u8) w90 (a89.add 0) fun x91 =>
 Ld (.int .u8) w90 (a89.add 1) fun x92 =>
 Ld (.int .u8) w90 (a89.add 2) fun x93 =>
 Ld (.int .u8) w90 (a89.add 3) fun x94 =>
 Ld (.int .u8) w90 (a89.add 4) fun x95 =>
 Ld (.int .u8) w90 (a89.add 5) fun x96 =>
 Ld (.int .u8) w90 (a89.add 6) fun x97 =>
 Ld (.int .u8) w90 (a89.add 7) fun x98 =>
 Ld (.int .u8) w90 (a89.add 8) fun x99 =>
 Ld (.int .u8) w90 (a89.add 9) fun x100 =>
 Ld (.int .u8) w90 (a89.add 10) fun x101 =>
 Ld (.int .u8) w90 (a89.add 11) fun x102 =>
 Ld (.int .u8) w90 (a89.add 12) fun x103 =>
 Ld (.int .u8) w90 (a89.add 13) fun x104 =>
 Ld (.int .u8) w90 (a89.add 14) fun x105 =>
 Ld (.int .u8) w90 (a89.add 15) fun x106 =>
 Ld (.int .i64) w90 (a89.add 16) fun x107 =>
 Ld (.int .i64) w90 (a89.add 17) fun x108 =>
 Ld (.int .i64) w90 (a89.add 18) fun x109 =>
 Ld .slice w90 (a89.add 19) fun x110 =>
 c_relay_Packet 3221225474 x91 x92 x93 x94 x95 x96 x97 x98 x99 x100 x101 x102 x103 x104 x105 x106 x107 x108 x109 x110 w90 fun r111 r112 r113 r114 r115 r116 r117 r118 r119 r120 r121 r122 w123 =>
 Al w123 (.cells ⟨[(Value.int .i64 0), (Value.int .i64 0), (Value.int .i64 0), (Value.int .i64 0), (Value.int .i64 0), (Value.int .i64 0), (Value.int .i64 0), (Value.bool false), (Value.bool false), (Value.slice none 0 0), (Value.slice none 0 0)]⟩ 46) fun a125 w124 =>
 StN [(Value.int .i64 r111), (Value.int .i64 r112), (Value.int .i64 r113), (Value.int .i64 r114), (Value.int .i64 r115), (Value.int .i64 r116), (Value.int .i64 r117), (Value.bool r118), (Value.bool r119), (Value.slice r120.a r120.len r120.cap), (Value.slice r121.a r121.len r121.cap)] w124 a125 0 fun w126 =>
 let J127 : Bool → Prop := fun j128 =>
 (K j128 w126)
 (bif (r86 == 0) then
 (bif (r122 == 0) then
 Ld (.int .u8) w126 (a89.add 0) fun x129 =>
 Ld (.int .u8) w126 (a89.add 1) fun x130 =>
 Ld (.int .u8) w126 (a89.add 2) fun x131 =>
 Ld (.int .u8) w126 (a89.add 3) fun x132 =>
 Ld (.int .u8) w126 (a89.add 4) fun x133 =>
 Ld (.int .u8) w126 (a89.add 5) fun x134 =>
 Ld (.int .u8) w126 (a89.add 6) fun x135 =>
 Ld (.int .u8) w126 (a89.add 7) fun x136 =>
 Ld (.int .u8) w126 (a89.add 8) fun x137 =>
 Ld (.int .u8) w126 (a89.add 9) fun x138 =>
 Ld (.int .u8) w126 (a89.add 10) fun x139 =>
 Ld (.int .u8) w126 (a89.add 11) fun x140 =>
 Ld (.int .u8) w126 (a89.add 12) fun x141 =>
 Ld (.int .u8) w126 (a89.add 13) fun x142 =>
 Ld (.int .u8) w126 (a89.add 14) fun x143 =>
 Ld (.int .u8) w126 (a89.add 15) fun x144 =>
 Ld (.int .u8) w126 (a4.add 0) fun x145 =>
 Ld (.int .u8) w126 (a4.add 1) fun x146 =>
 Ld (.int .u8) w126 (a4.add 2) fun x147 =>
 Ld (.int .u8) w126 (a4.add 3) fun x148 =>
 Ld (.int .u8) w126 (a4.add 4) fun x149 =>
 Ld (.int .u8) w126 (a4.add 5) fun x150 =>
 Ld (.int .u8) w126 (a4.add 6) fun x151 =>
 Ld (.int .u8) w126 (a4.add 7) fun x152 =>
 Ld (.int .u8) w126 (a4.add 8) fun x153 =>
 Ld (.int .u8) w126 (a4.add 9) fun x154 =>
 Ld (.int .u8) w126 (a4.add 10) fun x155 =>
 Ld (.int .u8) w126 (a4.add 11) fun x156 =>
 Ld (.int .u8) w126 (a4.add 12) fun x157 =>
 Ld (.int .u8) w126 (a4.add 13) fun x158 =>
 Ld (.int .u8) w126 (a4.add 14) fun x159 =>
 Ld (.int .u8) w126 (a4.add 15) fun x160 =>
 (bif ((x129 == x145) && ((x130 == x146) && ((x131 == x147) && ((x132 == x148) && ((x133 == x149) && ((x134 == x150) && ((x135 == x151) && ((x136 == x152) && ((x137 == x153) && ((x138 == x154) && ((x139 == x155) && ((x140 == x156) && ((x141 == x157) && ((x142 == x158) && ((x143 == x159) && ((x144 == x160) && true)))))))))))))))) then
 Ld (.int .i64) w126 (a89.add 18) fun x161 =>
 (bif (x161 == 1360) then
 Ld (.int .i64) w126 (a125.add 6) fun x162 =>
 J127 (x162 == 167772161)
 else
 J127 false)
 else
 J127 false)
 else
 J127 false)
 else
 J127 false))
 Ld (.int .u8) w6.drew (a2.add 0) fun x163 =>
 Ld (.int .u8) w6.drew (a2.add 1) fun x164 =>
 Ld (.int .u8) w6.drew (a2.add 2) fun x165 =>
 Ld (.int .u8) w6.drew (a2.add 3) fun x166 =>
 Ld (.int .u8) w6.drew (a2.add 4) fun x167 =>
 Ld (.int .u8) w6.drew (a2.add 5) fun x168 =>
 Ld (.int .u8) w6.drew (a2.add 6) fun x169 =>
 Ld (.int .u8) w6.drew (a2.add 7) fun x170 =>
 Ld (.int .u8) w6.drew (a2.add 8) fun x171 =>
 Ld (.int .u8) w6.drew (a2.add 9) fun x172 =>
 Ld (.int .u8) w6.drew (a2.add 10) fun x173 =>
 Ld (.int .u8) w6.drew (a2.add 11) fun x174 =>
 Ld (.int .u8) w6.drew (a2.add 12) fun x175 =>
 Ld (.int .u8) w6.drew (a2.add 13) fun x176 =>
 Ld (.int .u8) w6.drew (a2.add 14) fun x177 =>
 Ld (.int .u8) w6.drew (a2.add 15) fun x178 =>
 Ld (.int .u8) w6.drew (a4.add 0) fun x179 =>
 Ld (.int .u8) w6.drew (a4.add 1) fun x180 =>
 Ld (.int .u8) w6.drew (a4.add 2) fun x181 =>
 Ld (.int .u8) w6.drew (a4.add 3) fun x182 =>
 Ld (.int .u8) w6.drew (a4.add 4) fun x183 =>
 Ld (.int .u8) w6.drew (a4.add 5) fun x184 =>
 Ld (.int .u8) w6.drew (a4.add 6) fun x185 =>
 Ld (.int .u8) w6.drew (a4.add 7) fun x186 =>
 Ld (.int .u8) w6.drew (a4.add 8) fun x187 =>
 Ld (.int .u8) w6.drew (a4.add 9) fun x188 =>
 Ld (.int .u8) w6.drew (a4.add 10) fun x189 =>
 Ld (.int .u8) w6.drew (a4.add 11) fun x190 =>
 Ld (.int .u8) w6.drew (a4.add 12) fun x191 =>
 Ld (.int .u8) w6.drew (a4.add 13) fun x192 =>
 Ld (.int .u8) w6.drew (a4.add 14) fun x193 =>
 Ld (.int .u8) w6.drew (a4.add 15) fun x194 =>
 (c_plain_Datagram 167772161 3221225985 5 6 9 ⟨none, 0, 0⟩ w6.drew fun r195 w196 =>
 w196.cell? (a4.add 0) = some (Value.int .u8 x179) ∧
 w196.cell? (a4.add 1) = some (Value.int .u8 x180) ∧
 w196.cell? (a4.add 2) = some (Value.int .u8 x181) ∧
 w196.cell? (a4.add 3) = some (Value.int .u8 x182) ∧
 w196.cell? (a4.add 4) = some (Value.int .u8 x183) ∧
 w196.cell? (a4.add 5) = some (Value.int .u8 x184) ∧
 w196.cell? (a4.add 6) = some (Value.int .u8 x185) ∧
 w196.cell? (a4.add 7) = some (Value.int .u8 x186) ∧
 w196.cell? (a4.add 8) = some (Value.int .u8 x187) ∧
 w196.cell? (a4.add 9) = some (Value.int .u8 x188) ∧
 w196.cell? (a4.add 10) = some (Value.int .u8 x189) ∧
 w196.cell? (a4.add 11) = some (Value.int .u8 x190) ∧
 w196.cell? (a4.add 12) = some (Value.int .u8 x191) ∧
 w196.cell? (a4.add 13) = some (Value.int .u8 x192) ∧
 w196.cell? (a4.add 14) = some (Value.int .u8 x193) ∧
 w196.cell? (a4.add 15) = some (Value.int .u8 x194) ∧
 w196.cell? (a2.add 0) = some (Value.int .u8 x163) ∧
 w196.cell? (a2.add 1) = some (Value.int .u8 x164) ∧
 w196.cell? (a2.add 2) = some (Value.int .u8 x165) ∧
 w196.cell? (a2.add 3) = some (Value.int .u8 x166) ∧
 w196.cell? (a2.add 4) = some (Value.int .u8 x167) ∧
 w196.cell? (a2.add 5) = some (Value.int .u8 x168) ∧
 w196.cell? (a2.add 6) = some (Value.int .u8 x169) ∧
 w196.cell? (a2.add 7) = some (Value.int .u8 x170) ∧
 w196.cell? (a2.add 8) = some (Value.int .u8 x171) ∧
 w196.cell? (a2.add 9) = some (Value.int .u8 x172) ∧
 w196.cell? (a2.add 10) = some (Value.int .u8 x173) ∧
 w196.cell? (a2.add 11) = some (Value.int .u8 x174) ∧
 w196.cell? (a2.add 12) = some (Value.int .u8 x175) ∧
 w196.cell? (a2.add 13) = some (Value.int .u8 x176) ∧
 w196.cell? (a2.add 14) = some (Value.int .u8 x177) ∧
 w196.cell? (a2.add 15) = some (Value.int .u8 x178) ∧
 (c_wrap_Wrap x163 x164 x165 x166 x167 x168 x169 x170 x171 x172 x173 x174 x175 x176 x177 x178 x179 x180 x181 x182 x183 x184 x185 x186 x187 x188 x189 x190 x191 x192 x193 x194 64 r195 w196 fun r197 r198 r199 r200 r201 r202 r203 r204 r205 r206 r207 r208 r209 r210 r211 r212 r213 r214 r215 r216 r217 r218 r219 r220 r221 r222 r223 r224 r225 r226 r227 r228 r229 r230 r231 r232 r233 r234 w235 =>
 Al w235 (.cells ⟨((Value.int .i64 0) :: (Value.int .i64 0) :: (Value.int .i64 0) :: (Value.int .i64 0) :: (Value.int .u8 0) :: (Value.int .u8 0) :: (Value.int .u8 0) :: (Value.int .u8 0) :: (Value.int .u8 0) :: (Value.int .u8 0) :: (Value.int .u8 0) :: (Value.int .u8 0) :: (Value.int .u8 0) :: (Value.int .u8 0) :: (Value.int .u8 0) :: (Value.int .u8 0) :: (Value.int .u8 0) :: (Value.int .u8 0) :: (Value.int .u8 0) :: (Value.int .u8 0) :: (Value.int .u8 0) :: (Value.int .u8 0) :: (Value.int .u8 0) :: (Value.int .u8 0) :: (Value.int .u8 0) :: (Value.int .u8 0) :: (Value.int .u8 0) :: (Value.int .u8 0) :: (Value.int .u8 0) :: (Value.int .u8 0) :: (Value.int .u8 0) :: (Value.int .u8 0) :: (Value.int .u8 0) :: (Value.int .u8 0) :: (Value.int .u8 0) :: (Value.int .u8 0) :: (Value.slice none 0 0) :: [])⟩ 33) fun a237 w236 =>
 w236.cell? (a4.add 0) = some (Value.int .u8 x179) ∧
 w236.cell? (a4.add 1) = some (Value.int .u8 x180) ∧
 w236.cell? (a4.add 2) = some (Value.int .u8 x181) ∧
 w236.cell? (a4.add 3) = some (Value.int .u8 x182) ∧
 w236.cell? (a4.add 4) = some (Value.int .u8 x183) ∧
 w236.cell? (a4.add 5) = some (Value.int .u8 x184) ∧
 w236.cell? (a4.add 6) = some (Value.int .u8 x185) ∧
 w236.cell? (a4.add 7) = some (Value.int .u8 x186) ∧
 w236.cell? (a4.add 8) = some (Value.int .u8 x187) ∧
 w236.cell? (a4.add 9) = some (Value.int .u8 x188) ∧
 w236.cell? (a4.add 10) = some (Value.int .u8 x189) ∧
 w236.cell? (a4.add 11) = some (Value.int .u8 x190) ∧
 w236.cell? (a4.add 12) = some (Value.int .u8 x191) ∧
 w236.cell? (a4.add 13) = some (Value.int .u8 x192) ∧
 w236.cell? (a4.add 14) = some (Value.int .u8 x193) ∧
 w236.cell? (a4.add 15) = some (Value.int .u8 x194) ∧
 w236.cell? (a2.add 0) = some (Value.int .u8 x163) ∧
 w236.cell? (a2.add 1) = some (Value.int .u8 x164) ∧
 w236.cell? (a2.add 2) = some (Value.int .u8 x165) ∧
 w236.cell? (a2.add 3) = some (Value.int .u8 x166) ∧
 w236.cell? (a2.add 4) = some (Value.int .u8 x167) ∧
 w236.cell? (a2.add 5) = some (Value.int .u8 x168) ∧
 w236.cell? (a2.add 6) = some (Value.int .u8 x169) ∧
 w236.cell? (a2.add 7) = some (Value.int .u8 x170) ∧
 w236.cell? (a2.add 8) = some (Value.int .u8 x171) ∧
 w236.cell? (a2.add 9) = some (Value.int .u8 x172) ∧
 w236.cell? (a2.add 10) = some (Value.int .u8 x173) ∧
 w236.cell? (a2.add 11) = some (Value.int .u8 x174) ∧
 w236.cell? (a2.add 12) = some (Value.int .u8 x175) ∧
 w236.cell? (a2.add 13) = some (Value.int .u8 x176) ∧
 w236.cell? (a2.add 14) = some (Value.int .u8 x177) ∧
 w236.cell? (a2.add 15) = some (Value.int .u8 x178) ∧
 StN ((Value.int .i64 r197) :: (Value.int .i64 r198) :: (Value.int .i64 r199) :: (Value.int .i64 r200) :: (Value.int .u8 r201) :: (Value.int .u8 r202) :: (Value.int .u8 r203) :: (Value.int .u8 r204) :: (Value.int .u8 r205) :: (Value.int .u8 r206) :: (Value.int .u8 r207) :: (Value.int .u8 r208) :: (Value.int .u8 r209) :: (Value.int .u8 r210) :: (Value.int .u8 r211) :: (Value.int .u8 r212) :: (Value.int .u8 r213) :: (Value.int .u8 r214) :: (Value.int .u8 r215) :: (Value.int .u8 r216) :: (Value.int .u8 r217) :: (Value.int .u8 r218) :: (Value.int .u8 r219) :: (Value.int .u8 r220) :: (Value.int .u8 r221) :: (Value.int .u8 r222) :: (Value.int .u8 r223) :: (Value.int .u8 r224) :: (Value.int .u8 r225) :: (Value.int .u8 r226) :: (Value.int .u8 r227) :: (Value.int .u8 r228) :: (Value.int .u8 r229) :: (Value.int .u8 r230) :: (Value.int .u8 r231) :: (Value.int .u8 r232) :: (Value.slice r233.a r233.len r233.cap) :: []) w236 a237 0 fun w238 =>
 J7 a237 w238) ∧
 (Al w196 (.cells ⟨((Value.int .i64 0) :: (Value.int .i64 0) :: (Value.int .i64 0) :: (Value.int .i64 0) :: (Value.int .u8 0) :: (Value.int .u8 0) :: (Value.int .u8 0) :: (Value.int .u8 0) :: (Value.int .u8 0) :: (Value.int .u8 0) :: (Value.int .u8 0) :: (Value.int .u8 0) :: (Value.int .u8 0) :: (Value.int .u8 0) :: (Value.int .u8 0) :: (Value.int .u8 0) :: (Value.int .u8 0) :: (Value.int .u8 0) :: (Value.int .u8 0) :: (Value.int .u8 0) :: (Value.int .u8 0) :: (Value.int .u8 0) :: (Value.int .u8 0) :: (Value.int .u8 0) :: (Value.int .u8 0) :: (Value.int .u8 0) :: (Value.int .u8 0) :: (Value.int .u8 0) :: (Value.int .u8 0) :: (Value.int .u8 0) :: (Value.int .u8 0) :: (Value.int .u8 0) :: (Value.int .u8 0) :: (Value.int .u8 0) :: (Value.int .u8 0) :: (Value.int .u8 0) :: (Value.slice none 0 0) :: [])⟩ 33) fun a240 w239 =>
 w239.cell? (a4.add 0) = some (Value.int .u8 x179) ∧
 w239.cell? (a4.add 1) = some (Value.int .u8 x180) ∧
 w239.cell? (a4.add 2) = some (Value.int .u8 x181) ∧
 w239.cell? (a4.add 3) = some (Value.int .u8 x182) ∧
 w239.cell? (a4.add 4) = some (Value.int .u8 x183) ∧
 w239.cell? (a4.add 5) = some (Value.int .u8 x184) ∧
 w239.cell? (a4.add 6) = some (Value.int .u8 x185) ∧
 w239.cell? (a4.add 7) = some (Value.int .u8 x186) ∧
 w239.cell? (a4.add 8) = some (Value.int .u8 x187) ∧
 w239.cell? (a4.add 9) = some (Value.int .u8 x188) ∧
 w239.cell? (a4.add 10) = some (Value.int .u8 x189) ∧
 w239.cell? (a4.add 11) = some (Value.int .u8 x190) ∧
 w239.cell? (a4.add 12) = some (Value.int .u8 x191) ∧
 w239.cell? (a4.add 13) = some (Value.int .u8 x192) ∧
 w239.cell? (a4.add 14) = some (Value.int .u8 x193) ∧
 w239.cell? (a4.add 15) = some (Value.int .u8 x194) ∧
 w239.cell? (a2.add 0) = some (Value.int .u8 x163) ∧
 w239.cell? (a2.add 1) = some (Value.int .u8 x164) ∧
 w239.cell? (a2.add 2) = some (Value.int .u8 x165) ∧
 w239.cell? (a2.add 3) = some (Value.int .u8 x166) ∧
 w239.cell? (a2.add 4) = some (Value.int .u8 x167) ∧
 w239.cell? (a2.add 5) = some (Value.int .u8 x168) ∧
 w239.cell? (a2.add 6) = some (Value.int .u8 x169) ∧
 w239.cell? (a2.add 7) = some (Value.int .u8 x170) ∧
 w239.cell? (a2.add 8) = some (Value.int .u8 x171) ∧
 w239.cell? (a2.add 9) = some (Value.int .u8 x172) ∧
 w239.cell? (a2.add 10) = some (Value.int .u8 x173) ∧
 w239.cell? (a2.add 11) = some (Value.int .u8 x174) ∧
 w239.cell? (a2.add 12) = some (Value.int .u8 x175) ∧
 w239.cell? (a2.add 13) = some (Value.int .u8 x176) ∧
 w239.cell? (a2.add 14) = some (Value.int .u8 x177) ∧
 w239.cell? (a2.add 15) = some (Value.int .u8 x178) ∧
 c_wrap_Wrap x163 x164 x165 x166 x167 x168 x169 x170 x171 x172 x173 x174 x175 x176 x177 x178 x179 x180 x181 x182 x183 x184 x185 x186 x187 x188 x189 x190 x191 x192 x193 x194 64 r195 w239 fun r241 r242 r243 r244 r245 r246 r247 r248 r249 r250 r251 r252 r253 r254 r255 r256 r257 r258 r259 r260 r261 r262 r263 r264 r265 r266 r267 r268 r269 r270 r271 r272 r273 r274 r275 r276 r277 r278 w279 =>
 StN ((Value.int .i64 r241) :: (Value.int .i64 r242) :: (Value.int .i64 r243) :: (Value.int .i64 r244) :: (Value.int .u8 r245) :: (Value.int .u8 r246) :: (Value.int .u8 r247) :: (Value.int .u8 r248) :: (Value.int .u8 r249) :: (Value.int .u8 r250) :: (Value.int .u8 r251) :: (Value.int .u8 r252) :: (Value.int .u8 r253) :: (Value.int .u8 r254) :: (Value.int .u8 r255) :: (Value.int .u8 r256) :: (Value.int .u8 r257) :: (Value.int .u8 r258) :: (Value.int .u8 r259) :: (Value.int .u8 r260) :: (Value.int .u8 r261) :: (Value.int .u8 r262) :: (Value.int .u8 r263) :: (Value.int .u8 r264) :: (Value.int .u8 r265) :: (Value.int .u8 r266) :: (Value.int .u8 r267) :: (Value.int .u8 r268) :: (Value.int .u8 r269) :: (Value.int .u8 r270) :: (Value.int .u8 r271) :: (Value.int .u8 r272) :: (Value.int .u8 r273) :: (Value.int .u8 r274) :: (Value.int .u8 r275) :: (Value.int .u8 r276) :: (Value.slice r277.a r277.len r277.cap) :: []) w279 a240 0 fun w280 =>
 J7 a240 w280)) ∧
 (Al w6.drew (.cells ⟨((Value.int .i64 0) :: (Value.int .i64 0) :: (Value.int .i64 0) :: (Value.int .i64 0) :: (Value.int .u8 0) :: (Value.int .u8 0) :: (Value.int .u8 0) :: (Value.int .u8 0) :: (Value.int .u8 0) :: (Value.int .u8 0) :: (Value.int .u8 0) :: (Value.int .u8 0) :: (Value.int .u8 0) :: (Value.int .u8 0) :: (Value.int .u8 0) :: (Value.int .u8 0) :: (Value.int .u8 0) :: (Value.int .u8 0) :: (Value.int .u8 0) :: (Value.int .u8 0) :: (Value.int .u8 0) :: (Value.int .u8 0) :: (Value.int .u8 0) :: (Value.int .u8 0) :: (Value.int .u8 0) :: (Value.int .u8 0) :: (Value.int .u8 0) :: (Value.int .u8 0) :: (Value.int .u8 0) :: (Value.int .u8 0) :: (Value.int .u8 0) :: (Value.int .u8 0) :: (Value.int .u8 0) :: (Value.int .u8 0) :: (Value.int .u8 0) :: (Value.int .u8 0) :: (Value.slice none 0 0) :: [])⟩ 33) fun a282 w281 =>
 w281.cell? (a4.add 0) = some (Value.int .u8 x179) ∧
 w281.cell? (a4.add 1) = some (Value.int .u8 x180) ∧
 w281.cell? (a4.add 2) = some (Value.int .u8 x181) ∧
 w281.cell? (a4.add 3) = some (Value.int .u8 x182) ∧
 w281.cell? (a4.add 4) = some (Value.int .u8 x183) ∧
 w281.cell? (a4.add 5) = some (Value.int .u8 x184) ∧
 w281.cell? (a4.add 6) = some (Value.int .u8 x185) ∧
 w281.cell? (a4.add 7) = some (Value.int .u8 x186) ∧
 w281.cell? (a4.add 8) = some (Value.int .u8 x187) ∧
 w281.cell? (a4.add 9) = some (Value.int .u8 x188) ∧
 w281.cell? (a4.add 10) = some (Value.int .u8 x189) ∧
 w281.cell? (a4.add 11) = some (Value.int .u8 x190) ∧
 w281.cell? (a4.add 12) = some (Value.int .u8 x191) ∧
 w281.cell? (a4.add 13) = some (Value.int .u8 x192) ∧
 w281.cell? (a4.add 14) = some (Value.int .u8 x193) ∧
 w281.cell? (a4.add 15) = some (Value.int .u8 x194) ∧
 w281.cell? (a2.add 0) = some (Value.int .u8 x163) ∧
 w281.cell? (a2.add 1) = some (Value.int .u8 x164) ∧
 w281.cell? (a2.add 2) = some (Value.int .u8 x165) ∧
 w281.cell? (a2.add 3) = some (Value.int .u8 x166) ∧
 w281.cell? (a2.add 4) = some (Value.int .u8 x167) ∧
 w281.cell? (a2.add 5) = some (Value.int .u8 x168) ∧
 w281.cell? (a2.add 6) = some (Value.int .u8 x169) ∧
 w281.cell? (a2.add 7) = some (Value.int .u8 x170) ∧
 w281.cell? (a2.add 8) = some (Value.int .u8 x171) ∧
 w281.cell? (a2.add 9) = some (Value.int .u8 x172) ∧
 w281.cell? (a2.add 10) = some (Value.int .u8 x173) ∧
 w281.cell? (a2.add 11) = some (Value.int .u8 x174) ∧
 w281.cell? (a2.add 12) = some (Value.int .u8 x175) ∧
 w281.cell? (a2.add 13) = some (Value.int .u8 x176) ∧
 w281.cell? (a2.add 14) = some (Value.int .u8 x177) ∧
 w281.cell? (a2.add 15) = some (Value.int .u8 x178) ∧
 c_plain_Datagram 167772161 3221225985 5 6 9 ⟨none, 0, 0⟩ w281 fun r283 w284 =>
 w284.cell? (a4.add 0) = some (Value.int .u8 x179) ∧
 w284.cell? (a4.add 1) = some (Value.int .u8 x180) ∧
 w284.cell? (a4.add 2) = some (Value.int .u8 x181) ∧
 w284.cell? (a4.add 3) = some (Value.int .u8 x182) ∧
 w284.cell? (a4.add 4) = some (Value.int .u8 x183) ∧
 w284.cell? (a4.add 5) = some (Value.int .u8 x184) ∧
 w284.cell? (a4.add 6) = some (Value.int .u8 x185) ∧
 w284.cell? (a4.add 7) = some (Value.int .u8 x186) ∧
 w284.cell? (a4.add 8) = some (Value.int .u8 x187) ∧
 w284.cell? (a4.add 9) = some (Value.int .u8 x188) ∧
 w284.cell? (a4.add 10) = some (Value.int .u8 x189) ∧
 w284.cell? (a4.add 11) = some (Value.int .u8 x190) ∧
 w284.cell? (a4.add 12) = some (Value.int .u8 x191) ∧
 w284.cell? (a4.add 13) = some (Value.int .u8 x192) ∧
 w284.cell? (a4.add 14) = some (Value.int .u8 x193) ∧
 w284.cell? (a4.add 15) = some (Value.int .u8 x194) ∧
 w284.cell? (a2.add 0) = some (Value.int .u8 x163) ∧
 w284.cell? (a2.add 1) = some (Value.int .u8 x164) ∧
 w284.cell? (a2.add 2) = some (Value.int .u8 x165) ∧
 w284.cell? (a2.add 3) = some (Value.int .u8 x166) ∧
 w284.cell? (a2.add 4) = some (Value.int .u8 x167) ∧
 w284.cell? (a2.add 5) = some (Value.int .u8 x168) ∧
 w284.cell? (a2.add 6) = some (Value.int .u8 x169) ∧
 w284.cell? (a2.add 7) = some (Value.int .u8 x170) ∧
 w284.cell? (a2.add 8) = some (Value.int .u8 x171) ∧
 w284.cell? (a2.add 9) = some (Value.int .u8 x172) ∧
 w284.cell? (a2.add 10) = some (Value.int .u8 x173) ∧
 w284.cell? (a2.add 11) = some (Value.int .u8 x174) ∧
 w284.cell? (a2.add 12) = some (Value.int .u8 x175) ∧
 w284.cell? (a2.add 13) = some (Value.int .u8 x176) ∧
 w284.cell? (a2.add 14) = some (Value.int .u8 x177) ∧
 w284.cell? (a2.add 15) = some (Value.int .u8 x178) ∧
 c_wrap_Wrap x163 x164 x165 x166 x167 x168 x169 x170 x171 x172 x173 x174 x175 x176 x177 x178 x179 x180 x181 x182 x183 x184 x185 x186 x187 x188 x189 x190 x191 x192 x193 x194 64 r283 w284 fun r285 r286 r287 r288 r289 r290 r291 r292 r293 r294 r295 r296 r297 r298 r299 r300 r301 r302 r303 r304 r305 r306 r307 r308 r309 r310 r311 r312 r313 r314 r315 r316 r317 r318 r319 r320 r321 r322 w323 =>
 StN ((Value.int .i64 r285) :: (Value.int .i64 r286) :: (Value.int .i64 r287) :: (Value.int .i64 r288) :: (Value.int .u8 r289) :: (Value.int .u8 r290) :: (Value.int .u8 r291) :: (Value.int .u8 r292) :: (Value.int .u8 r293) :: (Value.int .u8 r294) :: (Value.int .u8 r295) :: (Value.int .u8 r296) :: (Value.int .u8 r297) :: (Value.int .u8 r298) :: (Value.int .u8 r299) :: (Value.int .u8 r300) :: (Value.int .u8 r301) :: (Value.int .u8 r302) :: (Value.int .u8 r303) :: (Value.int .u8 r304) :: (Value.int .u8 r305) :: (Value.int .u8 r306) :: (Value.int .u8 r307) :: (Value.int .u8 r308) :: (Value.int .u8 r309) :: (Value.int .u8 r310) :: (Value.int .u8 r311) :: (Value.int .u8 r312) :: (Value.int .u8 r313) :: (Value.int .u8 r314) :: (Value.int .u8 r315) :: (Value.int .u8 r316) :: (Value.int .u8 r317) :: (Value.int .u8 r318) :: (Value.int .u8 r319) :: (Value.int .u8 r320) :: (Value.slice r321.a r321.len r321.cap) :: []) w323 a282 0 fun w324 =>
 J7 a282 w324))
theorem e_law30_awake  (w : World) (K : Bool → World → Prop) : den Try.prog 59 (bodyOf Try.f10) none (.seq .leaf (.seq .leaf (.seq .leaf (.seq .leaf (.seq .leaf (.seq .leaf (.seq .leaf .leaf))))))) (argEnv 0 []) [] w (retK Try.prog [.tmp 0] [.one .bool] K) = s_law30_awake  w K := by kernel_rfl
theorem ok_law30_awake { w K} (h : s_law30_awake  w K) : c_law30_awake  w K :=
  fn_sound pok Try.func10 (fn := Try.f10) (c := bodyOf Try.f10) (nt := 59) (by kernel_rfl) (by kernel_rfl) (rs := [.tmp 0]) (by kernel_rfl) [.one .bool] K (.seq .leaf (.seq .leaf (.seq .leaf (.seq .leaf (.seq .leaf (.seq .leaf (.seq .leaf .leaf))))))) [] (by kernel_rfl) w ((e_law30_awake  w K).mpr h)

/-- goosepond/relay.Of -/
def s_relay_Of (a0_0 : Int) (a0_1 : Int) (a0_2 : Int) (a0_3 : Int) (a0_4 : Int) (a0_5 : Int) (a0_6 : Int) (a0_7 : Int) (a0_8 : Int) (a0_9 : Int) (a0_10 : Int) (a0_11 : Int) (a0_12 : Int) (a0_13 : Int) (a0_14 : Int) (a0_15 : Int) (a1_0 : Int) (a1_1 : Int) (a1_2 : Int) (a1_3 : SliceV) (w : World) (K : Int → Int → Int → Int → Int → Int → Int → Int → Int → Int → Int → Int → Int → Int → Int → Int → Int → Int → Int → SliceV → Int → World → Prop) : Prop :=
 (Al w (.cells ⟨[(Value.int .u8 a0_0), (Value.int .u8 a0_1), (Value.int .u8 a0_2), (Value.int .u8 a0_3), (Value.int .u8 a0_4), (Value.int .u8 a0_5), (Value.int .u8 a0_6), (Value.int .u8 a0_7), (Value.int .u8 a0_8), (Value.int .u8 a0_9), (Value.int .u8 a0_10), (Value.int .u8 a0_11), (Value.int .u8 a0_12), (Value.int .u8 a0_13), (Value.int .u8 a0_14), (Value.int .u8 a0_15)]⟩ 27) fun a4 w3 =>
 Al w3 (.cells ⟨[(Value.int .i64 a1_0), (Value.int .i64 a1_1), (Value.int .i64 a1_2), (Value.slice a1_3.a a1_3.len a1_3.cap)]⟩ 44) fun a6 w5 =>
 Al w5 (.cells ⟨[(Value.int .u8 0), (Value.int .u8 0), (Value.int .u8 0), (Value.int .u8 0), (Value.int .u8 0), (Value.int .u8 0), (Value.int .u8 0), (Value.int .u8 0), (Value.int .u8 0), (Value.int .u8 0), (Value.int .u8 0), (Value.int .u8 0), (Value.int .u8 0), (Value.int .u8 0), (Value.int .u8 0), (Value.int .u8 0), (Value.int .i64 0), (Value.int .i64 0), (Value.int .i64 0), (Value.slice none 0 0)]⟩ 40) fun a8 w7 =>
 Ld (.int .i64) w7 a6 fun x9 =>
 Ld (.int .i64) w7 (a6.add 1) fun x10 =>
 Ld (.int .i64) w7 (a6.add 2) fun x11 =>
 c_relay_Table x9 x10 x11 w7 fun r12 r13 r14 r15 w16 =>
 (bif (!r15) then
 StN [(Value.int .u8 0), (Value.int .u8 0), (Value.int .u8 0), (Value.int .u8 0), (Value.int .u8 0), (Value.int .u8 0), (Value.int .u8 0), (Value.int .u8 0), (Value.int .u8 0), (Value.int .u8 0), (Value.int .u8 0), (Value.int .u8 0), (Value.int .u8 0), (Value.int .u8 0), (Value.int .u8 0), (Value.int .u8 0), (Value.int .i64 0), (Value.int .i64 0), (Value.int .i64 0), (Value.slice none 0 0)] w16 a8 0 fun w17 =>
 Ld (.int .u8) w17 (a8.add 0) fun y18 =>
 Ld (.int .u8) w17 (a8.add 1) fun y19 =>
 Ld (.int .u8) w17 (a8.add 2) fun y20 =>
 Ld (.int .u8) w17 (a8.add 3) fun y21 =>
 Ld (.int .u8) w17 (a8.add 4) fun y22 =>
 Ld (.int .u8) w17 (a8.add 5) fun y23 =>
 Ld (.int .u8) w17 (a8.add 6) fun y24 =>
 Ld (.int .u8) w17 (a8.add 7) fun y25 =>
 Ld (.int .u8) w17 (a8.add 8) fun y26 =>
 Ld (.int .u8) w17 (a8.add 9) fun y27 =>
 Ld (.int .u8) w17 (a8.add 10) fun y28 =>
 Ld (.int .u8) w17 (a8.add 11) fun y29 =>
 Ld (.int .u8) w17 (a8.add 12) fun y30 =>
 Ld (.int .u8) w17 (a8.add 13) fun y31 =>
 Ld (.int .u8) w17 (a8.add 14) fun y32 =>
 Ld (.int .u8) w17 (a8.add 15) fun y33 =>
 Ld (.int .i64) w17 (a8.add 16) fun y34 =>
 Ld (.int .i64) w17 (a8.add 17) fun y35 =>
 Ld (.int .i64) w17 (a8.add 18) fun y36 =>
 Ld .slice w17 (a8.add 19) fun y37 =>
 K y18 y19 y20 y21 y22 y23 y24 y25 y26 y27 y28 y29 y30 y31 y32 y33 y34 y35 y36 y37 8 w17
 else
 Ld (.int .u8) w16 (a4.add 0) fun x38 =>
 Ld (.int .u8) w16 (a4.add 1) fun x39 =>
 Ld (.int .u8) w16 (a4.add 2) fun x40 =>
 Ld (.int .u8) w16 (a4.add 3) fun x41 =>
 Ld (.int .u8) w16 (a4.add 4) fun x42 =>
 Ld (.int .u8) w16 (a4.add 5) fun x43 =>
 Ld (.int .u8) w16 (a4.add 6) fun x44 =>
 Ld (.int .u8) w16 (a4.add 7) fun x45 =>
 Ld (.int .u8) w16 (a4.add 8) fun x46 =>
 Ld (.int .u8) w16 (a4.add 9) fun x47 =>
 Ld (.int .u8) w16 (a4.add 10) fun x48 =>
 Ld (.int .u8) w16 (a4.add 11) fun x49 =>
 Ld (.int .u8) w16 (a4.add 12) fun x50 =>
 Ld (.int .u8) w16 (a4.add 13) fun x51 =>
 Ld (.int .u8) w16 (a4.add 14) fun x52 =>
 Ld (.int .u8) w16 (a4.add 15) fun x53 =>
 Ld .slice w16 (a6.add 3) fun x54 =>
 c_relay_sent x38 x39 x40 x41 x42 x43 x44 x45 x46 x47 x48 x49 x50 x51 x52 x53 x54 w16 fun r55 r56 r57 r58 r59 r60 r61 r62 r63 r64 r65 r66 r67 r68 r69 r70 r71 r72 w73 =>
 Al w73 (.cells ⟨[(Value.int .u8 0), (Value.int .u8 0), (Value.int .u8 0), (Value.int .u8 0), (Value.int .u8 0), (Value.int .u8 0), (Value.int .u8 0), (Value.int .u8 0), (Value.int .u8 0), (Value.int .u8 0), (Value.int .u8 0), (Value.int .u8 0), (Value.int .u8 0), (Value.int .u8 0), (Value.int .u8 0), (Value.int .u8 0)]⟩ 27) fun a75 w74 =>
 StN [(Value.int .u8 r55), (Value.int .u8 r56), (Value.int .u8 r57), (Value.int .u8 r58), (Value.int .u8 r59), (Value.int .u8 r60), (Value.int .u8 r61), (Value.int .u8 r62), (Value.int .u8 r63), (Value.int .u8 r64), (Value.int .u8 r65), (Value.int .u8 r66), (Value.int .u8 r67), (Value.int .u8 r68), (Value.int .u8 r69), (Value.int .u8 r70)] w74 a75 0 fun w76 =>
 (bif (r72 != 0) then
 StN [(Value.int .u8 0), (Value.int .u8 0), (Value.int .u8 0), (Value.int .u8 0), (Value.int .u8 0), (Value.int .u8 0), (Value.int .u8 0), (Value.int .u8 0), (Value.int .u8 0), (Value.int .u8 0), (Value.int .u8 0), (Value.int .u8 0), (Value.int .u8 0), (Value.int .u8 0), (Value.int .u8 0), (Value.int .u8 0), (Value.int .i64 0), (Value.int .i64 0), (Value.int .i64 0), (Value.slice none 0 0)] w76 a8 0 fun w77 =>
 Ld (.int .u8) w77 (a8.add 0) fun y78 =>
 Ld (.int .u8) w77 (a8.add 1) fun y79 =>
 Ld (.int .u8) w77 (a8.add 2) fun y80 =>
 Ld (.int .u8) w77 (a8.add 3) fun y81 =>
 Ld (.int .u8) w77 (a8.add 4) fun y82 =>
 Ld (.int .u8) w77 (a8.add 5) fun y83 =>
 Ld (.int .u8) w77 (a8.add 6) fun y84 =>
 Ld (.int .u8) w77 (a8.add 7) fun y85 =>
 Ld (.int .u8) w77 (a8.add 8) fun y86 =>
 Ld (.int .u8) w77 (a8.add 9) fun y87 =>
 Ld (.int .u8) w77 (a8.add 10) fun y88 =>
 Ld (.int .u8) w77 (a8.add 11) fun y89 =>
 Ld (.int .u8) w77 (a8.add 12) fun y90 =>
 Ld (.int .u8) w77 (a8.add 13) fun y91 =>
 Ld (.int .u8) w77 (a8.add 14) fun y92 =>
 Ld (.int .u8) w77 (a8.add 15) fun y93 =>
 Ld (.int .i64) w77 (a8.add 16) fun y94 =>
 Ld (.int .i64) w77 (a8.add 17) fun y95 =>
 Ld (.int .i64) w77 (a8.add 18) fun y96 =>
 Ld .slice w77 (a8.add 19) fun y97 =>
 K y78 y79 y80 y81 y82 y83 y84 y85 y86 y87 y88 y89 y90 y91 y92 y93 y94 y95 y96 y97 r72 w77
 else
 Ld (.int .u8) w76 (a75.add 0) fun x98 =>
 Ld (.int .u8) w76 (a75.add 1) fun x99 =>
 Ld (.int .u8) w76 (a75.add 2) fun x100 =>
 Ld (.int .u8) w76 (a75.add 3) fun x101 =>
 Ld (.int .u8) w76 (a75.add 4) fun x102 =>
 Ld (.int .u8) w76 (a75.add 5) fun x103 =>
 Ld (.int .u8) w76 (a75.add 6) fun x104 =>
 Ld (.int .u8) w76 (a75.add 7) fun x105 =>
 Ld (.int .u8) w76 (a75.add 8) fun x106 =>
 Ld (.int .u8) w76 (a75.add 9) fun x107 =>
 Ld (.int .u8) w76 (a75.add 10) fun x108 =>
 Ld (.int .u8) w76 (a75.add 11) fun x109 =>
 Ld (.int .u8) w76 (a75.add 12) fun x110 =>
 Ld (.int .u8) w76 (a75.add 13) fun x111 =>
 Ld (.int .u8) w76 (a75.add 14) fun x112 =>
 Ld (.int .u8) w76 (a75.add 15) fun x113 =>
 StN [(Value.int .u8 x98), (Value.int .u8 x99), (Value.int .u8 x100), (Value.int .u8 x101), (Value.int .u8 x102), (Value.int .u8 x103), (Value.int .u8 x104), (Value.int .u8 x105), (Value.int .u8 x106), (Value.int .u8 x107), (Value.int .u8 x108), (Value.int .u8 x109), (Value.int .u8 x110), (Value.int .u8 x111), (Value.int .u8 x112), (Value.int .u8 x113), (Value.int .i64 r12), (Value.int .i64 r13), (Value.int .i64 r14), (Value.slice r71.a r71.len r71.cap)] w76 a8 0 fun w114 =>
 Ld (.int .u8) w114 (a8.add 0) fun y115 =>
 Ld (.int .u8) w114 (a8.add 1) fun y116 =>
 Ld (.int .u8) w114 (a8.add 2) fun y117 =>
 Ld (.int .u8) w114 (a8.add 3) fun y118 =>
 Ld (.int .u8) w114 (a8.add 4) fun y119 =>
 Ld (.int .u8) w114 (a8.add 5) fun y120 =>
 Ld (.int .u8) w114 (a8.add 6) fun y121 =>
 Ld (.int .u8) w114 (a8.add 7) fun y122 =>
 Ld (.int .u8) w114 (a8.add 8) fun y123 =>
 Ld (.int .u8) w114 (a8.add 9) fun y124 =>
 Ld (.int .u8) w114 (a8.add 10) fun y125 =>
 Ld (.int .u8) w114 (a8.add 11) fun y126 =>
 Ld (.int .u8) w114 (a8.add 12) fun y127 =>
 Ld (.int .u8) w114 (a8.add 13) fun y128 =>
 Ld (.int .u8) w114 (a8.add 14) fun y129 =>
 Ld (.int .u8) w114 (a8.add 15) fun y130 =>
 Ld (.int .i64) w114 (a8.add 16) fun y131 =>
 Ld (.int .i64) w114 (a8.add 17) fun y132 =>
 Ld (.int .i64) w114 (a8.add 18) fun y133 =>
 Ld .slice w114 (a8.add 19) fun y134 =>
 K y115 y116 y117 y118 y119 y120 y121 y122 y123 y124 y125 y126 y127 y128 y129 y130 y131 y132 y133 y134 0 w114)))
theorem e_relay_Of (a0_0 : Int) (a0_1 : Int) (a0_2 : Int) (a0_3 : Int) (a0_4 : Int) (a0_5 : Int) (a0_6 : Int) (a0_7 : Int) (a0_8 : Int) (a0_9 : Int) (a0_10 : Int) (a0_11 : Int) (a0_12 : Int) (a0_13 : Int) (a0_14 : Int) (a0_15 : Int) (a1_0 : Int) (a1_1 : Int) (a1_2 : Int) (a1_3 : SliceV) (w : World) (K : Int → Int → Int → Int → Int → Int → Int → Int → Int → Int → Int → Int → Int → Int → Int → Int → Int → Int → Int → SliceV → Int → World → Prop) : den Try.prog 46 (bodyOf Try.f14) none (.seq .leaf (.seq .leaf (.seq (.seq .leaf (.cond (.seq .leaf .leaf) .leaf)) (.seq .leaf (.seq (.seq .leaf (.cond (.seq .leaf .leaf) .leaf)) (.seq .leaf .leaf)))))) (argEnv 0 [(Value.agg ⟨[(Value.int .u8 a0_0), (Value.int .u8 a0_1), (Value.int .u8 a0_2), (Value.int .u8 a0_3), (Value.int .u8 a0_4), (Value.int .u8 a0_5), (Value.int .u8 a0_6), (Value.int .u8 a0_7), (Value.int .u8 a0_8), (Value.int .u8 a0_9), (Value.int .u8 a0_10), (Value.int .u8 a0_11), (Value.int .u8 a0_12), (Value.int .u8 a0_13), (Value.int .u8 a0_14), (Value.int .u8 a0_15)]⟩), (Value.agg ⟨[(Value.int .i64 a1_0), (Value.int .i64 a1_1), (Value.int .i64 a1_2), (Value.slice a1_3.a a1_3.len a1_3.cap)]⟩)]) [] w (retK Try.prog [.cell 4 40, .tmp 5] [.agg [(.int .u8), (.int .u8), (.int .u8), (.int .u8), (.int .u8), (.int .u8), (.int .u8), (.int .u8), (.int .u8), (.int .u8), (.int .u8), (.int .u8), (.int .u8), (.int .u8), (.int .u8), (.int .u8), (.int .i64), (.int .i64), (.int .i64), .slice], .one (.int .i64)] K) = s_relay_Of a0_0 a0_1 a0_2 a0_3 a0_4 a0_5 a0_6 a0_7 a0_8 a0_9 a0_10 a0_11 a0_12 a0_13 a0_14 a0_15 a1_0 a1_1 a1_2 a1_3 w K := by kernel_rfl
theorem ok_relay_Of {a0_0 a0_1 a0_2 a0_3 a0_4 a0_5 a0_6 a0_7 a0_8 a0_9 a0_10 a0_11 a0_12 a0_13 a0_14 a0_15 a1_0 a1_1 a1_2 a1_3 w K} (h : s_relay_Of a0_0 a0_1 a0_2 a0_3 a0_4 a0_5 a0_6 a0_7 a0_8 a0_9 a0_10 a0_11 a0_12 a0_13 a0_14 a0_15 a1_0 a1_1 a1_2 a1_3 w K) : c_relay_Of a0_0 a0_1 a0_2 a0_3 a0_4 a0_5 a0_6 a0_7 a0_8 a0_9 a0_10 a0_11 a0_12 a0_13 a0_14 a0_15 a1_0 a1_1 a1_2 a1_3 w K := by
  have t := fn_sound pok Try.func14 (fn := Try.f14) (c := bodyOf Try.f14) (nt := 46) (by kernel_rfl) (by kernel_rfl) (rs := [.cell 4 40, .tmp 5]) (by kernel_rfl) [.agg [(.int .u8), (.int .u8), (.int .u8), (.int .u8), (.int .u8), (.int .u8), (.int .u8), (.int .u8), (.int .u8), (.int .u8), (.int .u8), (.int .u8), (.int .u8), (.int .u8), (.int .u8), (.int .u8), (.int .i64), (.int .i64), (.int .i64), .slice], .one (.int .i64)] K (.seq .leaf (.seq .leaf (.seq (.seq .leaf (.cond (.seq .leaf .leaf) .leaf)) (.seq .leaf (.seq (.seq .leaf (.cond (.seq .leaf .leaf) .leaf)) (.seq .leaf .leaf)))))) [(Value.agg ⟨[(Value.int .u8 a0_0), (Value.int .u8 a0_1), (Value.int .u8 a0_2), (Value.int .u8 a0_3), (Value.int .u8 a0_4), (Value.int .u8 a0_5), (Value.int .u8 a0_6), (Value.int .u8 a0_7), (Value.int .u8 a0_8), (Value.int .u8 a0_9), (Value.int .u8 a0_10), (Value.int .u8 a0_11), (Value.int .u8 a0_12), (Value.int .u8 a0_13), (Value.int .u8 a0_14), (Value.int .u8 a0_15)]⟩), (Value.agg ⟨[(Value.int .i64 a1_0), (Value.int .i64 a1_1), (Value.int .i64 a1_2), (Value.slice a1_3.a a1_3.len a1_3.cap)]⟩)] (by kernel_rfl) w ((e_relay_Of a0_0 a0_1 a0_2 a0_3 a0_4 a0_5 a0_6 a0_7 a0_8 a0_9 a0_10 a0_11 a0_12 a0_13 a0_14 a0_15 a1_0 a1_1 a1_2 a1_3 w K).mpr h)
  exact Eq.mp (by kernel_rfl) t

/-- goosepond/relay.Packet -/
def s_relay_Packet (a0 : Int) (a1_0 : Int) (a1_1 : Int) (a1_2 : Int) (a1_3 : Int) (a1_4 : Int) (a1_5 : Int) (a1_6 : Int) (a1_7 : Int) (a1_8 : Int) (a1_9 : Int) (a1_10 : Int) (a1_11 : Int) (a1_12 : Int) (a1_13 : Int) (a1_14 : Int) (a1_15 : Int) (a1_16 : Int) (a1_17 : Int) (a1_18 : Int) (a1_19 : SliceV) (w : World) (K : Int → Int → Int → Int → Int → Int → Int → Bool → Bool → SliceV → SliceV → Int → World → Prop) : Prop :=
 (Al w (.cells ⟨[(Value.int .u8 a1_0), (Value.int .u8 a1_1), (Value.int .u8 a1_2), (Value.int .u8 a1_3), (Value.int .u8 a1_4), (Value.int .u8 a1_5), (Value.int .u8 a1_6), (Value.int .u8 a1_7), (Value.int .u8 a1_8), (Value.int .u8 a1_9), (Value.int .u8 a1_10), (Value.int .u8 a1_11), (Value.int .u8 a1_12), (Value.int .u8 a1_13), (Value.int .u8 a1_14), (Value.int .u8 a1_15), (Value.int .i64 a1_16), (Value.int .i64 a1_17), (Value.int .i64 a1_18), (Value.slice a1_19.a a1_19.len a1_19.cap)]⟩ 40) fun a4 w3 =>
 Al w3 (.cells ⟨[(Value.int .i64 0), (Value.int .i64 0), (Value.int .i64 0), (Value.int .i64 0), (Value.int .i64 0), (Value.int .i64 0), (Value.int .i64 0), (Value.bool false), (Value.bool false), (Value.slice none 0 0), (Value.slice none 0 0)]⟩ 46) fun a6 w5 =>
 Ld (.int .i64) w5 (a4.add 16) fun x7 =>
 Ld (.int .i64) w5 (a4.add 17) fun x8 =>
 Ld (.int .i64) w5 (a4.add 18) fun x9 =>
 Ld .slice w5 (a4.add 19) fun x10 =>
 c_errs_Make a0 x7 x8 x9 x10 w5 fun r11 r12 r13 r14 r15 r16 r17 r18 r19 r20 r21 r22 w23 =>
 StN [(Value.int .i64 r11), (Value.int .i64 r12), (Value.int .i64 r13), (Value.int .i64 r14), (Value.int .i64 r15), (Value.int .i64 r16), (Value.int .i64 r17), (Value.bool r18), (Value.bool r19), (Value.slice r20.a r20.len r20.cap), (Value.slice r21.a r21.len r21.cap)] w23 a6 0 fun w24 =>
 Ld (.int .i64) w24 (a6.add 0) fun y25 =>
 Ld (.int .i64) w24 (a6.add 1) fun y26 =>
 Ld (.int .i64) w24 (a6.add 2) fun y27 =>
 Ld (.int .i64) w24 (a6.add 3) fun y28 =>
 Ld (.int .i64) w24 (a6.add 4) fun y29 =>
 Ld (.int .i64) w24 (a6.add 5) fun y30 =>
 Ld (.int .i64) w24 (a6.add 6) fun y31 =>
 Ld .bool w24 (a6.add 7) fun y32 =>
 Ld .bool w24 (a6.add 8) fun y33 =>
 Ld .slice w24 (a6.add 9) fun y34 =>
 Ld .slice w24 (a6.add 10) fun y35 =>
 K y25 y26 y27 y28 y29 y30 y31 y32 y33 y34 y35 r22 w24)
theorem e_relay_Packet (a0 : Int) (a1_0 : Int) (a1_1 : Int) (a1_2 : Int) (a1_3 : Int) (a1_4 : Int) (a1_5 : Int) (a1_6 : Int) (a1_7 : Int) (a1_8 : Int) (a1_9 : Int) (a1_10 : Int) (a1_11 : Int) (a1_12 : Int) (a1_13 : Int) (a1_14 : Int) (a1_15 : Int) (a1_16 : Int) (a1_17 : Int) (a1_18 : Int) (a1_19 : SliceV) (w : World) (K : Int → Int → Int → Int → Int → Int → Int → Bool → Bool → SliceV → SliceV → Int → World → Prop) : den Try.prog 18 (bodyOf Try.f15) none (.seq .leaf (.seq .leaf .leaf)) (argEnv 0 [(Value.int .i64 a0), (Value.agg ⟨[(Value.int .u8 a1_0), (Value.int .u8 a1_1), (Value.int .u8 a1_2), (Value.int .u8 a1_3), (Value.int .u8 a1_4), (Value.int .u8 a1_5), (Value.int .u8 a1_6), (Value.int .u8 a1_7), (Value.int .u8 a1_8), (Value.int .u8 a1_9), (Value.int .u8 a1_10), (Value.int .u8 a1_11), (Value.int .u8 a1_12), (Value.int .u8 a1_13), (Value.int .u8 a1_14), (Value.int .u8 a1_15), (Value.int .i64 a1_16), (Value.int .i64 a1_17), (Value.int .i64 a1_18), (Value.slice a1_19.a a1_19.len a1_19.cap)]⟩)]) [] w (retK Try.prog [.cell 4 46, .tmp 5] [.agg [(.int .i64), (.int .i64), (.int .i64), (.int .i64), (.int .i64), (.int .i64), (.int .i64), .bool, .bool, .slice, .slice], .one (.int .i64)] K) = s_relay_Packet a0 a1_0 a1_1 a1_2 a1_3 a1_4 a1_5 a1_6 a1_7 a1_8 a1_9 a1_10 a1_11 a1_12 a1_13 a1_14 a1_15 a1_16 a1_17 a1_18 a1_19 w K := by kernel_rfl
theorem ok_relay_Packet {a0 a1_0 a1_1 a1_2 a1_3 a1_4 a1_5 a1_6 a1_7 a1_8 a1_9 a1_10 a1_11 a1_12 a1_13 a1_14 a1_15 a1_16 a1_17 a1_18 a1_19 w K} (h : s_relay_Packet a0 a1_0 a1_1 a1_2 a1_3 a1_4 a1_5 a1_6 a1_7 a1_8 a1_9 a1_10 a1_11 a1_12 a1_13 a1_14 a1_15 a1_16 a1_17 a1_18 a1_19 w K) : c_relay_Packet a0 a1_0 a1_1 a1_2 a1_3 a1_4 a1_5 a1_6 a1_7 a1_8 a1_9 a1_10 a1_11 a1_12 a1_13 a1_14 a1_15 a1_16 a1_17 a1_18 a1_19 w K :=
  fn_sound pok Try.func15 (fn := Try.f15) (c := bodyOf Try.f15) (nt := 18) (by kernel_rfl) (by kernel_rfl) (rs := [.cell 4 46, .tmp 5]) (by kernel_rfl) [.agg [(.int .i64), (.int .i64), (.int .i64), (.int .i64), (.int .i64), (.int .i64), (.int .i64), .bool, .bool, .slice, .slice], .one (.int .i64)] K (.seq .leaf (.seq .leaf .leaf)) [(Value.int .i64 a0), (Value.agg ⟨[(Value.int .u8 a1_0), (Value.int .u8 a1_1), (Value.int .u8 a1_2), (Value.int .u8 a1_3), (Value.int .u8 a1_4), (Value.int .u8 a1_5), (Value.int .u8 a1_6), (Value.int .u8 a1_7), (Value.int .u8 a1_8), (Value.int .u8 a1_9), (Value.int .u8 a1_10), (Value.int .u8 a1_11), (Value.int .u8 a1_12), (Value.int .u8 a1_13), (Value.int .u8 a1_14), (Value.int .u8 a1_15), (Value.int .i64 a1_16), (Value.int .i64 a1_17), (Value.int .i64 a1_18), (Value.slice a1_19.a a1_19.len a1_19.cap)]⟩)] (by kernel_rfl) w ((e_relay_Packet a0 a1_0 a1_1 a1_2 a1_3 a1_4 a1_5 a1_6 a1_7 a1_8 a1_9 a1_10 a1_11 a1_12 a1_13 a1_14 a1_15 a1_16 a1_17 a1_18 a1_19 w K).mpr h)

/-- goosepond/goosepondref30.Of -/
def s_ref30_Of (a0_0 : Int) (a0_1 : Int) (a0_2 : Int) (a0_3 : Int) (a0_4 : Int) (a0_5 : Int) (a0_6 : Int) (a0_7 : Int) (a0_8 : Int) (a0_9 : Int) (a0_10 : Int) (a0_11 : Int) (a0_12 : Int) (a0_13 : Int) (a0_14 : Int) (a0_15 : Int) (a1_0 : Int) (a1_1 : Int) (a1_2 : Int) (a1_3 : SliceV) (w : World) (K : Int → Int → Int → Int → Int → Int → Int → Int → Int → Int → Int → Int → Int → Int → Int → Int → Int → Int → Int → SliceV → Int → World → Prop) : Prop :=
 (Al w (.cells ⟨[(Value.int .u8 a0_0), (Value.int .u8 a0_1), (Value.int .u8 a0_2), (Value.int .u8 a0_3), (Value.int .u8 a0_4), (Value.int .u8 a0_5), (Value.int .u8 a0_6), (Value.int .u8 a0_7), (Value.int .u8 a0_8), (Value.int .u8 a0_9), (Value.int .u8 a0_10), (Value.int .u8 a0_11), (Value.int .u8 a0_12), (Value.int .u8 a0_13), (Value.int .u8 a0_14), (Value.int .u8 a0_15)]⟩ 27) fun a4 w3 =>
 Al w3 (.cells ⟨[(Value.int .i64 a1_0), (Value.int .i64 a1_1), (Value.int .i64 a1_2), (Value.slice a1_3.a a1_3.len a1_3.cap)]⟩ 44) fun a6 w5 =>
 Al w5 (.cells ⟨[(Value.int .u8 0), (Value.int .u8 0), (Value.int .u8 0), (Value.int .u8 0), (Value.int .u8 0), (Value.int .u8 0), (Value.int .u8 0), (Value.int .u8 0), (Value.int .u8 0), (Value.int .u8 0), (Value.int .u8 0), (Value.int .u8 0), (Value.int .u8 0), (Value.int .u8 0), (Value.int .u8 0), (Value.int .u8 0), (Value.int .i64 0), (Value.int .i64 0), (Value.int .i64 0), (Value.slice none 0 0)]⟩ 52) fun a8 w7 =>
 Ld (.int .i64) w7 a6 fun x9 =>
 Ld (.int .i64) w7 (a6.add 1) fun x10 =>
 Ld (.int .i64) w7 (a6.add 2) fun x11 =>
 c_ref30_Table x9 x10 x11 w7 fun r12 r13 r14 r15 w16 =>
 (bif (!r15) then
 StN [(Value.int .u8 0), (Value.int .u8 0), (Value.int .u8 0), (Value.int .u8 0), (Value.int .u8 0), (Value.int .u8 0), (Value.int .u8 0), (Value.int .u8 0), (Value.int .u8 0), (Value.int .u8 0), (Value.int .u8 0), (Value.int .u8 0), (Value.int .u8 0), (Value.int .u8 0), (Value.int .u8 0), (Value.int .u8 0), (Value.int .i64 0), (Value.int .i64 0), (Value.int .i64 0), (Value.slice none 0 0)] w16 a8 0 fun w17 =>
 Ld (.int .u8) w17 (a8.add 0) fun y18 =>
 Ld (.int .u8) w17 (a8.add 1) fun y19 =>
 Ld (.int .u8) w17 (a8.add 2) fun y20 =>
 Ld (.int .u8) w17 (a8.add 3) fun y21 =>
 Ld (.int .u8) w17 (a8.add 4) fun y22 =>
 Ld (.int .u8) w17 (a8.add 5) fun y23 =>
 Ld (.int .u8) w17 (a8.add 6) fun y24 =>
 Ld (.int .u8) w17 (a8.add 7) fun y25 =>
 Ld (.int .u8) w17 (a8.add 8) fun y26 =>
 Ld (.int .u8) w17 (a8.add 9) fun y27 =>
 Ld (.int .u8) w17 (a8.add 10) fun y28 =>
 Ld (.int .u8) w17 (a8.add 11) fun y29 =>
 Ld (.int .u8) w17 (a8.add 12) fun y30 =>
 Ld (.int .u8) w17 (a8.add 13) fun y31 =>
 Ld (.int .u8) w17 (a8.add 14) fun y32 =>
 Ld (.int .u8) w17 (a8.add 15) fun y33 =>
 Ld (.int .i64) w17 (a8.add 16) fun y34 =>
 Ld (.int .i64) w17 (a8.add 17) fun y35 =>
 Ld (.int .i64) w17 (a8.add 18) fun y36 =>
 Ld .slice w17 (a8.add 19) fun y37 =>
 K y18 y19 y20 y21 y22 y23 y24 y25 y26 y27 y28 y29 y30 y31 y32 y33 y34 y35 y36 y37 8 w17
 else
 Ld .slice w16 (a6.add 3) fun x38 =>
 c_ref06_Quoted x38 w16 fun r39 r40 r41 r42 r43 r44 r45 r46 r47 r48 r49 r50 r51 r52 r53 r54 r55 r56 r57 r58 r59 r60 r61 r62 r63 r64 r65 r66 r67 r68 r69 r70 r71 r72 r73 r74 r75 r76 w77 =>
 Al w77 (.cells ⟨((Value.int .i64 0) :: (Value.int .i64 0) :: (Value.int .i64 0) :: (Value.int .i64 0) :: (Value.int .u8 0) :: (Value.int .u8 0) :: (Value.int .u8 0) :: (Value.int .u8 0) :: (Value.int .u8 0) :: (Value.int .u8 0) :: (Value.int .u8 0) :: (Value.int .u8 0) :: (Value.int .u8 0) :: (Value.int .u8 0) :: (Value.int .u8 0) :: (Value.int .u8 0) :: (Value.int .u8 0) :: (Value.int .u8 0) :: (Value.int .u8 0) :: (Value.int .u8 0) :: (Value.int .u8 0) :: (Value.int .u8 0) :: (Value.int .u8 0) :: (Value.int .u8 0) :: (Value.int .u8 0) :: (Value.int .u8 0) :: (Value.int .u8 0) :: (Value.int .u8 0) :: (Value.int .u8 0) :: (Value.int .u8 0) :: (Value.int .u8 0) :: (Value.int .u8 0) :: (Value.int .u8 0) :: (Value.int .u8 0) :: (Value.int .u8 0) :: (Value.int .u8 0) :: (Value.slice none 0 0) :: [])⟩ 33) fun a79 w78 =>
 StN ((Value.int .i64 r39) :: (Value.int .i64 r40) :: (Value.int .i64 r41) :: (Value.int .i64 r42) :: (Value.int .u8 r43) :: (Value.int .u8 r44) :: (Value.int .u8 r45) :: (Value.int .u8 r46) :: (Value.int .u8 r47) :: (Value.int .u8 r48) :: (Value.int .u8 r49) :: (Value.int .u8 r50) :: (Value.int .u8 r51) :: (Value.int .u8 r52) :: (Value.int .u8 r53) :: (Value.int .u8 r54) :: (Value.int .u8 r55) :: (Value.int .u8 r56) :: (Value.int .u8 r57) :: (Value.int .u8 r58) :: (Value.int .u8 r59) :: (Value.int .u8 r60) :: (Value.int .u8 r61) :: (Value.int .u8 r62) :: (Value.int .u8 r63) :: (Value.int .u8 r64) :: (Value.int .u8 r65) :: (Value.int .u8 r66) :: (Value.int .u8 r67) :: (Value.int .u8 r68) :: (Value.int .u8 r69) :: (Value.int .u8 r70) :: (Value.int .u8 r71) :: (Value.int .u8 r72) :: (Value.int .u8 r73) :: (Value.int .u8 r74) :: (Value.slice r75.a r75.len r75.cap) :: []) w78 a79 0 fun w80 =>
 (bif (r76 != 0) then
 StN [(Value.int .u8 0), (Value.int .u8 0), (Value.int .u8 0), (Value.int .u8 0), (Value.int .u8 0), (Value.int .u8 0), (Value.int .u8 0), (Value.int .u8 0), (Value.int .u8 0), (Value.int .u8 0), (Value.int .u8 0), (Value.int .u8 0), (Value.int .u8 0), (Value.int .u8 0), (Value.int .u8 0), (Value.int .u8 0), (Value.int .i64 0), (Value.int .i64 0), (Value.int .i64 0), (Value.slice none 0 0)] w80 a8 0 fun w81 =>
 Ld (.int .u8) w81 (a8.add 0) fun y82 =>
 Ld (.int .u8) w81 (a8.add 1) fun y83 =>
 Ld (.int .u8) w81 (a8.add 2) fun y84 =>
 Ld (.int .u8) w81 (a8.add 3) fun y85 =>
 Ld (.int .u8) w81 (a8.add 4) fun y86 =>
 Ld (.int .u8) w81 (a8.add 5) fun y87 =>
 Ld (.int .u8) w81 (a8.add 6) fun y88 =>
 Ld (.int .u8) w81 (a8.add 7) fun y89 =>
 Ld (.int .u8) w81 (a8.add 8) fun y90 =>
 Ld (.int .u8) w81 (a8.add 9) fun y91 =>
 Ld (.int .u8) w81 (a8.add 10) fun y92 =>
 Ld (.int .u8) w81 (a8.add 11) fun y93 =>
 Ld (.int .u8) w81 (a8.add 12) fun y94 =>
 Ld (.int .u8) w81 (a8.add 13) fun y95 =>
 Ld (.int .u8) w81 (a8.add 14) fun y96 =>
 Ld (.int .u8) w81 (a8.add 15) fun y97 =>
 Ld (.int .i64) w81 (a8.add 16) fun y98 =>
 Ld (.int .i64) w81 (a8.add 17) fun y99 =>
 Ld (.int .i64) w81 (a8.add 18) fun y100 =>
 Ld .slice w81 (a8.add 19) fun y101 =>
 K y82 y83 y84 y85 y86 y87 y88 y89 y90 y91 y92 y93 y94 y95 y96 y97 y98 y99 y100 y101 r76 w81
 else
 Ld (.int .u8) w80 ((a79.add 4).add 0) fun x102 =>
 Ld (.int .u8) w80 ((a79.add 4).add 1) fun x103 =>
 Ld (.int .u8) w80 ((a79.add 4).add 2) fun x104 =>
 Ld (.int .u8) w80 ((a79.add 4).add 3) fun x105 =>
 Ld (.int .u8) w80 ((a79.add 4).add 4) fun x106 =>
 Ld (.int .u8) w80 ((a79.add 4).add 5) fun x107 =>
 Ld (.int .u8) w80 ((a79.add 4).add 6) fun x108 =>
 Ld (.int .u8) w80 ((a79.add 4).add 7) fun x109 =>
 Ld (.int .u8) w80 ((a79.add 4).add 8) fun x110 =>
 Ld (.int .u8) w80 ((a79.add 4).add 9) fun x111 =>
 Ld (.int .u8) w80 ((a79.add 4).add 10) fun x112 =>
 Ld (.int .u8) w80 ((a79.add 4).add 11) fun x113 =>
 Ld (.int .u8) w80 ((a79.add 4).add 12) fun x114 =>
 Ld (.int .u8) w80 ((a79.add 4).add 13) fun x115 =>
 Ld (.int .u8) w80 ((a79.add 4).add 14) fun x116 =>
 Ld (.int .u8) w80 ((a79.add 4).add 15) fun x117 =>
 Ld (.int .u8) w80 (a4.add 0) fun x118 =>
 Ld (.int .u8) w80 (a4.add 1) fun x119 =>
 Ld (.int .u8) w80 (a4.add 2) fun x120 =>
 Ld (.int .u8) w80 (a4.add 3) fun x121 =>
 Ld (.int .u8) w80 (a4.add 4) fun x122 =>
 Ld (.int .u8) w80 (a4.add 5) fun x123 =>
 Ld (.int .u8) w80 (a4.add 6) fun x124 =>
 Ld (.int .u8) w80 (a4.add 7) fun x125 =>
 Ld (.int .u8) w80 (a4.add 8) fun x126 =>
 Ld (.int .u8) w80 (a4.add 9) fun x127 =>
 Ld (.int .u8) w80 (a4.add 10) fun x128 =>
 Ld (.int .u8) w80 (a4.add 11) fun x129 =>
 Ld (.int .u8) w80 (a4.add 12) fun x130 =>
 Ld (.int .u8) w80 (a4.add 13) fun x131 =>
 Ld (.int .u8) w80 (a4.add 14) fun x132 =>
 Ld (.int .u8) w80 (a4.add 15) fun x133 =>
 (bif (!((x102 == x118) && ((x103 == x119) && ((x104 == x120) && ((x105 == x121) && ((x106 == x122) && ((x107 == x123) && ((x108 == x124) && ((x109 == x125) && ((x110 == x126) && ((x111 == x127) && ((x112 == x128) && ((x113 == x129) && ((x114 == x130) && ((x115 == x131) && ((x116 == x132) && ((x117 == x133) && true))))))))))))))))) then
 StN [(Value.int .u8 0), (Value.int .u8 0), (Value.int .u8 0), (Value.int .u8 0), (Value.int .u8 0), (Value.int .u8 0), (Value.int .u8 0), (Value.int .u8 0), (Value.int .u8 0), (Value.int .u8 0), (Value.int .u8 0), (Value.int .u8 0), (Value.int .u8 0), (Value.int .u8 0), (Value.int .u8 0), (Value.int .u8 0), (Value.int .i64 0), (Value.int .i64 0), (Value.int .i64 0), (Value.slice none 0 0)] w80 a8 0 fun w134 =>
 Ld (.int .u8) w134 (a8.add 0) fun y135 =>
 Ld (.int .u8) w134 (a8.add 1) fun y136 =>
 Ld (.int .u8) w134 (a8.add 2) fun y137 =>
 Ld (.int .u8) w134 (a8.add 3) fun y138 =>
 Ld (.int .u8) w134 (a8.add 4) fun y139 =>
 Ld (.int .u8) w134 (a8.add 5) fun y140 =>
 Ld (.int .u8) w134 (a8.add 6) fun y141 =>
 Ld (.int .u8) w134 (a8.add 7) fun y142 =>
 Ld (.int .u8) w134 (a8.add 8) fun y143 =>
 Ld (.int .u8) w134 (a8.add 9) fun y144 =>
 Ld (.int .u8) w134 (a8.add 10) fun y145 =>
 Ld (.int .u8) w134 (a8.add 11) fun y146 =>
 Ld (.int .u8) w134 (a8.add 12) fun y147 =>
 Ld (.int .u8) w134 (a8.add 13) fun y148 =>
 Ld (.int .u8) w134 (a8.add 14) fun y149 =>
 Ld (.int .u8) w134 (a8.add 15) fun y150 =>
 Ld (.int .i64) w134 (a8.add 16) fun y151 =>
 Ld (.int .i64) w134 (a8.add 17) fun y152 =>
 Ld (.int .i64) w134 (a8.add 18) fun y153 =>
 Ld .slice w134 (a8.add 19) fun y154 =>
 K y135 y136 y137 y138 y139 y140 y141 y142 y143 y144 y145 y146 y147 y148 y149 y150 y151 y152 y153 y154 8 w134
 else
 Ld (.int .i64) w80 (a79.add 0) fun x155 =>
 Ld (.int .i64) w80 (a79.add 1) fun x156 =>
 Ld (.int .i64) w80 (a79.add 2) fun x157 =>
 Ld (.int .i64) w80 (a79.add 3) fun x158 =>
 Ld (.int .u8) w80 (a79.add 4) fun x159 =>
 Ld (.int .u8) w80 (a79.add 5) fun x160 =>
 Ld (.int .u8) w80 (a79.add 6) fun x161 =>
 Ld (.int .u8) w80 (a79.add 7) fun x162 =>
 Ld (.int .u8) w80 (a79.add 8) fun x163 =>
 Ld (.int .u8) w80 (a79.add 9) fun x164 =>
 Ld (.int .u8) w80 (a79.add 10) fun x165 =>
 Ld (.int .u8) w80 (a79.add 11) fun x166 =>
 Ld (.int .u8) w80 (a79.add 12) fun x167 =>
 Ld (.int .u8) w80 (a79.add 13) fun x168 =>
 Ld (.int .u8) w80 (a79.add 14) fun x169 =>
 Ld (.int .u8) w80 (a79.add 15) fun x170 =>
 Ld (.int .u8) w80 (a79.add 16) fun x171 =>
 Ld (.int .u8) w80 (a79.add 17) fun x172 =>
 Ld (.int .u8) w80 (a79.add 18) fun x173 =>
 Ld (.int .u8) w80 (a79.add 19) fun x174 =>
 Ld (.int .u8) w80 (a79.add 20) fun x175 =>
 Ld (.int .u8) w80 (a79.add 21) fun x176 =>
 Ld (.int .u8) w80 (a79.add 22) fun x177 =>
 Ld (.int .u8) w80 (a79.add 23) fun x178 =>
 Ld (.int .u8) w80 (a79.add 24) fun x179 =>
 Ld (.int .u8) w80 (a79.add 25) fun x180 =>
 Ld (.int .u8) w80 (a79.add 26) fun x181 =>
 Ld (.int .u8) w80 (a79.add 27) fun x182 =>
 Ld (.int .u8) w80 (a79.add 28) fun x183 =>
 Ld (.int .u8) w80 (a79.add 29) fun x184 =>
 Ld (.int .u8) w80 (a79.add 30) fun x185 =>
 Ld (.int .u8) w80 (a79.add 31) fun x186 =>
 Ld (.int .u8) w80 (a79.add 32) fun x187 =>
 Ld (.int .u8) w80 (a79.add 33) fun x188 =>
 Ld (.int .u8) w80 (a79.add 34) fun x189 =>
 Ld (.int .u8) w80 (a79.add 35) fun x190 =>
 Ld .slice w80 (a79.add 36) fun x191 =>
 c_ref30_inner x155 x156 x157 x158 x159 x160 x161 x162 x163 x164 x165 x166 x167 x168 x169 x170 x171 x172 x173 x174 x175 x176 x177 x178 x179 x180 x181 x182 x183 x184 x185 x186 x187 x188 x189 x190 x191 w80 fun r192 r193 w194 =>
 (bif (r193 != 0) then
 StN [(Value.int .u8 0), (Value.int .u8 0), (Value.int .u8 0), (Value.int .u8 0), (Value.int .u8 0), (Value.int .u8 0), (Value.int .u8 0), (Value.int .u8 0), (Value.int .u8 0), (Value.int .u8 0), (Value.int .u8 0), (Value.int .u8 0), (Value.int .u8 0), (Value.int .u8 0), (Value.int .u8 0), (Value.int .u8 0), (Value.int .i64 0), (Value.int .i64 0), (Value.int .i64 0), (Value.slice none 0 0)] w194 a8 0 fun w195 =>
 Ld (.int .u8) w195 (a8.add 0) fun y196 =>
 Ld (.int .u8) w195 (a8.add 1) fun y197 =>
 Ld (.int .u8) w195 (a8.add 2) fun y198 =>
 Ld (.int .u8) w195 (a8.add 3) fun y199 =>
 Ld (.int .u8) w195 (a8.add 4) fun y200 =>
 Ld (.int .u8) w195 (a8.add 5) fun y201 =>
 Ld (.int .u8) w195 (a8.add 6) fun y202 =>
 Ld (.int .u8) w195 (a8.add 7) fun y203 =>
 Ld (.int .u8) w195 (a8.add 8) fun y204 =>
 Ld (.int .u8) w195 (a8.add 9) fun y205 =>
 Ld (.int .u8) w195 (a8.add 10) fun y206 =>
 Ld (.int .u8) w195 (a8.add 11) fun y207 =>
 Ld (.int .u8) w195 (a8.add 12) fun y208 =>
 Ld (.int .u8) w195 (a8.add 13) fun y209 =>
 Ld (.int .u8) w195 (a8.add 14) fun y210 =>
 Ld (.int .u8) w195 (a8.add 15) fun y211 =>
 Ld (.int .i64) w195 (a8.add 16) fun y212 =>
 Ld (.int .i64) w195 (a8.add 17) fun y213 =>
 Ld (.int .i64) w195 (a8.add 18) fun y214 =>
 Ld .slice w195 (a8.add 19) fun y215 =>
 K y196 y197 y198 y199 y200 y201 y202 y203 y204 y205 y206 y207 y208 y209 y210 y211 y212 y213 y214 y215 r193 w195
 else
 c_ref05_Quoted r192 w194 fun r216 r217 r218 r219 r220 r221 r222 r223 r224 r225 r226 r227 w228 =>
 Al w228 (.cells ⟨[(Value.int .i64 0), (Value.int .i64 0), (Value.int .i64 0), (Value.int .i64 0), (Value.int .i64 0), (Value.int .i64 0), (Value.int .i64 0), (Value.bool false), (Value.bool false), (Value.slice none 0 0), (Value.slice none 0 0)]⟩ 46) fun a230 w229 =>
 StN [(Value.int .i64 r216), (Value.int .i64 r217), (Value.int .i64 r218), (Value.int .i64 r219), (Value.int .i64 r220), (Value.int .i64 r221), (Value.int .i64 r222), (Value.bool r223), (Value.bool r224), (Value.slice r225.a r225.len r225.cap), (Value.slice r226.a r226.len r226.cap)] w229 a230 0 fun w231 =>
 (bif (r227 != 0) then
 StN [(Value.int .u8 0), (Value.int .u8 0), (Value.int .u8 0), (Value.int .u8 0), (Value.int .u8 0), (Value.int .u8 0), (Value.int .u8 0), (Value.int .u8 0), (Value.int .u8 0), (Value.int .u8 0), (Value.int .u8 0), (Value.int .u8 0), (Value.int .u8 0), (Value.int .u8 0), (Value.int .u8 0), (Value.int .u8 0), (Value.int .i64 0), (Value.int .i64 0), (Value.int .i64 0), (Value.slice none 0 0)] w231 a8 0 fun w232 =>
 Ld (.int .u8) w232 (a8.add 0) fun y233 =>
 Ld (.int .u8) w232 (a8.add 1) fun y234 =>
 Ld (.int .u8) w232 (a8.add 2) fun y235 =>
 Ld (.int .u8) w232 (a8.add 3) fun y236 =>
 Ld (.int .u8) w232 (a8.add 4) fun y237 =>
 Ld (.int .u8) w232 (a8.add 5) fun y238 =>
 Ld (.int .u8) w232 (a8.add 6) fun y239 =>
 Ld (.int .u8) w232 (a8.add 7) fun y240 =>
 Ld (.int .u8) w232 (a8.add 8) fun y241 =>
 Ld (.int .u8) w232 (a8.add 9) fun y242 =>
 Ld (.int .u8) w232 (a8.add 10) fun y243 =>
 Ld (.int .u8) w232 (a8.add 11) fun y244 =>
 Ld (.int .u8) w232 (a8.add 12) fun y245 =>
 Ld (.int .u8) w232 (a8.add 13) fun y246 =>
 Ld (.int .u8) w232 (a8.add 14) fun y247 =>
 Ld (.int .u8) w232 (a8.add 15) fun y248 =>
 Ld (.int .i64) w232 (a8.add 16) fun y249 =>
 Ld (.int .i64) w232 (a8.add 17) fun y250 =>
 Ld (.int .i64) w232 (a8.add 18) fun y251 =>
 Ld .slice w232 (a8.add 19) fun y252 =>
 K y233 y234 y235 y236 y237 y238 y239 y240 y241 y242 y243 y244 y245 y246 y247 y248 y249 y250 y251 y252 r227 w232
 else
 Ld .slice w231 (a230.add 10) fun x253 =>
 (bif (decide ((x253.len : Int) < 8)) then
 StN [(Value.int .u8 0), (Value.int .u8 0), (Value.int .u8 0), (Value.int .u8 0), (Value.int .u8 0), (Value.int .u8 0), (Value.int .u8 0), (Value.int .u8 0), (Value.int .u8 0), (Value.int .u8 0), (Value.int .u8 0), (Value.int .u8 0), (Value.int .u8 0), (Value.int .u8 0), (Value.int .u8 0), (Value.int .u8 0), (Value.int .i64 0), (Value.int .i64 0), (Value.int .i64 0), (Value.slice none 0 0)] w231 a8 0 fun w254 =>
 Ld (.int .u8) w254 (a8.add 0) fun y255 =>
 Ld (.int .u8) w254 (a8.add 1) fun y256 =>
 Ld (.int .u8) w254 (a8.add 2) fun y257 =>
 Ld (.int .u8) w254 (a8.add 3) fun y258 =>
 Ld (.int .u8) w254 (a8.add 4) fun y259 =>
 Ld (.int .u8) w254 (a8.add 5) fun y260 =>
 Ld (.int .u8) w254 (a8.add 6) fun y261 =>
 Ld (.int .u8) w254 (a8.add 7) fun y262 =>
 Ld (.int .u8) w254 (a8.add 8) fun y263 =>
 Ld (.int .u8) w254 (a8.add 9) fun y264 =>
 Ld (.int .u8) w254 (a8.add 10) fun y265 =>
 Ld (.int .u8) w254 (a8.add 11) fun y266 =>
 Ld (.int .u8) w254 (a8.add 12) fun y267 =>
 Ld (.int .u8) w254 (a8.add 13) fun y268 =>
 Ld (.int .u8) w254 (a8.add 14) fun y269 =>
 Ld (.int .u8) w254 (a8.add 15) fun y270 =>
 Ld (.int .i64) w254 (a8.add 16) fun y271 =>
 Ld (.int .i64) w254 (a8.add 17) fun y272 =>
 Ld (.int .i64) w254 (a8.add 18) fun y273 =>
 Ld .slice w254 (a8.add 19) fun y274 =>
 K y255 y256 y257 y258 y259 y260 y261 y262 y263 y264 y265 y266 y267 y268 y269 y270 y271 y272 y273 y274 3 w254
 else
 Ld (.int .u8) w231 ((a79.add 20).add 0) fun x275 =>
 Ld (.int .u8) w231 ((a79.add 20).add 1) fun x276 =>
 Ld (.int .u8) w231 ((a79.add 20).add 2) fun x277 =>
 Ld (.int .u8) w231 ((a79.add 20).add 3) fun x278 =>
 Ld (.int .u8) w231 ((a79.add 20).add 4) fun x279 =>
 Ld (.int .u8) w231 ((a79.add 20).add 5) fun x280 =>
 Ld (.int .u8) w231 ((a79.add 20).add 6) fun x281 =>
 Ld (.int .u8) w231 ((a79.add 20).add 7) fun x282 =>
 Ld (.int .u8) w231 ((a79.add 20).add 8) fun x283 =>
 Ld (.int .u8) w231 ((a79.add 20).add 9) fun x284 =>
 Ld (.int .u8) w231 ((a79.add 20).add 10) fun x285 =>
 Ld (.int .u8) w231 ((a79.add 20).add 11) fun x286 =>
 Ld (.int .u8) w231 ((a79.add 20).add 12) fun x287 =>
 Ld (.int .u8) w231 ((a79.add 20).add 13) fun x288 =>
 Ld (.int .u8) w231 ((a79.add 20).add 14) fun x289 =>
 Ld (.int .u8) w231 ((a79.add 20).add 15) fun x290 =>
 StN [(Value.int .u8 x275), (Value.int .u8 x276), (Value.int .u8 x277), (Value.int .u8 x278), (Value.int .u8 x279), (Value.int .u8 x280), (Value.int .u8 x281), (Value.int .u8 x282), (Value.int .u8 x283), (Value.int .u8 x284), (Value.int .u8 x285), (Value.int .u8 x286), (Value.int .u8 x287), (Value.int .u8 x288), (Value.int .u8 x289), (Value.int .u8 x290), (Value.int .i64 r12), (Value.int .i64 r13), (Value.int .i64 r14), (Value.slice r192.a r192.len r192.cap)] w231 a8 0 fun w291 =>
 Ld (.int .u8) w291 (a8.add 0) fun y292 =>
 Ld (.int .u8) w291 (a8.add 1) fun y293 =>
 Ld (.int .u8) w291 (a8.add 2) fun y294 =>
 Ld (.int .u8) w291 (a8.add 3) fun y295 =>
 Ld (.int .u8) w291 (a8.add 4) fun y296 =>
 Ld (.int .u8) w291 (a8.add 5) fun y297 =>
 Ld (.int .u8) w291 (a8.add 6) fun y298 =>
 Ld (.int .u8) w291 (a8.add 7) fun y299 =>
 Ld (.int .u8) w291 (a8.add 8) fun y300 =>
 Ld (.int .u8) w291 (a8.add 9) fun y301 =>
 Ld (.int .u8) w291 (a8.add 10) fun y302 =>
 Ld (.int .u8) w291 (a8.add 11) fun y303 =>
 Ld (.int .u8) w291 (a8.add 12) fun y304 =>
 Ld (.int .u8) w291 (a8.add 13) fun y305 =>
 Ld (.int .u8) w291 (a8.add 14) fun y306 =>
 Ld (.int .u8) w291 (a8.add 15) fun y307 =>
 Ld (.int .i64) w291 (a8.add 16) fun y308 =>
 Ld (.int .i64) w291 (a8.add 17) fun y309 =>
 Ld (.int .i64) w291 (a8.add 18) fun y310 =>
 Ld .slice w291 (a8.add 19) fun y311 =>
 K y292 y293 y294 y295 y296 y297 y298 y299 y300 y301 y302 y303 y304 y305 y306 y307 y308 y309 y310 y311 0 w291)))))))
theorem e_ref30_Of (a0_0 : Int) (a0_1 : Int) (a0_2 : Int) (a0_3 : Int) (a0_4 : Int) (a0_5 : Int) (a0_6 : Int) (a0_7 : Int) (a0_8 : Int) (a0_9 : Int) (a0_10 : Int) (a0_11 : Int) (a0_12 : Int) (a0_13 : Int) (a0_14 : Int) (a0_15 : Int) (a1_0 : Int) (a1_1 : Int) (a1_2 : Int) (a1_3 : SliceV) (w : World) (K : Int → Int → Int → Int → Int → Int → Int → Int → Int → Int → Int → Int → Int → Int → Int → Int → Int → Int → Int → SliceV → Int → World → Prop) : den Try.prog 74 (bodyOf Try.f17) none (.seq .leaf (.seq .leaf (.seq (.seq .leaf (.cond (.seq .leaf .leaf) .leaf)) (.seq .leaf (.seq (.seq .leaf (.cond (.seq .leaf .leaf) .leaf)) (.seq (.seq .leaf (.cond (.seq .leaf .leaf) .leaf)) (.seq .leaf (.seq (.seq .leaf (.cond (.seq .leaf .leaf) .leaf)) (.seq .leaf (.seq (.seq .leaf (.cond (.seq .leaf .leaf) .leaf)) (.seq (.seq .leaf (.cond (.seq .leaf .leaf) .leaf)) (.seq .leaf .leaf)))))))))))) (argEnv 0 [(Value.agg ⟨[(Value.int .u8 a0_0), (Value.int .u8 a0_1), (Value.int .u8 a0_2), (Value.int .u8 a0_3), (Value.int .u8 a0_4), (Value.int .u8 a0_5), (Value.int .u8 a0_6), (Value.int .u8 a0_7), (Value.int .u8 a0_8), (Value.int .u8 a0_9), (Value.int .u8 a0_10), (Value.int .u8 a0_11), (Value.int .u8 a0_12), (Value.int .u8 a0_13), (Value.int .u8 a0_14), (Value.int .u8 a0_15)]⟩), (Value.agg ⟨[(Value.int .i64 a1_0), (Value.int .i64 a1_1), (Value.int .i64 a1_2), (Value.slice a1_3.a a1_3.len a1_3.cap)]⟩)]) [] w (retK Try.prog [.cell 4 52, .tmp 5] [.agg [(.int .u8), (.int .u8), (.int .u8), (.int .u8), (.int .u8), (.int .u8), (.int .u8), (.int .u8), (.int .u8), (.int .u8), (.int .u8), (.int .u8), (.int .u8), (.int .u8), (.int .u8), (.int .u8), (.int .i64), (.int .i64), (.int .i64), .slice], .one (.int .i64)] K) = s_ref30_Of a0_0 a0_1 a0_2 a0_3 a0_4 a0_5 a0_6 a0_7 a0_8 a0_9 a0_10 a0_11 a0_12 a0_13 a0_14 a0_15 a1_0 a1_1 a1_2 a1_3 w K := by kernel_rfl
theorem ok_ref30_Of {a0_0 a0_1 a0_2 a0_3 a0_4 a0_5 a0_6 a0_7 a0_8 a0_9 a0_10 a0_11 a0_12 a0_13 a0_14 a0_15 a1_0 a1_1 a1_2 a1_3 w K} (h : s_ref30_Of a0_0 a0_1 a0_2 a0_3 a0_4 a0_5 a0_6 a0_7 a0_8 a0_9 a0_10 a0_11 a0_12 a0_13 a0_14 a0_15 a1_0 a1_1 a1_2 a1_3 w K) : c_ref30_Of a0_0 a0_1 a0_2 a0_3 a0_4 a0_5 a0_6 a0_7 a0_8 a0_9 a0_10 a0_11 a0_12 a0_13 a0_14 a0_15 a1_0 a1_1 a1_2 a1_3 w K := by
  have t := fn_sound pok Try.func17 (fn := Try.f17) (c := bodyOf Try.f17) (nt := 74) (by kernel_rfl) (by kernel_rfl) (rs := [.cell 4 52, .tmp 5]) (by kernel_rfl) [.agg [(.int .u8), (.int .u8), (.int .u8), (.int .u8), (.int .u8), (.int .u8), (.int .u8), (.int .u8), (.int .u8), (.int .u8), (.int .u8), (.int .u8), (.int .u8), (.int .u8), (.int .u8), (.int .u8), (.int .i64), (.int .i64), (.int .i64), .slice], .one (.int .i64)] K (.seq .leaf (.seq .leaf (.seq (.seq .leaf (.cond (.seq .leaf .leaf) .leaf)) (.seq .leaf (.seq (.seq .leaf (.cond (.seq .leaf .leaf) .leaf)) (.seq (.seq .leaf (.cond (.seq .leaf .leaf) .leaf)) (.seq .leaf (.seq (.seq .leaf (.cond (.seq .leaf .leaf) .leaf)) (.seq .leaf (.seq (.seq .leaf (.cond (.seq .leaf .leaf) .leaf)) (.seq (.seq .leaf (.cond (.seq .leaf .leaf) .leaf)) (.seq .leaf .leaf)))))))))))) [(Value.agg ⟨[(Value.int .u8 a0_0), (Value.int .u8 a0_1), (Value.int .u8 a0_2), (Value.int .u8 a0_3), (Value.int .u8 a0_4), (Value.int .u8 a0_5), (Value.int .u8 a0_6), (Value.int .u8 a0_7), (Value.int .u8 a0_8), (Value.int .u8 a0_9), (Value.int .u8 a0_10), (Value.int .u8 a0_11), (Value.int .u8 a0_12), (Value.int .u8 a0_13), (Value.int .u8 a0_14), (Value.int .u8 a0_15)]⟩), (Value.agg ⟨[(Value.int .i64 a1_0), (Value.int .i64 a1_1), (Value.int .i64 a1_2), (Value.slice a1_3.a a1_3.len a1_3.cap)]⟩)] (by kernel_rfl) w ((e_ref30_Of a0_0 a0_1 a0_2 a0_3 a0_4 a0_5 a0_6 a0_7 a0_8 a0_9 a0_10 a0_11 a0_12 a0_13 a0_14 a0_15 a1_0 a1_1 a1_2 a1_3 w K).mpr h)
  exact Eq.mp (by kernel_rfl) t

/-- goosepond/goosepondref30.Packet -/
def s_ref30_Packet (a0 : Int) (a1_0 : Int) (a1_1 : Int) (a1_2 : Int) (a1_3 : Int) (a1_4 : Int) (a1_5 : Int) (a1_6 : Int) (a1_7 : Int) (a1_8 : Int) (a1_9 : Int) (a1_10 : Int) (a1_11 : Int) (a1_12 : Int) (a1_13 : Int) (a1_14 : Int) (a1_15 : Int) (a1_16 : Int) (a1_17 : Int) (a1_18 : Int) (a1_19 : SliceV) (w : World) (K : Int → Int → Int → Int → Int → Int → Int → Bool → Bool → SliceV → SliceV → Int → World → Prop) : Prop :=
 (Al w (.cells ⟨[(Value.int .u8 a1_0), (Value.int .u8 a1_1), (Value.int .u8 a1_2), (Value.int .u8 a1_3), (Value.int .u8 a1_4), (Value.int .u8 a1_5), (Value.int .u8 a1_6), (Value.int .u8 a1_7), (Value.int .u8 a1_8), (Value.int .u8 a1_9), (Value.int .u8 a1_10), (Value.int .u8 a1_11), (Value.int .u8 a1_12), (Value.int .u8 a1_13), (Value.int .u8 a1_14), (Value.int .u8 a1_15), (Value.int .i64 a1_16), (Value.int .i64 a1_17), (Value.int .i64 a1_18), (Value.slice a1_19.a a1_19.len a1_19.cap)]⟩ 52) fun a4 w3 =>
 Al w3 (.cells ⟨[(Value.int .i64 0), (Value.int .i64 0), (Value.int .i64 0), (Value.int .i64 0), (Value.int .i64 0), (Value.int .i64 0), (Value.int .i64 0), (Value.bool false), (Value.bool false), (Value.slice none 0 0), (Value.slice none 0 0)]⟩ 46) fun a6 w5 =>
 Ld (.int .i64) w5 (a4.add 16) fun x7 =>
 Ld (.int .i64) w5 (a4.add 17) fun x8 =>
 Ld (.int .i64) w5 (a4.add 18) fun x9 =>
 Ld .slice w5 (a4.add 19) fun x10 =>
 c_ref28_Make a0 x7 x8 x9 x10 w5 fun r11 r12 r13 r14 r15 r16 r17 r18 r19 r20 r21 r22 w23 =>
 StN [(Value.int .i64 r11), (Value.int .i64 r12), (Value.int .i64 r13), (Value.int .i64 r14), (Value.int .i64 r15), (Value.int .i64 r16), (Value.int .i64 r17), (Value.bool r18), (Value.bool r19), (Value.slice r20.a r20.len r20.cap), (Value.slice r21.a r21.len r21.cap)] w23 a6 0 fun w24 =>
 Ld (.int .i64) w24 (a6.add 0) fun y25 =>
 Ld (.int .i64) w24 (a6.add 1) fun y26 =>
 Ld (.int .i64) w24 (a6.add 2) fun y27 =>
 Ld (.int .i64) w24 (a6.add 3) fun y28 =>
 Ld (.int .i64) w24 (a6.add 4) fun y29 =>
 Ld (.int .i64) w24 (a6.add 5) fun y30 =>
 Ld (.int .i64) w24 (a6.add 6) fun y31 =>
 Ld .bool w24 (a6.add 7) fun y32 =>
 Ld .bool w24 (a6.add 8) fun y33 =>
 Ld .slice w24 (a6.add 9) fun y34 =>
 Ld .slice w24 (a6.add 10) fun y35 =>
 K y25 y26 y27 y28 y29 y30 y31 y32 y33 y34 y35 r22 w24)
theorem e_ref30_Packet (a0 : Int) (a1_0 : Int) (a1_1 : Int) (a1_2 : Int) (a1_3 : Int) (a1_4 : Int) (a1_5 : Int) (a1_6 : Int) (a1_7 : Int) (a1_8 : Int) (a1_9 : Int) (a1_10 : Int) (a1_11 : Int) (a1_12 : Int) (a1_13 : Int) (a1_14 : Int) (a1_15 : Int) (a1_16 : Int) (a1_17 : Int) (a1_18 : Int) (a1_19 : SliceV) (w : World) (K : Int → Int → Int → Int → Int → Int → Int → Bool → Bool → SliceV → SliceV → Int → World → Prop) : den Try.prog 18 (bodyOf Try.f19) none (.seq .leaf (.seq .leaf .leaf)) (argEnv 0 [(Value.int .i64 a0), (Value.agg ⟨[(Value.int .u8 a1_0), (Value.int .u8 a1_1), (Value.int .u8 a1_2), (Value.int .u8 a1_3), (Value.int .u8 a1_4), (Value.int .u8 a1_5), (Value.int .u8 a1_6), (Value.int .u8 a1_7), (Value.int .u8 a1_8), (Value.int .u8 a1_9), (Value.int .u8 a1_10), (Value.int .u8 a1_11), (Value.int .u8 a1_12), (Value.int .u8 a1_13), (Value.int .u8 a1_14), (Value.int .u8 a1_15), (Value.int .i64 a1_16), (Value.int .i64 a1_17), (Value.int .i64 a1_18), (Value.slice a1_19.a a1_19.len a1_19.cap)]⟩)]) [] w (retK Try.prog [.cell 4 46, .tmp 5] [.agg [(.int .i64), (.int .i64), (.int .i64), (.int .i64), (.int .i64), (.int .i64), (.int .i64), .bool, .bool, .slice, .slice], .one (.int .i64)] K) = s_ref30_Packet a0 a1_0 a1_1 a1_2 a1_3 a1_4 a1_5 a1_6 a1_7 a1_8 a1_9 a1_10 a1_11 a1_12 a1_13 a1_14 a1_15 a1_16 a1_17 a1_18 a1_19 w K := by kernel_rfl
theorem ok_ref30_Packet {a0 a1_0 a1_1 a1_2 a1_3 a1_4 a1_5 a1_6 a1_7 a1_8 a1_9 a1_10 a1_11 a1_12 a1_13 a1_14 a1_15 a1_16 a1_17 a1_18 a1_19 w K} (h : s_ref30_Packet a0 a1_0 a1_1 a1_2 a1_3 a1_4 a1_5 a1_6 a1_7 a1_8 a1_9 a1_10 a1_11 a1_12 a1_13 a1_14 a1_15 a1_16 a1_17 a1_18 a1_19 w K) : c_ref30_Packet a0 a1_0 a1_1 a1_2 a1_3 a1_4 a1_5 a1_6 a1_7 a1_8 a1_9 a1_10 a1_11 a1_12 a1_13 a1_14 a1_15 a1_16 a1_17 a1_18 a1_19 w K :=
  fn_sound pok Try.func19 (fn := Try.f19) (c := bodyOf Try.f19) (nt := 18) (by kernel_rfl) (by kernel_rfl) (rs := [.cell 4 46, .tmp 5]) (by kernel_rfl) [.agg [(.int .i64), (.int .i64), (.int .i64), (.int .i64), (.int .i64), (.int .i64), (.int .i64), .bool, .bool, .slice, .slice], .one (.int .i64)] K (.seq .leaf (.seq .leaf .leaf)) [(Value.int .i64 a0), (Value.agg ⟨[(Value.int .u8 a1_0), (Value.int .u8 a1_1), (Value.int .u8 a1_2), (Value.int .u8 a1_3), (Value.int .u8 a1_4), (Value.int .u8 a1_5), (Value.int .u8 a1_6), (Value.int .u8 a1_7), (Value.int .u8 a1_8), (Value.int .u8 a1_9), (Value.int .u8 a1_10), (Value.int .u8 a1_11), (Value.int .u8 a1_12), (Value.int .u8 a1_13), (Value.int .u8 a1_14), (Value.int .u8 a1_15), (Value.int .i64 a1_16), (Value.int .i64 a1_17), (Value.int .i64 a1_18), (Value.slice a1_19.a a1_19.len a1_19.cap)]⟩)] (by kernel_rfl) w ((e_ref30_Packet a0 a1_0 a1_1 a1_2 a1_3 a1_4 a1_5 a1_6 a1_7 a1_8 a1_9 a1_10 a1_11 a1_12 a1_13 a1_14 a1_15 a1_16 a1_17 a1_18 a1_19 w K).mpr h)

/-- goosepond/relay.sent -/
def s_relay_sent (a0_0 : Int) (a0_1 : Int) (a0_2 : Int) (a0_3 : Int) (a0_4 : Int) (a0_5 : Int) (a0_6 : Int) (a0_7 : Int) (a0_8 : Int) (a0_9 : Int) (a0_10 : Int) (a0_11 : Int) (a0_12 : Int) (a0_13 : Int) (a0_14 : Int) (a0_15 : Int) (a1 : SliceV) (w : World) (K : Int → Int → Int → Int → Int → Int → Int → Int → Int → Int → Int → Int → Int → Int → Int → Int → SliceV → Int → World → Prop) : Prop :=
 (Al w (.cells ⟨[(Value.int .u8 a0_0), (Value.int .u8 a0_1), (Value.int .u8 a0_2), (Value.int .u8 a0_3), (Value.int .u8 a0_4), (Value.int .u8 a0_5), (Value.int .u8 a0_6), (Value.int .u8 a0_7), (Value.int .u8 a0_8), (Value.int .u8 a0_9), (Value.int .u8 a0_10), (Value.int .u8 a0_11), (Value.int .u8 a0_12), (Value.int .u8 a0_13), (Value.int .u8 a0_14), (Value.int .u8 a0_15)]⟩ 27) fun a4 w3 =>
 Al w3 (.cells ⟨[(Value.int .u8 0), (Value.int .u8 0), (Value.int .u8 0), (Value.int .u8 0), (Value.int .u8 0), (Value.int .u8 0), (Value.int .u8 0), (Value.int .u8 0), (Value.int .u8 0), (Value.int .u8 0), (Value.int .u8 0), (Value.int .u8 0), (Value.int .u8 0), (Value.int .u8 0), (Value.int .u8 0), (Value.int .u8 0)]⟩ 27) fun a6 w5 =>
 c_v6_Quoted a1 w5 fun r7 r8 r9 r10 r11 r12 r13 r14 r15 r16 r17 r18 r19 r20 r21 r22 r23 r24 r25 r26 r27 r28 r29 r30 r31 r32 r33 r34 r35 r36 r37 r38 r39 r40 r41 r42 r43 r44 w45 =>
 Al w45 (.cells ⟨((Value.int .i64 0) :: (Value.int .i64 0) :: (Value.int .i64 0) :: (Value.int .i64 0) :: (Value.int .u8 0) :: (Value.int .u8 0) :: (Value.int .u8 0) :: (Value.int .u8 0) :: (Value.int .u8 0) :: (Value.int .u8 0) :: (Value.int .u8 0) :: (Value.int .u8 0) :: (Value.int .u8 0) :: (Value.int .u8 0) :: (Value.int .u8 0) :: (Value.int .u8 0) :: (Value.int .u8 0) :: (Value.int .u8 0) :: (Value.int .u8 0) :: (Value.int .u8 0) :: (Value.int .u8 0) :: (Value.int .u8 0) :: (Value.int .u8 0) :: (Value.int .u8 0) :: (Value.int .u8 0) :: (Value.int .u8 0) :: (Value.int .u8 0) :: (Value.int .u8 0) :: (Value.int .u8 0) :: (Value.int .u8 0) :: (Value.int .u8 0) :: (Value.int .u8 0) :: (Value.int .u8 0) :: (Value.int .u8 0) :: (Value.int .u8 0) :: (Value.int .u8 0) :: (Value.slice none 0 0) :: [])⟩ 33) fun a47 w46 =>
 StN ((Value.int .i64 r7) :: (Value.int .i64 r8) :: (Value.int .i64 r9) :: (Value.int .i64 r10) :: (Value.int .u8 r11) :: (Value.int .u8 r12) :: (Value.int .u8 r13) :: (Value.int .u8 r14) :: (Value.int .u8 r15) :: (Value.int .u8 r16) :: (Value.int .u8 r17) :: (Value.int .u8 r18) :: (Value.int .u8 r19) :: (Value.int .u8 r20) :: (Value.int .u8 r21) :: (Value.int .u8 r22) :: (Value.int .u8 r23) :: (Value.int .u8 r24) :: (Value.int .u8 r25) :: (Value.int .u8 r26) :: (Value.int .u8 r27) :: (Value.int .u8 r28) :: (Value.int .u8 r29) :: (Value.int .u8 r30) :: (Value.int .u8 r31) :: (Value.int .u8 r32) :: (Value.int .u8 r33) :: (Value.int .u8 r34) :: (Value.int .u8 r35) :: (Value.int .u8 r36) :: (Value.int .u8 r37) :: (Value.int .u8 r38) :: (Value.int .u8 r39) :: (Value.int .u8 r40) :: (Value.int .u8 r41) :: (Value.int .u8 r42) :: (Value.slice r43.a r43.len r43.cap) :: []) w46 a47 0 fun w48 =>
 (bif (r44 != 0) then
 StN [(Value.int .u8 0), (Value.int .u8 0), (Value.int .u8 0), (Value.int .u8 0), (Value.int .u8 0), (Value.int .u8 0), (Value.int .u8 0), (Value.int .u8 0), (Value.int .u8 0), (Value.int .u8 0), (Value.int .u8 0), (Value.int .u8 0), (Value.int .u8 0), (Value.int .u8 0), (Value.int .u8 0), (Value.int .u8 0)] w48 a6 0 fun w49 =>
 Ld (.int .u8) w49 (a6.add 0) fun y50 =>
 Ld (.int .u8) w49 (a6.add 1) fun y51 =>
 Ld (.int .u8) w49 (a6.add 2) fun y52 =>
 Ld (.int .u8) w49 (a6.add 3) fun y53 =>
 Ld (.int .u8) w49 (a6.add 4) fun y54 =>
 Ld (.int .u8) w49 (a6.add 5) fun y55 =>
 Ld (.int .u8) w49 (a6.add 6) fun y56 =>
 Ld (.int .u8) w49 (a6.add 7) fun y57 =>
 Ld (.int .u8) w49 (a6.add 8) fun y58 =>
 Ld (.int .u8) w49 (a6.add 9) fun y59 =>
 Ld (.int .u8) w49 (a6.add 10) fun y60 =>
 Ld (.int .u8) w49 (a6.add 11) fun y61 =>
 Ld (.int .u8) w49 (a6.add 12) fun y62 =>
 Ld (.int .u8) w49 (a6.add 13) fun y63 =>
 Ld (.int .u8) w49 (a6.add 14) fun y64 =>
 Ld (.int .u8) w49 (a6.add 15) fun y65 =>
 K y50 y51 y52 y53 y54 y55 y56 y57 y58 y59 y60 y61 y62 y63 y64 y65 ⟨none, 0, 0⟩ r44 w49
 else
 Ld (.int .u8) w48 ((a47.add 4).add 0) fun x66 =>
 Ld (.int .u8) w48 ((a47.add 4).add 1) fun x67 =>
 Ld (.int .u8) w48 ((a47.add 4).add 2) fun x68 =>
 Ld (.int .u8) w48 ((a47.add 4).add 3) fun x69 =>
 Ld (.int .u8) w48 ((a47.add 4).add 4) fun x70 =>
 Ld (.int .u8) w48 ((a47.add 4).add 5) fun x71 =>
 Ld (.int .u8) w48 ((a47.add 4).add 6) fun x72 =>
 Ld (.int .u8) w48 ((a47.add 4).add 7) fun x73 =>
 Ld (.int .u8) w48 ((a47.add 4).add 8) fun x74 =>
 Ld (.int .u8) w48 ((a47.add 4).add 9) fun x75 =>
 Ld (.int .u8) w48 ((a47.add 4).add 10) fun x76 =>
 Ld (.int .u8) w48 ((a47.add 4).add 11) fun x77 =>
 Ld (.int .u8) w48 ((a47.add 4).add 12) fun x78 =>
 Ld (.int .u8) w48 ((a47.add 4).add 13) fun x79 =>
 Ld (.int .u8) w48 ((a47.add 4).add 14) fun x80 =>
 Ld (.int .u8) w48 ((a47.add 4).add 15) fun x81 =>
 Ld (.int .u8) w48 (a4.add 0) fun x82 =>
 Ld (.int .u8) w48 (a4.add 1) fun x83 =>
 Ld (.int .u8) w48 (a4.add 2) fun x84 =>
 Ld (.int .u8) w48 (a4.add 3) fun x85 =>
 Ld (.int .u8) w48 (a4.add 4) fun x86 =>
 Ld (.int .u8) w48 (a4.add 5) fun x87 =>
 Ld (.int .u8) w48 (a4.add 6) fun x88 =>
 Ld (.int .u8) w48 (a4.add 7) fun x89 =>
 Ld (.int .u8) w48 (a4.add 8) fun x90 =>
 Ld (.int .u8) w48 (a4.add 9) fun x91 =>
 Ld (.int .u8) w48 (a4.add 10) fun x92 =>
 Ld (.int .u8) w48 (a4.add 11) fun x93 =>
 Ld (.int .u8) w48 (a4.add 12) fun x94 =>
 Ld (.int .u8) w48 (a4.add 13) fun x95 =>
 Ld (.int .u8) w48 (a4.add 14) fun x96 =>
 Ld (.int .u8) w48 (a4.add 15) fun x97 =>
 (bif (!((x66 == x82) && ((x67 == x83) && ((x68 == x84) && ((x69 == x85) && ((x70 == x86) && ((x71 == x87) && ((x72 == x88) && ((x73 == x89) && ((x74 == x90) && ((x75 == x91) && ((x76 == x92) && ((x77 == x93) && ((x78 == x94) && ((x79 == x95) && ((x80 == x96) && ((x81 == x97) && true))))))))))))))))) then
 StN [(Value.int .u8 0), (Value.int .u8 0), (Value.int .u8 0), (Value.int .u8 0), (Value.int .u8 0), (Value.int .u8 0), (Value.int .u8 0), (Value.int .u8 0), (Value.int .u8 0), (Value.int .u8 0), (Value.int .u8 0), (Value.int .u8 0), (Value.int .u8 0), (Value.int .u8 0), (Value.int .u8 0), (Value.int .u8 0)] w48 a6 0 fun w98 =>
 Ld (.int .u8) w98 (a6.add 0) fun y99 =>
 Ld (.int .u8) w98 (a6.add 1) fun y100 =>
 Ld (.int .u8) w98 (a6.add 2) fun y101 =>
 Ld (.int .u8) w98 (a6.add 3) fun y102 =>
 Ld (.int .u8) w98 (a6.add 4) fun y103 =>
 Ld (.int .u8) w98 (a6.add 5) fun y104 =>
 Ld (.int .u8) w98 (a6.add 6) fun y105 =>
 Ld (.int .u8) w98 (a6.add 7) fun y106 =>
 Ld (.int .u8) w98 (a6.add 8) fun y107 =>
 Ld (.int .u8) w98 (a6.add 9) fun y108 =>
 Ld (.int .u8) w98 (a6.add 10) fun y109 =>
 Ld (.int .u8) w98 (a6.add 11) fun y110 =>
 Ld (.int .u8) w98 (a6.add 12) fun y111 =>
 Ld (.int .u8) w98 (a6.add 13) fun y112 =>
 Ld (.int .u8) w98 (a6.add 14) fun y113 =>
 Ld (.int .u8) w98 (a6.add 15) fun y114 =>
 K y99 y100 y101 y102 y103 y104 y105 y106 y107 y108 y109 y110 y111 y112 y113 y114 ⟨none, 0, 0⟩ 8 w98
 else
 Ld (.int .i64) w48 (a47.add 0) fun x115 =>
 Ld (.int .i64) w48 (a47.add 1) fun x116 =>
 Ld (.int .i64) w48 (a47.add 2) fun x117 =>
 Ld (.int .i64) w48 (a47.add 3) fun x118 =>
 Ld (.int .u8) w48 (a47.add 4) fun x119 =>
 Ld (.int .u8) w48 (a47.add 5) fun x120 =>
 Ld (.int .u8) w48 (a47.add 6) fun x121 =>
 Ld (.int .u8) w48 (a47.add 7) fun x122 =>
 Ld (.int .u8) w48 (a47.add 8) fun x123 =>
 Ld (.int .u8) w48 (a47.add 9) fun x124 =>
 Ld (.int .u8) w48 (a47.add 10) fun x125 =>
 Ld (.int .u8) w48 (a47.add 11) fun x126 =>
 Ld (.int .u8) w48 (a47.add 12) fun x127 =>
 Ld (.int .u8) w48 (a47.add 13) fun x128 =>
 Ld (.int .u8) w48 (a47.add 14) fun x129 =>
 Ld (.int .u8) w48 (a47.add 15) fun x130 =>
 Ld (.int .u8) w48 (a47.add 16) fun x131 =>
 Ld (.int .u8) w48 (a47.add 17) fun x132 =>
 Ld (.int .u8) w48 (a47.add 18) fun x133 =>
 Ld (.int .u8) w48 (a47.add 19) fun x134 =>
 Ld (.int .u8) w48 (a47.add 20) fun x135 =>
 Ld (.int .u8) w48 (a47.add 21) fun x136 =>
 Ld (.int .u8) w48 (a47.add 22) fun x137 =>
 Ld (.int .u8) w48 (a47.add 23) fun x138 =>
 Ld (.int .u8) w48 (a47.add 24) fun x139 =>
 Ld (.int .u8) w48 (a47.add 25) fun x140 =>
 Ld (.int .u8) w48 (a47.add 26) fun x141 =>
 Ld (.int .u8) w48 (a47.add 27) fun x142 =>
 Ld (.int .u8) w48 (a47.add 28) fun x143 =>
 Ld (.int .u8) w48 (a47.add 29) fun x144 =>
 Ld (.int .u8) w48 (a47.add 30) fun x145 =>
 Ld (.int .u8) w48 (a47.add 31) fun x146 =>
 Ld (.int .u8) w48 (a47.add 32) fun x147 =>
 Ld (.int .u8) w48 (a47.add 33) fun x148 =>
 Ld (.int .u8) w48 (a47.add 34) fun x149 =>
 Ld (.int .u8) w48 (a47.add 35) fun x150 =>
 Ld .slice w48 (a47.add 36) fun x151 =>
 c_relay_inner x115 x116 x117 x118 x119 x120 x121 x122 x123 x124 x125 x126 x127 x128 x129 x130 x131 x132 x133 x134 x135 x136 x137 x138 x139 x140 x141 x142 x143 x144 x145 x146 x147 x148 x149 x150 x151 w48 fun r152 r153 w154 =>
 (bif (r153 != 0) then
 StN [(Value.int .u8 0), (Value.int .u8 0), (Value.int .u8 0), (Value.int .u8 0), (Value.int .u8 0), (Value.int .u8 0), (Value.int .u8 0), (Value.int .u8 0), (Value.int .u8 0), (Value.int .u8 0), (Value.int .u8 0), (Value.int .u8 0), (Value.int .u8 0), (Value.int .u8 0), (Value.int .u8 0), (Value.int .u8 0)] w154 a6 0 fun w155 =>
 Ld (.int .u8) w155 (a6.add 0) fun y156 =>
 Ld (.int .u8) w155 (a6.add 1) fun y157 =>
 Ld (.int .u8) w155 (a6.add 2) fun y158 =>
 Ld (.int .u8) w155 (a6.add 3) fun y159 =>
 Ld (.int .u8) w155 (a6.add 4) fun y160 =>
 Ld (.int .u8) w155 (a6.add 5) fun y161 =>
 Ld (.int .u8) w155 (a6.add 6) fun y162 =>
 Ld (.int .u8) w155 (a6.add 7) fun y163 =>
 Ld (.int .u8) w155 (a6.add 8) fun y164 =>
 Ld (.int .u8) w155 (a6.add 9) fun y165 =>
 Ld (.int .u8) w155 (a6.add 10) fun y166 =>
 Ld (.int .u8) w155 (a6.add 11) fun y167 =>
 Ld (.int .u8) w155 (a6.add 12) fun y168 =>
 Ld (.int .u8) w155 (a6.add 13) fun y169 =>
 Ld (.int .u8) w155 (a6.add 14) fun y170 =>
 Ld (.int .u8) w155 (a6.add 15) fun y171 =>
 K y156 y157 y158 y159 y160 y161 y162 y163 y164 y165 y166 y167 y168 y169 y170 y171 ⟨none, 0, 0⟩ r153 w155
 else
 c_v4_Quoted r152 w154 fun r172 r173 r174 r175 r176 r177 r178 r179 r180 r181 r182 r183 w184 =>
 Al w184 (.cells ⟨[(Value.int .i64 0), (Value.int .i64 0), (Value.int .i64 0), (Value.int .i64 0), (Value.int .i64 0), (Value.int .i64 0), (Value.int .i64 0), (Value.bool false), (Value.bool false), (Value.slice none 0 0), (Value.slice none 0 0)]⟩ 46) fun a186 w185 =>
 StN [(Value.int .i64 r172), (Value.int .i64 r173), (Value.int .i64 r174), (Value.int .i64 r175), (Value.int .i64 r176), (Value.int .i64 r177), (Value.int .i64 r178), (Value.bool r179), (Value.bool r180), (Value.slice r181.a r181.len r181.cap), (Value.slice r182.a r182.len r182.cap)] w185 a186 0 fun w187 =>
 (bif (r183 != 0) then
 StN [(Value.int .u8 0), (Value.int .u8 0), (Value.int .u8 0), (Value.int .u8 0), (Value.int .u8 0), (Value.int .u8 0), (Value.int .u8 0), (Value.int .u8 0), (Value.int .u8 0), (Value.int .u8 0), (Value.int .u8 0), (Value.int .u8 0), (Value.int .u8 0), (Value.int .u8 0), (Value.int .u8 0), (Value.int .u8 0)] w187 a6 0 fun w188 =>
 Ld (.int .u8) w188 (a6.add 0) fun y189 =>
 Ld (.int .u8) w188 (a6.add 1) fun y190 =>
 Ld (.int .u8) w188 (a6.add 2) fun y191 =>
 Ld (.int .u8) w188 (a6.add 3) fun y192 =>
 Ld (.int .u8) w188 (a6.add 4) fun y193 =>
 Ld (.int .u8) w188 (a6.add 5) fun y194 =>
 Ld (.int .u8) w188 (a6.add 6) fun y195 =>
 Ld (.int .u8) w188 (a6.add 7) fun y196 =>
 Ld (.int .u8) w188 (a6.add 8) fun y197 =>
 Ld (.int .u8) w188 (a6.add 9) fun y198 =>
 Ld (.int .u8) w188 (a6.add 10) fun y199 =>
 Ld (.int .u8) w188 (a6.add 11) fun y200 =>
 Ld (.int .u8) w188 (a6.add 12) fun y201 =>
 Ld (.int .u8) w188 (a6.add 13) fun y202 =>
 Ld (.int .u8) w188 (a6.add 14) fun y203 =>
 Ld (.int .u8) w188 (a6.add 15) fun y204 =>
 K y189 y190 y191 y192 y193 y194 y195 y196 y197 y198 y199 y200 y201 y202 y203 y204 ⟨none, 0, 0⟩ r183 w188
 else
 Ld .slice w187 (a186.add 10) fun x205 =>
 (bif (decide ((x205.len : Int) < 8)) then
 StN [(Value.int .u8 0), (Value.int .u8 0), (Value.int .u8 0), (Value.int .u8 0), (Value.int .u8 0), (Value.int .u8 0), (Value.int .u8 0), (Value.int .u8 0), (Value.int .u8 0), (Value.int .u8 0), (Value.int .u8 0), (Value.int .u8 0), (Value.int .u8 0), (Value.int .u8 0), (Value.int .u8 0), (Value.int .u8 0)] w187 a6 0 fun w206 =>
 Ld (.int .u8) w206 (a6.add 0) fun y207 =>
 Ld (.int .u8) w206 (a6.add 1) fun y208 =>
 Ld (.int .u8) w206 (a6.add 2) fun y209 =>
 Ld (.int .u8) w206 (a6.add 3) fun y210 =>
 Ld (.int .u8) w206 (a6.add 4) fun y211 =>
 Ld (.int .u8) w206 (a6.add 5) fun y212 =>
 Ld (.int .u8) w206 (a6.add 6) fun y213 =>
 Ld (.int .u8) w206 (a6.add 7) fun y214 =>
 Ld (.int .u8) w206 (a6.add 8) fun y215 =>
 Ld (.int .u8) w206 (a6.add 9) fun y216 =>
 Ld (.int .u8) w206 (a6.add 10) fun y217 =>
 Ld (.int .u8) w206 (a6.add 11) fun y218 =>
 Ld (.int .u8) w206 (a6.add 12) fun y219 =>
 Ld (.int .u8) w206 (a6.add 13) fun y220 =>
 Ld (.int .u8) w206 (a6.add 14) fun y221 =>
 Ld (.int .u8) w206 (a6.add 15) fun y222 =>
 K y207 y208 y209 y210 y211 y212 y213 y214 y215 y216 y217 y218 y219 y220 y221 y222 ⟨none, 0, 0⟩ 3 w206
 else
 Ld (.int .u8) w187.drew ((a47.add 20).add 0) fun x223 =>
 Ld (.int .u8) w187.drew ((a47.add 20).add 1) fun x224 =>
 Ld (.int .u8) w187.drew ((a47.add 20).add 2) fun x225 =>
 Ld (.int .u8) w187.drew ((a47.add 20).add 3) fun x226 =>
 Ld (.int .u8) w187.drew ((a47.add 20).add 4) fun x227 =>
 Ld (.int .u8) w187.drew ((a47.add 20).add 5) fun x228 =>
 Ld (.int .u8) w187.drew ((a47.add 20).add 6) fun x229 =>
 Ld (.int .u8) w187.drew ((a47.add 20).add 7) fun x230 =>
 Ld (.int .u8) w187.drew ((a47.add 20).add 8) fun x231 =>
 Ld (.int .u8) w187.drew ((a47.add 20).add 9) fun x232 =>
 Ld (.int .u8) w187.drew ((a47.add 20).add 10) fun x233 =>
 Ld (.int .u8) w187.drew ((a47.add 20).add 11) fun x234 =>
 Ld (.int .u8) w187.drew ((a47.add 20).add 12) fun x235 =>
 Ld (.int .u8) w187.drew ((a47.add 20).add 13) fun x236 =>
 Ld (.int .u8) w187.drew ((a47.add 20).add 14) fun x237 =>
 Ld (.int .u8) w187.drew ((a47.add 20).add 15) fun x238 =>
 c_slices_Clone_byte_byte r152 w187.drew fun r239 w240 =>
 w240.cell? ((a47.add 20).add 0) = some (Value.int .u8 x223) ∧
 w240.cell? ((a47.add 20).add 1) = some (Value.int .u8 x224) ∧
 w240.cell? ((a47.add 20).add 2) = some (Value.int .u8 x225) ∧
 w240.cell? ((a47.add 20).add 3) = some (Value.int .u8 x226) ∧
 w240.cell? ((a47.add 20).add 4) = some (Value.int .u8 x227) ∧
 w240.cell? ((a47.add 20).add 5) = some (Value.int .u8 x228) ∧
 w240.cell? ((a47.add 20).add 6) = some (Value.int .u8 x229) ∧
 w240.cell? ((a47.add 20).add 7) = some (Value.int .u8 x230) ∧
 w240.cell? ((a47.add 20).add 8) = some (Value.int .u8 x231) ∧
 w240.cell? ((a47.add 20).add 9) = some (Value.int .u8 x232) ∧
 w240.cell? ((a47.add 20).add 10) = some (Value.int .u8 x233) ∧
 w240.cell? ((a47.add 20).add 11) = some (Value.int .u8 x234) ∧
 w240.cell? ((a47.add 20).add 12) = some (Value.int .u8 x235) ∧
 w240.cell? ((a47.add 20).add 13) = some (Value.int .u8 x236) ∧
 w240.cell? ((a47.add 20).add 14) = some (Value.int .u8 x237) ∧
 w240.cell? ((a47.add 20).add 15) = some (Value.int .u8 x238) ∧
 StN [(Value.int .u8 x223), (Value.int .u8 x224), (Value.int .u8 x225), (Value.int .u8 x226), (Value.int .u8 x227), (Value.int .u8 x228), (Value.int .u8 x229), (Value.int .u8 x230), (Value.int .u8 x231), (Value.int .u8 x232), (Value.int .u8 x233), (Value.int .u8 x234), (Value.int .u8 x235), (Value.int .u8 x236), (Value.int .u8 x237), (Value.int .u8 x238)] w240 a6 0 fun w241 =>
 Ld (.int .u8) w241 (a6.add 0) fun y242 =>
 Ld (.int .u8) w241 (a6.add 1) fun y243 =>
 Ld (.int .u8) w241 (a6.add 2) fun y244 =>
 Ld (.int .u8) w241 (a6.add 3) fun y245 =>
 Ld (.int .u8) w241 (a6.add 4) fun y246 =>
 Ld (.int .u8) w241 (a6.add 5) fun y247 =>
 Ld (.int .u8) w241 (a6.add 6) fun y248 =>
 Ld (.int .u8) w241 (a6.add 7) fun y249 =>
 Ld (.int .u8) w241 (a6.add 8) fun y250 =>
 Ld (.int .u8) w241 (a6.add 9) fun y251 =>
 Ld (.int .u8) w241 (a6.add 10) fun y252 =>
 Ld (.int .u8) w241 (a6.add 11) fun y253 =>
 Ld (.int .u8) w241 (a6.add 12) fun y254 =>
 Ld (.int .u8) w241 (a6.add 13) fun y255 =>
 Ld (.int .u8) w241 (a6.add 14) fun y256 =>
 Ld (.int .u8) w241 (a6.add 15) fun y257 =>
 K y242 y243 y244 y245 y246 y247 y248 y249 y250 y251 y252 y253 y254 y255 y256 y257 r239 0 w241))))))
theorem e_relay_sent (a0_0 : Int) (a0_1 : Int) (a0_2 : Int) (a0_3 : Int) (a0_4 : Int) (a0_5 : Int) (a0_6 : Int) (a0_7 : Int) (a0_8 : Int) (a0_9 : Int) (a0_10 : Int) (a0_11 : Int) (a0_12 : Int) (a0_13 : Int) (a0_14 : Int) (a0_15 : Int) (a1 : SliceV) (w : World) (K : Int → Int → Int → Int → Int → Int → Int → Int → Int → Int → Int → Int → Int → Int → Int → Int → SliceV → Int → World → Prop) : den Try.prog 52 (bodyOf Try.f36) none (.seq .leaf (.seq .leaf (.seq (.seq .leaf (.cond (.seq .leaf .leaf) .leaf)) (.seq (.seq .leaf (.cond (.seq .leaf .leaf) .leaf)) (.seq .leaf (.seq (.seq .leaf (.cond (.seq .leaf .leaf) .leaf)) (.seq .leaf (.seq (.seq .leaf (.cond (.seq .leaf .leaf) .leaf)) (.seq (.seq .leaf (.cond (.seq .leaf .leaf) .leaf)) (.seq .leaf .leaf)))))))))) (argEnv 0 [(Value.agg ⟨[(Value.int .u8 a0_0), (Value.int .u8 a0_1), (Value.int .u8 a0_2), (Value.int .u8 a0_3), (Value.int .u8 a0_4), (Value.int .u8 a0_5), (Value.int .u8 a0_6), (Value.int .u8 a0_7), (Value.int .u8 a0_8), (Value.int .u8 a0_9), (Value.int .u8 a0_10), (Value.int .u8 a0_11), (Value.int .u8 a0_12), (Value.int .u8 a0_13), (Value.int .u8 a0_14), (Value.int .u8 a0_15)]⟩), (Value.slice a1.a a1.len a1.cap)]) [] w (retK Try.prog [.cell 4 27, .tmp 5, .tmp 6] [.agg [(.int .u8), (.int .u8), (.int .u8), (.int .u8), (.int .u8), (.int .u8), (.int .u8), (.int .u8), (.int .u8), (.int .u8), (.int .u8), (.int .u8), (.int .u8), (.int .u8), (.int .u8), (.int .u8)], .one .slice, .one (.int .i64)] K) = s_relay_sent a0_0 a0_1 a0_2 a0_3 a0_4 a0_5 a0_6 a0_7 a0_8 a0_9 a0_10 a0_11 a0_12 a0_13 a0_14 a0_15 a1 w K := by kernel_rfl
theorem ok_relay_sent {a0_0 a0_1 a0_2 a0_3 a0_4 a0_5 a0_6 a0_7 a0_8 a0_9 a0_10 a0_11 a0_12 a0_13 a0_14 a0_15 a1 w K} (h : s_relay_sent a0_0 a0_1 a0_2 a0_3 a0_4 a0_5 a0_6 a0_7 a0_8 a0_9 a0_10 a0_11 a0_12 a0_13 a0_14 a0_15 a1 w K) : c_relay_sent a0_0 a0_1 a0_2 a0_3 a0_4 a0_5 a0_6 a0_7 a0_8 a0_9 a0_10 a0_11 a0_12 a0_13 a0_14 a0_15 a1 w K :=
  fn_sound pok Try.func36 (fn := Try.f36) (c := bodyOf Try.f36) (nt := 52) (by kernel_rfl) (by kernel_rfl) (rs := [.cell 4 27, .tmp 5, .tmp 6]) (by kernel_rfl) [.agg [(.int .u8), (.int .u8), (.int .u8), (.int .u8), (.int .u8), (.int .u8), (.int .u8), (.int .u8), (.int .u8), (.int .u8), (.int .u8), (.int .u8), (.int .u8), (.int .u8), (.int .u8), (.int .u8)], .one .slice, .one (.int .i64)] K (.seq .leaf (.seq .leaf (.seq (.seq .leaf (.cond (.seq .leaf .leaf) .leaf)) (.seq (.seq .leaf (.cond (.seq .leaf .leaf) .leaf)) (.seq .leaf (.seq (.seq .leaf (.cond (.seq .leaf .leaf) .leaf)) (.seq .leaf (.seq (.seq .leaf (.cond (.seq .leaf .leaf) .leaf)) (.seq (.seq .leaf (.cond (.seq .leaf .leaf) .leaf)) (.seq .leaf .leaf)))))))))) [(Value.agg ⟨[(Value.int .u8 a0_0), (Value.int .u8 a0_1), (Value.int .u8 a0_2), (Value.int .u8 a0_3), (Value.int .u8 a0_4), (Value.int .u8 a0_5), (Value.int .u8 a0_6), (Value.int .u8 a0_7), (Value.int .u8 a0_8), (Value.int .u8 a0_9), (Value.int .u8 a0_10), (Value.int .u8 a0_11), (Value.int .u8 a0_12), (Value.int .u8 a0_13), (Value.int .u8 a0_14), (Value.int .u8 a0_15)]⟩), (Value.slice a1.a a1.len a1.cap)] (by kernel_rfl) w ((e_relay_sent a0_0 a0_1 a0_2 a0_3 a0_4 a0_5 a0_6 a0_7 a0_8 a0_9 a0_10 a0_11 a0_12 a0_13 a0_14 a0_15 a1 w K).mpr h)

end Go.Proofs
