import Derived.Test.YtmcdmhegjhcjhaaGreatFn
import Derived.Test.YtmcdmhegjhcjhaaGreatProg
import Derived.KernelRfl
namespace Go.Proofs
open Gp
set_option maxRecDepth 100000
set_option maxHeartbeats 4000000
theorem pok : POk Tryz.prog := POk.of_all (by kernel_rfl) (by kernel_rfl)

/-- goosepond/goosepondlaw32.B4Nobody -/
abbrev n_law32_B4Nobody : FuncId := 3
def c_law32_B4Nobody (a0 : SliceV) (a1 : Int) (w : World) (K : Bool → World → Prop) : Prop :=
  Calls Tryz.prog 3 ⟨[(Value.slice a0.a a0.len a0.cap), (Value.int .i64 a1)]⟩ w fun e w' => ∃ y23 : Bool, e = .returned (Value.bool y23) ∧ K y23 w'
theorem cm_law32_B4Nobody {a0 a1 w K K'} (h : c_law32_B4Nobody a0 a1 w K) (hk : ∀ x0 w', K x0 w' → K' x0 w') : c_law32_B4Nobody a0 a1 w K' :=
  Calls.mono h fun e w' hh => by obtain ⟨x0, he, hx⟩ := hh; exact ⟨x0, he, hk _ _ hx⟩

/-- (*goosepond/b4.B4).Advance -/
abbrev n_b4_B4_Advance : FuncId := 5
def c_b4_B4_Advance (a0 : Option Addr) (a1 : Int) (w : World) (K : World → Prop) : Prop :=
  Calls Tryz.prog 5 ⟨[(Value.pointer a0), (Value.int .i64 a1)]⟩ w fun e w' => e = .returned (Value.tuple ⟨[]⟩) ∧ K w'
theorem cm_b4_B4_Advance {a0 a1 w K K'} (h : c_b4_B4_Advance a0 a1 w K) (hk : ∀  w', K  w' → K'  w') : c_b4_B4_Advance a0 a1 w K' :=
  Calls.mono h fun e w' hh => by obtain ⟨he, hx⟩ := hh; exact ⟨he, hk  _ hx⟩

/-- (*goosepond/b4.B4).Host -/
abbrev n_b4_B4_Host : FuncId := 6
def c_b4_B4_Host (a0 : Option Addr) (a1 : SliceV) (w : World) (K : SliceV → SliceV → Int → World → Prop) : Prop :=
  Calls Tryz.prog 6 ⟨[(Value.pointer a0), (Value.slice a1.a a1.len a1.cap)]⟩ w fun e w' => ∃ y252 : SliceV, ∃ y253 : SliceV, ∃ y254 : Int, e = .returned (Value.tuple ⟨[(Value.slice y252.a y252.len y252.cap), (Value.slice y253.a y253.len y253.cap), (Value.int .i64 y254)]⟩) ∧ K y252 y253 y254 w'
theorem cm_b4_B4_Host {a0 a1 w K K'} (h : c_b4_B4_Host a0 a1 w K) (hk : ∀ x0 x1 x2 w', K x0 x1 x2 w' → K' x0 x1 x2 w') : c_b4_B4_Host a0 a1 w K' :=
  Calls.mono h fun e w' hh => by obtain ⟨x0, x1, x2, he, hx⟩ := hh; exact ⟨x0, x1, x2, he, hk _ _ _ _ hx⟩

/-- (*goosepond/b4.B4).Tunnel -/
abbrev n_b4_B4_Tunnel : FuncId := 7
def c_b4_B4_Tunnel (a0 : Option Addr) (a1 : SliceV) (w : World) (K : SliceV → SliceV → Int → World → Prop) : Prop :=
  Calls Tryz.prog 7 ⟨[(Value.pointer a0), (Value.slice a1.a a1.len a1.cap)]⟩ w fun e w' => ∃ y237 : SliceV, ∃ y238 : SliceV, ∃ y239 : Int, e = .returned (Value.tuple ⟨[(Value.slice y237.a y237.len y237.cap), (Value.slice y238.a y238.len y238.cap), (Value.int .i64 y239)]⟩) ∧ K y237 y238 y239 w'
theorem cm_b4_B4_Tunnel {a0 a1 w K K'} (h : c_b4_B4_Tunnel a0 a1 w K) (hk : ∀ x0 x1 x2 w', K x0 x1 x2 w' → K' x0 x1 x2 w') : c_b4_B4_Tunnel a0 a1 w K' :=
  Calls.mono h fun e w' hh => by obtain ⟨x0, x1, x2, he, hx⟩ := hh; exact ⟨x0, x1, x2, he, hk _ _ _ _ hx⟩

/-- (*goosepond/b4.B4).Counts -/
abbrev n_b4_B4_Counts : FuncId := 8
def c_b4_B4_Counts (a0 : Option Addr) (w : World) (K : SliceV → World → Prop) : Prop :=
  Calls Tryz.prog 8 ⟨[(Value.pointer a0)]⟩ w fun e w' => ∃ y8 : SliceV, e = .returned (Value.slice y8.a y8.len y8.cap) ∧ K y8 w'
theorem cm_b4_B4_Counts {a0 w K K'} (h : c_b4_B4_Counts a0 w K) (hk : ∀ x0 w', K x0 w' → K' x0 w') : c_b4_B4_Counts a0 w K' :=
  Calls.mono h fun e w' hh => by obtain ⟨x0, he, hx⟩ := hh; exact ⟨x0, he, hk _ _ hx⟩

/-- (*goosepond/b4.B4).Bytes -/
abbrev n_b4_B4_Bytes : FuncId := 9
def c_b4_B4_Bytes (a0 : Option Addr) (w : World) (K : Int → World → Prop) : Prop :=
  Calls Tryz.prog 9 ⟨[(Value.pointer a0)]⟩ w fun e w' => ∃ y8 : Int, e = .returned (Value.int .i64 y8) ∧ K y8 w'
theorem cm_b4_B4_Bytes {a0 w K K'} (h : c_b4_B4_Bytes a0 w K) (hk : ∀ x0 w', K x0 w' → K' x0 w') : c_b4_B4_Bytes a0 w K' :=
  Calls.mono h fun e w' hh => by obtain ⟨x0, he, hx⟩ := hh; exact ⟨x0, he, hk _ _ hx⟩

/-- goosepond/goosepondlaw32.awake -/
abbrev n_law32_awake : FuncId := 10
def c_law32_awake  (w : World) (K : Bool → World → Prop) : Prop :=
  Calls Tryz.prog 10 ⟨[]⟩ w fun e w' => ∃ y61 : Bool, e = .returned (Value.bool y61) ∧ K y61 w'
theorem cm_law32_awake { w K K'} (h : c_law32_awake  w K) (hk : ∀ x0 w', K x0 w' → K' x0 w') : c_law32_awake  w K' :=
  Calls.mono h fun e w' hh => by obtain ⟨x0, he, hx⟩ := hh; exact ⟨x0, he, hk _ _ hx⟩

/-- (*goosepond/b4.B4).ready -/
abbrev n_b4_B4_ready : FuncId := 17
def c_b4_B4_ready (a0 : Option Addr) (w : World) (K : Bool → World → Prop) : Prop :=
  Calls Tryz.prog 17 ⟨[(Value.pointer a0)]⟩ w fun e w' => ∃ y6 : Bool, e = .returned (Value.bool y6) ∧ K y6 w'
theorem cm_b4_B4_ready {a0 w K K'} (h : c_b4_B4_ready a0 w K) (hk : ∀ x0 w', K x0 w' → K' x0 w') : c_b4_B4_ready a0 w K' :=
  Calls.mono h fun e w' hh => by obtain ⟨x0, he, hx⟩ := hh; exact ⟨x0, he, hk _ _ hx⟩

/-- (*goosepond/join.Table).Expire -/
abbrev n_join_Table_Expire : FuncId := 18
def c_join_Table_Expire (a0 : Option Addr) (a1 : Int) (w : World) (K : SliceV → World → Prop) : Prop :=
  Calls Tryz.prog 18 ⟨[(Value.pointer a0), (Value.int .i64 a1)]⟩ w fun e w' => ∃ y37 : SliceV, e = .returned (Value.slice y37.a y37.len y37.cap) ∧ K y37 w'
theorem cm_join_Table_Expire {a0 a1 w K K'} (h : c_join_Table_Expire a0 a1 w K) (hk : ∀ x0 w', K x0 w' → K' x0 w') : c_join_Table_Expire a0 a1 w K' :=
  Calls.mono h fun e w' hh => by obtain ⟨x0, he, hx⟩ := hh; exact ⟨x0, he, hk _ _ hx⟩

/-- goosepond/v4.Parse -/
abbrev n_v4_Parse : FuncId := 19
def c_v4_Parse (a0 : SliceV) (w : World) (K : Int → Int → Int → Int → Int → Int → Int → Bool → Bool → SliceV → SliceV → Int → World → Prop) : Prop :=
  Calls Tryz.prog 19 ⟨[(Value.slice a0.a a0.len a0.cap)]⟩ w fun e w' => ∃ y108 : Int, ∃ y109 : Int, ∃ y110 : Int, ∃ y111 : Int, ∃ y112 : Int, ∃ y113 : Int, ∃ y114 : Int, ∃ y115 : Bool, ∃ y116 : Bool, ∃ y117 : SliceV, ∃ y118 : SliceV, ∃ y119 : Int, e = .returned (Value.tuple ⟨[(Value.agg ⟨[(Value.int .i64 y108), (Value.int .i64 y109), (Value.int .i64 y110), (Value.int .i64 y111), (Value.int .i64 y112), (Value.int .i64 y113), (Value.int .i64 y114), (Value.bool y115), (Value.bool y116), (Value.slice y117.a y117.len y117.cap), (Value.slice y118.a y118.len y118.cap)]⟩), (Value.int .i64 y119)]⟩) ∧ K y108 y109 y110 y111 y112 y113 y114 y115 y116 y117 y118 y119 w'
theorem cm_v4_Parse {a0 w K K'} (h : c_v4_Parse a0 w K) (hk : ∀ x0 x1 x2 x3 x4 x5 x6 x7 x8 x9 x10 x11 w', K x0 x1 x2 x3 x4 x5 x6 x7 x8 x9 x10 x11 w' → K' x0 x1 x2 x3 x4 x5 x6 x7 x8 x9 x10 x11 w') : c_v4_Parse a0 w K' :=
  Calls.mono h fun e w' hh => by obtain ⟨x0, x1, x2, x3, x4, x5, x6, x7, x8, x9, x10, x11, he, hx⟩ := hh; exact ⟨x0, x1, x2, x3, x4, x5, x6, x7, x8, x9, x10, x11, he, hk _ _ _ _ _ _ _ _ _ _ _ _ _ hx⟩

/-- (*goosepond/b4.B4).drop -/
abbrev n_b4_B4_drop : FuncId := 20
def c_b4_B4_drop (a0 : Option Addr) (a1 : Int) (w : World) (K : Int → World → Prop) : Prop :=
  Calls Tryz.prog 20 ⟨[(Value.pointer a0), (Value.int .i64 a1)]⟩ w fun e w' => ∃ y7 : Int, e = .returned (Value.int .i64 y7) ∧ K y7 w'
theorem cm_b4_B4_drop {a0 a1 w K K'} (h : c_b4_B4_drop a0 a1 w K) (hk : ∀ x0 w', K x0 w' → K' x0 w') : c_b4_B4_drop a0 a1 w K' :=
  Calls.mono h fun e w' hh => by obtain ⟨x0, he, hx⟩ := hh; exact ⟨x0, he, hk _ _ hx⟩

/-- goosepond/four.Host -/
abbrev n_four_Host : FuncId := 21
def c_four_Host (a0 : Int) (w : World) (K : Bool → World → Prop) : Prop :=
  Calls Tryz.prog 21 ⟨[(Value.int .i64 a0)]⟩ w fun e w' => ∃ y8 : Bool, e = .returned (Value.bool y8) ∧ K y8 w'
theorem cm_four_Host {a0 w K K'} (h : c_four_Host a0 w K) (hk : ∀ x0 w', K x0 w' → K' x0 w') : c_four_Host a0 w K' :=
  Calls.mono h fun e w' hh => by obtain ⟨x0, he, hx⟩ := hh; exact ⟨x0, he, hk _ _ hx⟩

/-- goosepond/wrap.Hop -/
abbrev n_wrap_Hop : FuncId := 22
def c_wrap_Hop (a0_0 : Int) (a0_1 : Int) (a0_2 : Int) (a0_3 : Int) (a0_4 : Int) (a0_5 : Int) (a0_6 : Int) (a0_7 : Bool) (a0_8 : Bool) (a0_9 : SliceV) (a0_10 : SliceV) (w : World) (K : Int → Int → Int → Int → Int → Int → Int → Bool → Bool → SliceV → SliceV → Bool → World → Prop) : Prop :=
  Calls Tryz.prog 22 ⟨[(Value.agg ⟨[(Value.int .i64 a0_0), (Value.int .i64 a0_1), (Value.int .i64 a0_2), (Value.int .i64 a0_3), (Value.int .i64 a0_4), (Value.int .i64 a0_5), (Value.int .i64 a0_6), (Value.bool a0_7), (Value.bool a0_8), (Value.slice a0_9.a a0_9.len a0_9.cap), (Value.slice a0_10.a a0_10.len a0_10.cap)]⟩)]⟩ w fun e w' => ∃ y52 : Int, ∃ y53 : Int, ∃ y54 : Int, ∃ y55 : Int, ∃ y56 : Int, ∃ y57 : Int, ∃ y58 : Int, ∃ y59 : Bool, ∃ y60 : Bool, ∃ y61 : SliceV, ∃ y62 : SliceV, ∃ y63 : Bool, e = .returned (Value.tuple ⟨[(Value.agg ⟨[(Value.int .i64 y52), (Value.int .i64 y53), (Value.int .i64 y54), (Value.int .i64 y55), (Value.int .i64 y56), (Value.int .i64 y57), (Value.int .i64 y58), (Value.bool y59), (Value.bool y60), (Value.slice y61.a y61.len y61.cap), (Value.slice y62.a y62.len y62.cap)]⟩), (Value.bool y63)]⟩) ∧ K y52 y53 y54 y55 y56 y57 y58 y59 y60 y61 y62 y63 w'
theorem cm_wrap_Hop {a0_0 a0_1 a0_2 a0_3 a0_4 a0_5 a0_6 a0_7 a0_8 a0_9 a0_10 w K K'} (h : c_wrap_Hop a0_0 a0_1 a0_2 a0_3 a0_4 a0_5 a0_6 a0_7 a0_8 a0_9 a0_10 w K) (hk : ∀ x0 x1 x2 x3 x4 x5 x6 x7 x8 x9 x10 x11 w', K x0 x1 x2 x3 x4 x5 x6 x7 x8 x9 x10 x11 w' → K' x0 x1 x2 x3 x4 x5 x6 x7 x8 x9 x10 x11 w') : c_wrap_Hop a0_0 a0_1 a0_2 a0_3 a0_4 a0_5 a0_6 a0_7 a0_8 a0_9 a0_10 w K' :=
  Calls.mono h fun e w' hh => by obtain ⟨x0, x1, x2, x3, x4, x5, x6, x7, x8, x9, x10, x11, he, hx⟩ := hh; exact ⟨x0, x1, x2, x3, x4, x5, x6, x7, x8, x9, x10, x11, he, hk _ _ _ _ _ _ _ _ _ _ _ _ _ hx⟩

/-- goosepond/b4.over -/
abbrev n_b4_over : FuncId := 23
def c_b4_over (a0_0 : Int) (a0_1 : Int) (a0_2 : Int) (a0_3 : Int) (a0_4 : Int) (a0_5 : Int) (a0_6 : Int) (a0_7 : Bool) (a0_8 : Bool) (a0_9 : SliceV) (a0_10 : SliceV) (w : World) (K : SliceV → World → Prop) : Prop :=
  Calls Tryz.prog 23 ⟨[(Value.agg ⟨[(Value.int .i64 a0_0), (Value.int .i64 a0_1), (Value.int .i64 a0_2), (Value.int .i64 a0_3), (Value.int .i64 a0_4), (Value.int .i64 a0_5), (Value.int .i64 a0_6), (Value.bool a0_7), (Value.bool a0_8), (Value.slice a0_9.a a0_9.len a0_9.cap), (Value.slice a0_10.a a0_10.len a0_10.cap)]⟩)]⟩ w fun e w' => ∃ y35 : SliceV, e = .returned (Value.slice y35.a y35.len y35.cap) ∧ K y35 w'
theorem cm_b4_over {a0_0 a0_1 a0_2 a0_3 a0_4 a0_5 a0_6 a0_7 a0_8 a0_9 a0_10 w K K'} (h : c_b4_over a0_0 a0_1 a0_2 a0_3 a0_4 a0_5 a0_6 a0_7 a0_8 a0_9 a0_10 w K) (hk : ∀ x0 w', K x0 w' → K' x0 w') : c_b4_over a0_0 a0_1 a0_2 a0_3 a0_4 a0_5 a0_6 a0_7 a0_8 a0_9 a0_10 w K' :=
  Calls.mono h fun e w' hh => by obtain ⟨x0, he, hx⟩ := hh; exact ⟨x0, he, hk _ _ hx⟩

/-- goosepond/v4.Build -/
abbrev n_v4_Build : FuncId := 24
def c_v4_Build (a0_0 : Int) (a0_1 : Int) (a0_2 : Int) (a0_3 : Int) (a0_4 : Int) (a0_5 : Int) (a0_6 : Int) (a0_7 : Bool) (a0_8 : Bool) (a0_9 : SliceV) (a0_10 : SliceV) (w : World) (K : SliceV → Int → World → Prop) : Prop :=
  Calls Tryz.prog 24 ⟨[(Value.agg ⟨[(Value.int .i64 a0_0), (Value.int .i64 a0_1), (Value.int .i64 a0_2), (Value.int .i64 a0_3), (Value.int .i64 a0_4), (Value.int .i64 a0_5), (Value.int .i64 a0_6), (Value.bool a0_7), (Value.bool a0_8), (Value.slice a0_9.a a0_9.len a0_9.cap), (Value.slice a0_10.a a0_10.len a0_10.cap)]⟩)]⟩ w fun e w' => ∃ y56 : SliceV, ∃ y57 : Int, e = .returned (Value.tuple ⟨[(Value.slice y56.a y56.len y56.cap), (Value.int .i64 y57)]⟩) ∧ K y56 y57 w'
theorem cm_v4_Build {a0_0 a0_1 a0_2 a0_3 a0_4 a0_5 a0_6 a0_7 a0_8 a0_9 a0_10 w K K'} (h : c_v4_Build a0_0 a0_1 a0_2 a0_3 a0_4 a0_5 a0_6 a0_7 a0_8 a0_9 a0_10 w K) (hk : ∀ x0 x1 w', K x0 x1 w' → K' x0 x1 w') : c_v4_Build a0_0 a0_1 a0_2 a0_3 a0_4 a0_5 a0_6 a0_7 a0_8 a0_9 a0_10 w K' :=
  Calls.mono h fun e w' hh => by obtain ⟨x0, x1, he, hx⟩ := hh; exact ⟨x0, x1, he, hk _ _ _ hx⟩

/-- goosepond/wrap.Wrap -/
abbrev n_wrap_Wrap : FuncId := 25
def c_wrap_Wrap (a0_0 : Int) (a0_1 : Int) (a0_2 : Int) (a0_3 : Int) (a0_4 : Int) (a0_5 : Int) (a0_6 : Int) (a0_7 : Int) (a0_8 : Int) (a0_9 : Int) (a0_10 : Int) (a0_11 : Int) (a0_12 : Int) (a0_13 : Int) (a0_14 : Int) (a0_15 : Int) (a1_0 : Int) (a1_1 : Int) (a1_2 : Int) (a1_3 : Int) (a1_4 : Int) (a1_5 : Int) (a1_6 : Int) (a1_7 : Int) (a1_8 : Int) (a1_9 : Int) (a1_10 : Int) (a1_11 : Int) (a1_12 : Int) (a1_13 : Int) (a1_14 : Int) (a1_15 : Int) (a2 : Int) (a3 : SliceV) (w : World) (K : Int → Int → Int → Int → Int → Int → Int → Int → Int → Int → Int → Int → Int → Int → Int → Int → Int → Int → Int → Int → Int → Int → Int → Int → Int → Int → Int → Int → Int → Int → Int → Int → Int → Int → Int → Int → SliceV → Int → World → Prop) : Prop :=
  Calls Tryz.prog 25 ⟨[(Value.agg ⟨[(Value.int .u8 a0_0), (Value.int .u8 a0_1), (Value.int .u8 a0_2), (Value.int .u8 a0_3), (Value.int .u8 a0_4), (Value.int .u8 a0_5), (Value.int .u8 a0_6), (Value.int .u8 a0_7), (Value.int .u8 a0_8), (Value.int .u8 a0_9), (Value.int .u8 a0_10), (Value.int .u8 a0_11), (Value.int .u8 a0_12), (Value.int .u8 a0_13), (Value.int .u8 a0_14), (Value.int .u8 a0_15)]⟩), (Value.agg ⟨[(Value.int .u8 a1_0), (Value.int .u8 a1_1), (Value.int .u8 a1_2), (Value.int .u8 a1_3), (Value.int .u8 a1_4), (Value.int .u8 a1_5), (Value.int .u8 a1_6), (Value.int .u8 a1_7), (Value.int .u8 a1_8), (Value.int .u8 a1_9), (Value.int .u8 a1_10), (Value.int .u8 a1_11), (Value.int .u8 a1_12), (Value.int .u8 a1_13), (Value.int .u8 a1_14), (Value.int .u8 a1_15)]⟩), (Value.int .i64 a2), (Value.slice a3.a a3.len a3.cap)]⟩ w fun e w' => ∃ y201 : Int, ∃ y202 : Int, ∃ y203 : Int, ∃ y204 : Int, ∃ y205 : Int, ∃ y206 : Int, ∃ y207 : Int, ∃ y208 : Int, ∃ y209 : Int, ∃ y210 : Int, ∃ y211 : Int, ∃ y212 : Int, ∃ y213 : Int, ∃ y214 : Int, ∃ y215 : Int, ∃ y216 : Int, ∃ y217 : Int, ∃ y218 : Int, ∃ y219 : Int, ∃ y220 : Int, ∃ y221 : Int, ∃ y222 : Int, ∃ y223 : Int, ∃ y224 : Int, ∃ y225 : Int, ∃ y226 : Int, ∃ y227 : Int, ∃ y228 : Int, ∃ y229 : Int, ∃ y230 : Int, ∃ y231 : Int, ∃ y232 : Int, ∃ y233 : Int, ∃ y234 : Int, ∃ y235 : Int, ∃ y236 : Int, ∃ y237 : SliceV, ∃ y238 : Int, e = .returned (Value.tuple ⟨[(Value.agg ⟨((Value.int .i64 y201) :: (Value.int .i64 y202) :: (Value.int .i64 y203) :: (Value.int .i64 y204) :: (Value.int .u8 y205) :: (Value.int .u8 y206) :: (Value.int .u8 y207) :: (Value.int .u8 y208) :: (Value.int .u8 y209) :: (Value.int .u8 y210) :: (Value.int .u8 y211) :: (Value.int .u8 y212) :: (Value.int .u8 y213) :: (Value.int .u8 y214) :: (Value.int .u8 y215) :: (Value.int .u8 y216) :: (Value.int .u8 y217) :: (Value.int .u8 y218) :: (Value.int .u8 y219) :: (Value.int .u8 y220) :: (Value.int .u8 y221) :: (Value.int .u8 y222) :: (Value.int .u8 y223) :: (Value.int .u8 y224) :: (Value.int .u8 y225) :: (Value.int .u8 y226) :: (Value.int .u8 y227) :: (Value.int .u8 y228) :: (Value.int .u8 y229) :: (Value.int .u8 y230) :: (Value.int .u8 y231) :: (Value.int .u8 y232) :: (Value.int .u8 y233) :: (Value.int .u8 y234) :: (Value.int .u8 y235) :: (Value.int .u8 y236) :: (Value.slice y237.a y237.len y237.cap) :: [])⟩), (Value.int .i64 y238)]⟩) ∧ K y201 y202 y203 y204 y205 y206 y207 y208 y209 y210 y211 y212 y213 y214 y215 y216 y217 y218 y219 y220 y221 y222 y223 y224 y225 y226 y227 y228 y229 y230 y231 y232 y233 y234 y235 y236 y237 y238 w'
theorem cm_wrap_Wrap {a0_0 a0_1 a0_2 a0_3 a0_4 a0_5 a0_6 a0_7 a0_8 a0_9 a0_10 a0_11 a0_12 a0_13 a0_14 a0_15 a1_0 a1_1 a1_2 a1_3 a1_4 a1_5 a1_6 a1_7 a1_8 a1_9 a1_10 a1_11 a1_12 a1_13 a1_14 a1_15 a2 a3 w K K'} (h : c_wrap_Wrap a0_0 a0_1 a0_2 a0_3 a0_4 a0_5 a0_6 a0_7 a0_8 a0_9 a0_10 a0_11 a0_12 a0_13 a0_14 a0_15 a1_0 a1_1 a1_2 a1_3 a1_4 a1_5 a1_6 a1_7 a1_8 a1_9 a1_10 a1_11 a1_12 a1_13 a1_14 a1_15 a2 a3 w K) (hk : ∀ x0 x1 x2 x3 x4 x5 x6 x7 x8 x9 x10 x11 x12 x13 x14 x15 x16 x17 x18 x19 x20 x21 x22 x23 x24 x25 x26 x27 x28 x29 x30 x31 x32 x33 x34 x35 x36 x37 w', K x0 x1 x2 x3 x4 x5 x6 x7 x8 x9 x10 x11 x12 x13 x14 x15 x16 x17 x18 x19 x20 x21 x22 x23 x24 x25 x26 x27 x28 x29 x30 x31 x32 x33 x34 x35 x36 x37 w' → K' x0 x1 x2 x3 x4 x5 x6 x7 x8 x9 x10 x11 x12 x13 x14 x15 x16 x17 x18 x19 x20 x21 x22 x23 x24 x25 x26 x27 x28 x29 x30 x31 x32 x33 x34 x35 x36 x37 w') : c_wrap_Wrap a0_0 a0_1 a0_2 a0_3 a0_4 a0_5 a0_6 a0_7 a0_8 a0_9 a0_10 a0_11 a0_12 a0_13 a0_14 a0_15 a1_0 a1_1 a1_2 a1_3 a1_4 a1_5 a1_6 a1_7 a1_8 a1_9 a1_10 a1_11 a1_12 a1_13 a1_14 a1_15 a2 a3 w K' :=
  Calls.mono h fun e w' hh => by obtain ⟨x0, x1, x2, x3, x4, x5, x6, x7, x8, x9, x10, x11, x12, x13, x14, x15, x16, x17, x18, x19, x20, x21, x22, x23, x24, x25, x26, x27, x28, x29, x30, x31, x32, x33, x34, x35, x36, x37, he, hx⟩ := hh; exact ⟨x0, x1, x2, x3, x4, x5, x6, x7, x8, x9, x10, x11, x12, x13, x14, x15, x16, x17, x18, x19, x20, x21, x22, x23, x24, x25, x26, x27, x28, x29, x30, x31, x32, x33, x34, x35, x36, x37, he, hk _ _ _ _ _ _ _ _ _ _ _ _ _ _ _ _ _ _ _ _ _ _ _ _ _ _ _ _ _ _ _ _ _ _ _ _ _ _ _ hx⟩

/-- (*goosepond/b4.B4).cut -/
abbrev n_b4_B4_cut : FuncId := 26
def c_b4_B4_cut (a0 : Option Addr) (a1_0 : Int) (a1_1 : Int) (a1_2 : Int) (a1_3 : Int) (a1_4 : Int) (a1_5 : Int) (a1_6 : Int) (a1_7 : Int) (a1_8 : Int) (a1_9 : Int) (a1_10 : Int) (a1_11 : Int) (a1_12 : Int) (a1_13 : Int) (a1_14 : Int) (a1_15 : Int) (a1_16 : Int) (a1_17 : Int) (a1_18 : Int) (a1_19 : Int) (a1_20 : Int) (a1_21 : Int) (a1_22 : Int) (a1_23 : Int) (a1_24 : Int) (a1_25 : Int) (a1_26 : Int) (a1_27 : Int) (a1_28 : Int) (a1_29 : Int) (a1_30 : Int) (a1_31 : Int) (a1_32 : Int) (a1_33 : Int) (a1_34 : Int) (a1_35 : Int) (a1_36 : SliceV) (w : World) (K : SliceV → Int → World → Prop) : Prop :=
  Calls Tryz.prog 26 ⟨[(Value.pointer a0), (Value.agg ⟨((Value.int .i64 a1_0) :: (Value.int .i64 a1_1) :: (Value.int .i64 a1_2) :: (Value.int .i64 a1_3) :: (Value.int .u8 a1_4) :: (Value.int .u8 a1_5) :: (Value.int .u8 a1_6) :: (Value.int .u8 a1_7) :: (Value.int .u8 a1_8) :: (Value.int .u8 a1_9) :: (Value.int .u8 a1_10) :: (Value.int .u8 a1_11) :: (Value.int .u8 a1_12) :: (Value.int .u8 a1_13) :: (Value.int .u8 a1_14) :: (Value.int .u8 a1_15) :: (Value.int .u8 a1_16) :: (Value.int .u8 a1_17) :: (Value.int .u8 a1_18) :: (Value.int .u8 a1_19) :: (Value.int .u8 a1_20) :: (Value.int .u8 a1_21) :: (Value.int .u8 a1_22) :: (Value.int .u8 a1_23) :: (Value.int .u8 a1_24) :: (Value.int .u8 a1_25) :: (Value.int .u8 a1_26) :: (Value.int .u8 a1_27) :: (Value.int .u8 a1_28) :: (Value.int .u8 a1_29) :: (Value.int .u8 a1_30) :: (Value.int .u8 a1_31) :: (Value.int .u8 a1_32) :: (Value.int .u8 a1_33) :: (Value.int .u8 a1_34) :: (Value.int .u8 a1_35) :: (Value.slice a1_36.a a1_36.len a1_36.cap) :: [])⟩)]⟩ w fun e w' => ∃ y143 : SliceV, ∃ y144 : Int, e = .returned (Value.tuple ⟨[(Value.slice y143.a y143.len y143.cap), (Value.int .i64 y144)]⟩) ∧ K y143 y144 w'
theorem cm_b4_B4_cut {a0 a1_0 a1_1 a1_2 a1_3 a1_4 a1_5 a1_6 a1_7 a1_8 a1_9 a1_10 a1_11 a1_12 a1_13 a1_14 a1_15 a1_16 a1_17 a1_18 a1_19 a1_20 a1_21 a1_22 a1_23 a1_24 a1_25 a1_26 a1_27 a1_28 a1_29 a1_30 a1_31 a1_32 a1_33 a1_34 a1_35 a1_36 w K K'} (h : c_b4_B4_cut a0 a1_0 a1_1 a1_2 a1_3 a1_4 a1_5 a1_6 a1_7 a1_8 a1_9 a1_10 a1_11 a1_12 a1_13 a1_14 a1_15 a1_16 a1_17 a1_18 a1_19 a1_20 a1_21 a1_22 a1_23 a1_24 a1_25 a1_26 a1_27 a1_28 a1_29 a1_30 a1_31 a1_32 a1_33 a1_34 a1_35 a1_36 w K) (hk : ∀ x0 x1 w', K x0 x1 w' → K' x0 x1 w') : c_b4_B4_cut a0 a1_0 a1_1 a1_2 a1_3 a1_4 a1_5 a1_6 a1_7 a1_8 a1_9 a1_10 a1_11 a1_12 a1_13 a1_14 a1_15 a1_16 a1_17 a1_18 a1_19 a1_20 a1_21 a1_22 a1_23 a1_24 a1_25 a1_26 a1_27 a1_28 a1_29 a1_30 a1_31 a1_32 a1_33 a1_34 a1_35 a1_36 w K' :=
  Calls.mono h fun e w' hh => by obtain ⟨x0, x1, he, hx⟩ := hh; exact ⟨x0, x1, he, hk _ _ _ hx⟩

/-- goosepond/v6.Parse -/
abbrev n_v6_Parse : FuncId := 27
def c_v6_Parse (a0 : SliceV) (w : World) (K : Int → Int → Int → Int → Int → Int → Int → Int → Int → Int → Int → Int → Int → Int → Int → Int → Int → Int → Int → Int → Int → Int → Int → Int → Int → Int → Int → Int → Int → Int → Int → Int → Int → Int → Int → Int → SliceV → Int → World → Prop) : Prop :=
  Calls Tryz.prog 27 ⟨[(Value.slice a0.a a0.len a0.cap)]⟩ w fun e w' => ∃ y81 : Int, ∃ y82 : Int, ∃ y83 : Int, ∃ y84 : Int, ∃ y85 : Int, ∃ y86 : Int, ∃ y87 : Int, ∃ y88 : Int, ∃ y89 : Int, ∃ y90 : Int, ∃ y91 : Int, ∃ y92 : Int, ∃ y93 : Int, ∃ y94 : Int, ∃ y95 : Int, ∃ y96 : Int, ∃ y97 : Int, ∃ y98 : Int, ∃ y99 : Int, ∃ y100 : Int, ∃ y101 : Int, ∃ y102 : Int, ∃ y103 : Int, ∃ y104 : Int, ∃ y105 : Int, ∃ y106 : Int, ∃ y107 : Int, ∃ y108 : Int, ∃ y109 : Int, ∃ y110 : Int, ∃ y111 : Int, ∃ y112 : Int, ∃ y113 : Int, ∃ y114 : Int, ∃ y115 : Int, ∃ y116 : Int, ∃ y117 : SliceV, ∃ y118 : Int, e = .returned (Value.tuple ⟨[(Value.agg ⟨((Value.int .i64 y81) :: (Value.int .i64 y82) :: (Value.int .i64 y83) :: (Value.int .i64 y84) :: (Value.int .u8 y85) :: (Value.int .u8 y86) :: (Value.int .u8 y87) :: (Value.int .u8 y88) :: (Value.int .u8 y89) :: (Value.int .u8 y90) :: (Value.int .u8 y91) :: (Value.int .u8 y92) :: (Value.int .u8 y93) :: (Value.int .u8 y94) :: (Value.int .u8 y95) :: (Value.int .u8 y96) :: (Value.int .u8 y97) :: (Value.int .u8 y98) :: (Value.int .u8 y99) :: (Value.int .u8 y100) :: (Value.int .u8 y101) :: (Value.int .u8 y102) :: (Value.int .u8 y103) :: (Value.int .u8 y104) :: (Value.int .u8 y105) :: (Value.int .u8 y106) :: (Value.int .u8 y107) :: (Value.int .u8 y108) :: (Value.int .u8 y109) :: (Value.int .u8 y110) :: (Value.int .u8 y111) :: (Value.int .u8 y112) :: (Value.int .u8 y113) :: (Value.int .u8 y114) :: (Value.int .u8 y115) :: (Value.int .u8 y116) :: (Value.slice y117.a y117.len y117.cap) :: [])⟩), (Value.int .i64 y118)]⟩) ∧ K y81 y82 y83 y84 y85 y86 y87 y88 y89 y90 y91 y92 y93 y94 y95 y96 y97 y98 y99 y100 y101 y102 y103 y104 y105 y106 y107 y108 y109 y110 y111 y112 y113 y114 y115 y116 y117 y118 w'
theorem cm_v6_Parse {a0 w K K'} (h : c_v6_Parse a0 w K) (hk : ∀ x0 x1 x2 x3 x4 x5 x6 x7 x8 x9 x10 x11 x12 x13 x14 x15 x16 x17 x18 x19 x20 x21 x22 x23 x24 x25 x26 x27 x28 x29 x30 x31 x32 x33 x34 x35 x36 x37 w', K x0 x1 x2 x3 x4 x5 x6 x7 x8 x9 x10 x11 x12 x13 x14 x15 x16 x17 x18 x19 x20 x21 x22 x23 x24 x25 x26 x27 x28 x29 x30 x31 x32 x33 x34 x35 x36 x37 w' → K' x0 x1 x2 x3 x4 x5 x6 x7 x8 x9 x10 x11 x12 x13 x14 x15 x16 x17 x18 x19 x20 x21 x22 x23 x24 x25 x26 x27 x28 x29 x30 x31 x32 x33 x34 x35 x36 x37 w') : c_v6_Parse a0 w K' :=
  Calls.mono h fun e w' hh => by obtain ⟨x0, x1, x2, x3, x4, x5, x6, x7, x8, x9, x10, x11, x12, x13, x14, x15, x16, x17, x18, x19, x20, x21, x22, x23, x24, x25, x26, x27, x28, x29, x30, x31, x32, x33, x34, x35, x36, x37, he, hx⟩ := hh; exact ⟨x0, x1, x2, x3, x4, x5, x6, x7, x8, x9, x10, x11, x12, x13, x14, x15, x16, x17, x18, x19, x20, x21, x22, x23, x24, x25, x26, x27, x28, x29, x30, x31, x32, x33, x34, x35, x36, x37, he, hk _ _ _ _ _ _ _ _ _ _ _ _ _ _ _ _ _ _ _ _ _ _ _ _ _ _ _ _ _ _ _ _ _ _ _ _ _ _ _ hx⟩

/-- (*goosepond/b4.B4).told -/
abbrev n_b4_B4_told : FuncId := 28
def c_b4_B4_told (a0 : Option Addr) (a1_0 : Int) (a1_1 : Int) (a1_2 : Int) (a1_3 : Int) (a1_4 : Int) (a1_5 : Int) (a1_6 : Int) (a1_7 : Int) (a1_8 : Int) (a1_9 : Int) (a1_10 : Int) (a1_11 : Int) (a1_12 : Int) (a1_13 : Int) (a1_14 : Int) (a1_15 : Int) (a1_16 : Int) (a1_17 : Int) (a1_18 : Int) (a1_19 : Int) (a1_20 : Int) (a1_21 : Int) (a1_22 : Int) (a1_23 : Int) (a1_24 : Int) (a1_25 : Int) (a1_26 : Int) (a1_27 : Int) (a1_28 : Int) (a1_29 : Int) (a1_30 : Int) (a1_31 : Int) (a1_32 : Int) (a1_33 : Int) (a1_34 : Int) (a1_35 : Int) (a1_36 : SliceV) (w : World) (K : SliceV → Int → World → Prop) : Prop :=
  Calls Tryz.prog 28 ⟨[(Value.pointer a0), (Value.agg ⟨((Value.int .i64 a1_0) :: (Value.int .i64 a1_1) :: (Value.int .i64 a1_2) :: (Value.int .i64 a1_3) :: (Value.int .u8 a1_4) :: (Value.int .u8 a1_5) :: (Value.int .u8 a1_6) :: (Value.int .u8 a1_7) :: (Value.int .u8 a1_8) :: (Value.int .u8 a1_9) :: (Value.int .u8 a1_10) :: (Value.int .u8 a1_11) :: (Value.int .u8 a1_12) :: (Value.int .u8 a1_13) :: (Value.int .u8 a1_14) :: (Value.int .u8 a1_15) :: (Value.int .u8 a1_16) :: (Value.int .u8 a1_17) :: (Value.int .u8 a1_18) :: (Value.int .u8 a1_19) :: (Value.int .u8 a1_20) :: (Value.int .u8 a1_21) :: (Value.int .u8 a1_22) :: (Value.int .u8 a1_23) :: (Value.int .u8 a1_24) :: (Value.int .u8 a1_25) :: (Value.int .u8 a1_26) :: (Value.int .u8 a1_27) :: (Value.int .u8 a1_28) :: (Value.int .u8 a1_29) :: (Value.int .u8 a1_30) :: (Value.int .u8 a1_31) :: (Value.int .u8 a1_32) :: (Value.int .u8 a1_33) :: (Value.int .u8 a1_34) :: (Value.int .u8 a1_35) :: (Value.slice a1_36.a a1_36.len a1_36.cap) :: [])⟩)]⟩ w fun e w' => ∃ y165 : SliceV, ∃ y166 : Int, e = .returned (Value.tuple ⟨[(Value.slice y165.a y165.len y165.cap), (Value.int .i64 y166)]⟩) ∧ K y165 y166 w'
theorem cm_b4_B4_told {a0 a1_0 a1_1 a1_2 a1_3 a1_4 a1_5 a1_6 a1_7 a1_8 a1_9 a1_10 a1_11 a1_12 a1_13 a1_14 a1_15 a1_16 a1_17 a1_18 a1_19 a1_20 a1_21 a1_22 a1_23 a1_24 a1_25 a1_26 a1_27 a1_28 a1_29 a1_30 a1_31 a1_32 a1_33 a1_34 a1_35 a1_36 w K K'} (h : c_b4_B4_told a0 a1_0 a1_1 a1_2 a1_3 a1_4 a1_5 a1_6 a1_7 a1_8 a1_9 a1_10 a1_11 a1_12 a1_13 a1_14 a1_15 a1_16 a1_17 a1_18 a1_19 a1_20 a1_21 a1_22 a1_23 a1_24 a1_25 a1_26 a1_27 a1_28 a1_29 a1_30 a1_31 a1_32 a1_33 a1_34 a1_35 a1_36 w K) (hk : ∀ x0 x1 w', K x0 x1 w' → K' x0 x1 w') : c_b4_B4_told a0 a1_0 a1_1 a1_2 a1_3 a1_4 a1_5 a1_6 a1_7 a1_8 a1_9 a1_10 a1_11 a1_12 a1_13 a1_14 a1_15 a1_16 a1_17 a1_18 a1_19 a1_20 a1_21 a1_22 a1_23 a1_24 a1_25 a1_26 a1_27 a1_28 a1_29 a1_30 a1_31 a1_32 a1_33 a1_34 a1_35 a1_36 w K' :=
  Calls.mono h fun e w' hh => by obtain ⟨x0, x1, he, hx⟩ := hh; exact ⟨x0, x1, he, hk _ _ _ hx⟩

/-- (*goosepond/b4.B4).whole -/
abbrev n_b4_B4_whole : FuncId := 29
def c_b4_B4_whole (a0 : Option Addr) (a1_0 : Int) (a1_1 : Int) (a1_2 : Int) (a1_3 : Int) (a1_4 : Int) (a1_5 : Int) (a1_6 : Int) (a1_7 : Int) (a1_8 : Int) (a1_9 : Int) (a1_10 : Int) (a1_11 : Int) (a1_12 : Int) (a1_13 : Int) (a1_14 : Int) (a1_15 : Int) (a1_16 : Int) (a1_17 : Int) (a1_18 : Int) (a1_19 : Int) (a1_20 : Int) (a1_21 : Int) (a1_22 : Int) (a1_23 : Int) (a1_24 : Int) (a1_25 : Int) (a1_26 : Int) (a1_27 : Int) (a1_28 : Int) (a1_29 : Int) (a1_30 : Int) (a1_31 : Int) (a1_32 : Int) (a1_33 : Int) (a1_34 : Int) (a1_35 : Int) (a1_36 : SliceV) (w : World) (K : SliceV → Int → Int → Bool → World → Prop) : Prop :=
  Calls Tryz.prog 29 ⟨[(Value.pointer a0), (Value.agg ⟨((Value.int .i64 a1_0) :: (Value.int .i64 a1_1) :: (Value.int .i64 a1_2) :: (Value.int .i64 a1_3) :: (Value.int .u8 a1_4) :: (Value.int .u8 a1_5) :: (Value.int .u8 a1_6) :: (Value.int .u8 a1_7) :: (Value.int .u8 a1_8) :: (Value.int .u8 a1_9) :: (Value.int .u8 a1_10) :: (Value.int .u8 a1_11) :: (Value.int .u8 a1_12) :: (Value.int .u8 a1_13) :: (Value.int .u8 a1_14) :: (Value.int .u8 a1_15) :: (Value.int .u8 a1_16) :: (Value.int .u8 a1_17) :: (Value.int .u8 a1_18) :: (Value.int .u8 a1_19) :: (Value.int .u8 a1_20) :: (Value.int .u8 a1_21) :: (Value.int .u8 a1_22) :: (Value.int .u8 a1_23) :: (Value.int .u8 a1_24) :: (Value.int .u8 a1_25) :: (Value.int .u8 a1_26) :: (Value.int .u8 a1_27) :: (Value.int .u8 a1_28) :: (Value.int .u8 a1_29) :: (Value.int .u8 a1_30) :: (Value.int .u8 a1_31) :: (Value.int .u8 a1_32) :: (Value.int .u8 a1_33) :: (Value.int .u8 a1_34) :: (Value.int .u8 a1_35) :: (Value.slice a1_36.a a1_36.len a1_36.cap) :: [])⟩)]⟩ w fun e w' => ∃ y139 : SliceV, ∃ y140 : Int, ∃ y141 : Int, ∃ y142 : Bool, e = .returned (Value.tuple ⟨[(Value.slice y139.a y139.len y139.cap), (Value.int .i64 y140), (Value.int .i64 y141), (Value.bool y142)]⟩) ∧ K y139 y140 y141 y142 w'
theorem cm_b4_B4_whole {a0 a1_0 a1_1 a1_2 a1_3 a1_4 a1_5 a1_6 a1_7 a1_8 a1_9 a1_10 a1_11 a1_12 a1_13 a1_14 a1_15 a1_16 a1_17 a1_18 a1_19 a1_20 a1_21 a1_22 a1_23 a1_24 a1_25 a1_26 a1_27 a1_28 a1_29 a1_30 a1_31 a1_32 a1_33 a1_34 a1_35 a1_36 w K K'} (h : c_b4_B4_whole a0 a1_0 a1_1 a1_2 a1_3 a1_4 a1_5 a1_6 a1_7 a1_8 a1_9 a1_10 a1_11 a1_12 a1_13 a1_14 a1_15 a1_16 a1_17 a1_18 a1_19 a1_20 a1_21 a1_22 a1_23 a1_24 a1_25 a1_26 a1_27 a1_28 a1_29 a1_30 a1_31 a1_32 a1_33 a1_34 a1_35 a1_36 w K) (hk : ∀ x0 x1 x2 x3 w', K x0 x1 x2 x3 w' → K' x0 x1 x2 x3 w') : c_b4_B4_whole a0 a1_0 a1_1 a1_2 a1_3 a1_4 a1_5 a1_6 a1_7 a1_8 a1_9 a1_10 a1_11 a1_12 a1_13 a1_14 a1_15 a1_16 a1_17 a1_18 a1_19 a1_20 a1_21 a1_22 a1_23 a1_24 a1_25 a1_26 a1_27 a1_28 a1_29 a1_30 a1_31 a1_32 a1_33 a1_34 a1_35 a1_36 w K' :=
  Calls.mono h fun e w' hh => by obtain ⟨x0, x1, x2, x3, he, hx⟩ := hh; exact ⟨x0, x1, x2, x3, he, hk _ _ _ _ _ hx⟩

/-- goosepond/b4.built -/
abbrev n_b4_built : FuncId := 30
def c_b4_built (a0_0 : Int) (a0_1 : Int) (a0_2 : Int) (a0_3 : Int) (a0_4 : Int) (a0_5 : Int) (a0_6 : Int) (a0_7 : Bool) (a0_8 : Bool) (a0_9 : SliceV) (a0_10 : SliceV) (a1 : Int) (w : World) (K : SliceV → World → Prop) : Prop :=
  Calls Tryz.prog 30 ⟨[(Value.agg ⟨[(Value.int .i64 a0_0), (Value.int .i64 a0_1), (Value.int .i64 a0_2), (Value.int .i64 a0_3), (Value.int .i64 a0_4), (Value.int .i64 a0_5), (Value.int .i64 a0_6), (Value.bool a0_7), (Value.bool a0_8), (Value.slice a0_9.a a0_9.len a0_9.cap), (Value.slice a0_10.a a0_10.len a0_10.cap)]⟩), (Value.int .i64 a1)]⟩ w fun e w' => ∃ y21 : SliceV, e = .returned (Value.slice y21.a y21.len y21.cap) ∧ K y21 w'
theorem cm_b4_built {a0_0 a0_1 a0_2 a0_3 a0_4 a0_5 a0_6 a0_7 a0_8 a0_9 a0_10 a1 w K K'} (h : c_b4_built a0_0 a0_1 a0_2 a0_3 a0_4 a0_5 a0_6 a0_7 a0_8 a0_9 a0_10 a1 w K) (hk : ∀ x0 w', K x0 w' → K' x0 w') : c_b4_built a0_0 a0_1 a0_2 a0_3 a0_4 a0_5 a0_6 a0_7 a0_8 a0_9 a0_10 a1 w K' :=
  Calls.mono h fun e w' hh => by obtain ⟨x0, he, hx⟩ := hh; exact ⟨x0, he, hk _ _ hx⟩

/-- (*goosepond/counts.Counts).List -/
abbrev n_counts_Counts_List : FuncId := 31
def c_counts_Counts_List (a0 : Option Addr) (w : World) (K : SliceV → World → Prop) : Prop :=
  Calls Tryz.prog 31 ⟨[(Value.pointer a0)]⟩ w fun e w' => ∃ y6 : SliceV, e = .returned (Value.slice y6.a y6.len y6.cap) ∧ K y6 w'
theorem cm_counts_Counts_List {a0 w K K'} (h : c_counts_Counts_List a0 w K) (hk : ∀ x0 w', K x0 w' → K' x0 w') : c_counts_Counts_List a0 w K' :=
  Calls.mono h fun e w' hh => by obtain ⟨x0, he, hx⟩ := hh; exact ⟨x0, he, hk _ _ hx⟩

/-- (*goosepond/join.Table).Bytes -/
abbrev n_join_Table_Bytes : FuncId := 32
def c_join_Table_Bytes (a0 : Option Addr) (w : World) (K : Int → World → Prop) : Prop :=
  Calls Tryz.prog 32 ⟨[(Value.pointer a0)]⟩ w fun e w' => ∃ y6 : Int, e = .returned (Value.int .i64 y6) ∧ K y6 w'
theorem cm_join_Table_Bytes {a0 w K K'} (h : c_join_Table_Bytes a0 w K) (hk : ∀ x0 w', K x0 w' → K' x0 w') : c_join_Table_Bytes a0 w K' :=
  Calls.mono h fun e w' hh => by obtain ⟨x0, he, hx⟩ := hh; exact ⟨x0, he, hk _ _ hx⟩

/-- goosepond/goosepondlaw32.B4Nobody -/
def s_law32_B4Nobody (a0 : SliceV) (a1 : Int) (w : World) (K : Bool → World → Prop) : Prop :=
 (Al w (.cells ⟨((Value.int .u8 0) :: (Value.int .u8 0) :: (Value.int .u8 0) :: (Value.int .u8 0) :: (Value.int .u8 0) :: (Value.int .u8 0) :: (Value.int .u8 0) :: (Value.int .u8 0) :: (Value.int .u8 0) :: (Value.int .u8 0) :: (Value.int .u8 0) :: (Value.int .u8 0) :: (Value.int .u8 0) :: (Value.int .u8 0) :: (Value.int .u8 0) :: (Value.int .u8 0) :: (Value.int .u8 0) :: (Value.int .u8 0) :: (Value.int .u8 0) :: (Value.int .u8 0) :: (Value.int .u8 0) :: (Value.int .u8 0) :: (Value.int .u8 0) :: (Value.int .u8 0) :: (Value.int .u8 0) :: (Value.int .u8 0) :: (Value.int .u8 0) :: (Value.int .u8 0) :: (Value.int .u8 0) :: (Value.int .u8 0) :: (Value.int .u8 0) :: (Value.int .u8 0) :: (Value.int .i64 0) :: (Value.int .i64 0) :: (Value.int .i64 0) :: (Value.int .i64 0) :: (Value.int .i64 0) :: (Value.pointer none) :: (Value.pointer none) :: (Value.int .i64 0) :: (Value.int .i64 0) :: [])⟩ 31) fun a4 w3 =>
 c_b4_B4_Advance none a1 w3 fun w5 =>
 c_b4_B4_Host none a0 w5 fun r6 r7 r8 w9 =>
 c_b4_B4_Tunnel (some a4) a0 w9 fun r10 r11 r12 w13 =>
 let J14 : Bool → World → Prop := fun j15 w16 =>
 (K j15 w16)
 (bif (r8 == 1) then
 (bif (r12 == 1) then
 c_b4_B4_Counts none w13 fun r17 w18 =>
 (bif ((r17.len : Int) == 0) then
 c_b4_B4_Bytes (some a4) w18 fun r19 w20 =>
 (bif (r19 == 0) then
 c_law32_awake  w20 fun r21 w22 =>
 J14 r21 w22
 else
 J14 false w20)
 else
 J14 false w18)
 else
 J14 false w13)
 else
 J14 false w13))
theorem e_law32_B4Nobody (a0 : SliceV) (a1 : Int) (w : World) (K : Bool → World → Prop) : den Tryz.prog 48 (bodyOf Tryz.f3) none (.seq .leaf (.seq .leaf (.seq .leaf (.seq .leaf (.seq .leaf (.seq .leaf (.seq .leaf .leaf))))))) (argEnv 0 [(Value.slice a0.a a0.len a0.cap), (Value.int .i64 a1)]) [] w (retK Tryz.prog [.tmp 4] [.one .bool] K) = s_law32_B4Nobody a0 a1 w K := by kernel_rfl
theorem ok_law32_B4Nobody {a0 a1 w K} (h : s_law32_B4Nobody a0 a1 w K) : c_law32_B4Nobody a0 a1 w K :=
  fn_sound pok Tryz.func3 (fn := Tryz.f3) (c := bodyOf Tryz.f3) (nt := 48) (by kernel_rfl) (by kernel_rfl) (rs := [.tmp 4]) (by kernel_rfl) [.one .bool] K (.seq .leaf (.seq .leaf (.seq .leaf (.seq .leaf (.seq .leaf (.seq .leaf (.seq .leaf .leaf))))))) [(Value.slice a0.a a0.len a0.cap), (Value.int .i64 a1)] (by kernel_rfl) w ((e_law32_B4Nobody a0 a1 w K).mpr h)

/-- (*goosepond/b4.B4).Advance -/
def s_b4_B4_Advance (a0 : Option Addr) (a1 : Int) (w : World) (K : World → Prop) : Prop :=
 (c_b4_B4_ready a0 w fun r3 w4 =>
 (bif (!r3) then
 K w4
 else
 ∃ a5 : Addr, a0 = some a5 ∧
 Ld (.int .i64) w4 (a5.add 39) fun x6 =>
 ∃ a7 : Addr, a0 = some a7 ∧
 St w4 (a7.add 39) (Value.int .i64 (if (if (1099511627776 : Int) < a1 then 1099511627776 else a1) > x6 then (if (1099511627776 : Int) < a1 then 1099511627776 else a1) else x6)) fun w8 =>
 ∃ a9 : Addr, a0 = some a9 ∧
 Ld .ptr w8.drew (a9.add 37) fun x10 =>
 ∃ a11 : Addr, a0 = some a11 ∧
 Ld (.int .i64) w8.drew (a11.add 39) fun x12 =>
 c_join_Table_Expire x10 x12 w8.drew fun r13 w14 =>
 K w14))
theorem e_b4_B4_Advance (a0 : Option Addr) (a1 : Int) (w : World) (K : World → Prop) : den Tryz.prog 26 (bodyOf Tryz.f5) none (.seq (.seq .leaf (.cond .leaf .leaf)) (.seq .leaf .leaf)) (argEnv 0 [(Value.pointer a0), (Value.int .i64 a1)]) [] w (retK Tryz.prog [] [] K) = s_b4_B4_Advance a0 a1 w K := by kernel_rfl
theorem ok_b4_B4_Advance {a0 a1 w K} (h : s_b4_B4_Advance a0 a1 w K) : c_b4_B4_Advance a0 a1 w K :=
  fn_sound pok Tryz.func5 (fn := Tryz.f5) (c := bodyOf Tryz.f5) (nt := 26) (by kernel_rfl) (by kernel_rfl) (rs := []) (by kernel_rfl) [] K (.seq (.seq .leaf (.cond .leaf .leaf)) (.seq .leaf .leaf)) [(Value.pointer a0), (Value.int .i64 a1)] (by kernel_rfl) w ((e_b4_B4_Advance a0 a1 w K).mpr h)

/-- (*goosepond/b4.B4).Host -/
def s_b4_B4_Host (a0 : Option Addr) (a1 : SliceV) (w : World) (K : SliceV → SliceV → Int → World → Prop) : Prop :=
 (c_b4_B4_ready a0 w fun r3 w4 =>
 (bif (!r3) then
 K ⟨none, 0, 0⟩ ⟨none, 0, 0⟩ 1 w4
 else
 c_v4_Parse a1 w4 fun r5 r6 r7 r8 r9 r10 r11 r12 r13 r14 r15 r16 w17 =>
 Al w17 (.cells ⟨[(Value.int .i64 0), (Value.int .i64 0), (Value.int .i64 0), (Value.int .i64 0), (Value.int .i64 0), (Value.int .i64 0), (Value.int .i64 0), (Value.bool false), (Value.bool false), (Value.slice none 0 0), (Value.slice none 0 0)]⟩ 61) fun a19 w18 =>
 StN [(Value.int .i64 r5), (Value.int .i64 r6), (Value.int .i64 r7), (Value.int .i64 r8), (Value.int .i64 r9), (Value.int .i64 r10), (Value.int .i64 r11), (Value.bool r12), (Value.bool r13), (Value.slice r14.a r14.len r14.cap), (Value.slice r15.a r15.len r15.cap)] w18 a19 0 fun w20 =>
 (bif (r16 != 0) then
 c_b4_B4_drop a0 1 w20 fun r21 w22 =>
 K ⟨none, 0, 0⟩ ⟨none, 0, 0⟩ r21 w22
 else
 Ld (.int .i64) w20 (a19.add 5) fun x23 =>
 c_four_Host x23 w20 fun r24 w25 =>
 (bif (!r24) then
 c_b4_B4_drop a0 2 w25 fun r26 w27 =>
 K ⟨none, 0, 0⟩ ⟨none, 0, 0⟩ r26 w27
 else
 Ld (.int .i64) w25 (a19.add 0) fun x28 =>
 Ld (.int .i64) w25 (a19.add 1) fun x29 =>
 Ld (.int .i64) w25 (a19.add 2) fun x30 =>
 Ld (.int .i64) w25 (a19.add 3) fun x31 =>
 Ld (.int .i64) w25 (a19.add 4) fun x32 =>
 Ld (.int .i64) w25 (a19.add 5) fun x33 =>
 Ld (.int .i64) w25 (a19.add 6) fun x34 =>
 Ld .bool w25 (a19.add 7) fun x35 =>
 Ld .bool w25 (a19.add 8) fun x36 =>
 Ld .slice w25 (a19.add 9) fun x37 =>
 Ld .slice w25 (a19.add 10) fun x38 =>
 c_wrap_Hop x28 x29 x30 x31 x32 x33 x34 x35 x36 x37 x38 w25 fun r39 r40 r41 r42 r43 r44 r45 r46 r47 r48 r49 r50 w51 =>
 Al w51 (.cells ⟨[(Value.int .i64 0), (Value.int .i64 0), (Value.int .i64 0), (Value.int .i64 0), (Value.int .i64 0), (Value.int .i64 0), (Value.int .i64 0), (Value.bool false), (Value.bool false), (Value.slice none 0 0), (Value.slice none 0 0)]⟩ 61) fun a53 w52 =>
 StN [(Value.int .i64 r39), (Value.int .i64 r40), (Value.int .i64 r41), (Value.int .i64 r42), (Value.int .i64 r43), (Value.int .i64 r44), (Value.int .i64 r45), (Value.bool r46), (Value.bool r47), (Value.slice r48.a r48.len r48.cap), (Value.slice r49.a r49.len r49.cap)] w52 a53 0 fun w54 =>
 (bif (!r50) then
 Ld (.int .i64) w54 (a19.add 0) fun x55 =>
 Ld (.int .i64) w54 (a19.add 1) fun x56 =>
 Ld (.int .i64) w54 (a19.add 2) fun x57 =>
 Ld (.int .i64) w54 (a19.add 3) fun x58 =>
 Ld (.int .i64) w54 (a19.add 4) fun x59 =>
 Ld (.int .i64) w54 (a19.add 5) fun x60 =>
 Ld (.int .i64) w54 (a19.add 6) fun x61 =>
 Ld .bool w54 (a19.add 7) fun x62 =>
 Ld .bool w54 (a19.add 8) fun x63 =>
 Ld .slice w54 (a19.add 9) fun x64 =>
 Ld .slice w54 (a19.add 10) fun x65 =>
 c_b4_over x55 x56 x57 x58 x59 x60 x61 x62 x63 x64 x65 w54 fun r66 w67 =>
 c_b4_B4_drop a0 3 w67 fun r68 w69 =>
 K ⟨none, 0, 0⟩ r66 r68 w69
 else
 Ld (.int .i64) w54 (a53.add 0) fun x70 =>
 Ld (.int .i64) w54 (a53.add 1) fun x71 =>
 Ld (.int .i64) w54 (a53.add 2) fun x72 =>
 Ld (.int .i64) w54 (a53.add 3) fun x73 =>
 Ld (.int .i64) w54 (a53.add 4) fun x74 =>
 Ld (.int .i64) w54 (a53.add 5) fun x75 =>
 Ld (.int .i64) w54 (a53.add 6) fun x76 =>
 Ld .bool w54 (a53.add 7) fun x77 =>
 Ld .bool w54 (a53.add 8) fun x78 =>
 Ld .slice w54 (a53.add 9) fun x79 =>
 Ld .slice w54 (a53.add 10) fun x80 =>
 c_v4_Build x70 x71 x72 x73 x74 x75 x76 x77 x78 x79 x80 w54 fun r81 r82 w83 =>
 let J84 : Int → Addr → World → Prop := fun j85 j86 w87 =>
 ((bif (j85 != 0) then
 c_b4_B4_drop a0 11 w87 fun r88 w89 =>
 K ⟨none, 0, 0⟩ ⟨none, 0, 0⟩ r88 w89
 else
 Ld (.int .i64) w87 (j86.add 0) fun x90 =>
 Ld (.int .i64) w87 (j86.add 1) fun x91 =>
 Ld (.int .i64) w87 (j86.add 2) fun x92 =>
 Ld (.int .i64) w87 (j86.add 3) fun x93 =>
 Ld (.int .u8) w87 (j86.add 4) fun x94 =>
 Ld (.int .u8) w87 (j86.add 5) fun x95 =>
 Ld (.int .u8) w87 (j86.add 6) fun x96 =>
 Ld (.int .u8) w87 (j86.add 7) fun x97 =>
 Ld (.int .u8) w87 (j86.add 8) fun x98 =>
 Ld (.int .u8) w87 (j86.add 9) fun x99 =>
 Ld (.int .u8) w87 (j86.add 10) fun x100 =>
 Ld (.int .u8) w87 (j86.add 11) fun x101 =>
 Ld (.int .u8) w87 (j86.add 12) fun x102 =>
 Ld (.int .u8) w87 (j86.add 13) fun x103 =>
 Ld (.int .u8) w87 (j86.add 14) fun x104 =>
 Ld (.int .u8) w87 (j86.add 15) fun x105 =>
 Ld (.int .u8) w87 (j86.add 16) fun x106 =>
 Ld (.int .u8) w87 (j86.add 17) fun x107 =>
 Ld (.int .u8) w87 (j86.add 18) fun x108 =>
 Ld (.int .u8) w87 (j86.add 19) fun x109 =>
 Ld (.int .u8) w87 (j86.add 20) fun x110 =>
 Ld (.int .u8) w87 (j86.add 21) fun x111 =>
 Ld (.int .u8) w87 (j86.add 22) fun x112 =>
 Ld (.int .u8) w87 (j86.add 23) fun x113 =>
 Ld (.int .u8) w87 (j86.add 24) fun x114 =>
 Ld (.int .u8) w87 (j86.add 25) fun x115 =>
 Ld (.int .u8) w87 (j86.add 26) fun x116 =>
 Ld (.int .u8) w87 (j86.add 27) fun x117 =>
 Ld (.int .u8) w87 (j86.add 28) fun x118 =>
 Ld (.int .u8) w87 (j86.add 29) fun x119 =>
 Ld (.int .u8) w87 (j86.add 30) fun x120 =>
 Ld (.int .u8) w87 (j86.add 31) fun x121 =>
 Ld (.int .u8) w87 (j86.add 32) fun x122 =>
 Ld (.int .u8) w87 (j86.add 33) fun x123 =>
 Ld (.int .u8) w87 (j86.add 34) fun x124 =>
 Ld (.int .u8) w87 (j86.add 35) fun x125 =>
 Ld .slice w87 (j86.add 36) fun x126 =>
 c_b4_B4_cut a0 x90 x91 x92 x93 x94 x95 x96 x97 x98 x99 x100 x101 x102 x103 x104 x105 x106 x107 x108 x109 x110 x111 x112 x113 x114 x115 x116 x117 x118 x119 x120 x121 x122 x123 x124 x125 x126 w87 fun r127 r128 w129 =>
 (bif (r128 != 0) then
 c_b4_B4_drop a0 11 w129 fun r130 w131 =>
 K ⟨none, 0, 0⟩ ⟨none, 0, 0⟩ r130 w131
 else
 K r127 ⟨none, 0, 0⟩ 0 w129)))
 ∃ a132 : Addr, a0 = some a132 ∧
 Ld (.int .u8) w83.drew (a132.add 0) fun x133 =>
 Ld (.int .u8) w83.drew (a132.add 1) fun x134 =>
 Ld (.int .u8) w83.drew (a132.add 2) fun x135 =>
 Ld (.int .u8) w83.drew (a132.add 3) fun x136 =>
 Ld (.int .u8) w83.drew (a132.add 4) fun x137 =>
 Ld (.int .u8) w83.drew (a132.add 5) fun x138 =>
 Ld (.int .u8) w83.drew (a132.add 6) fun x139 =>
 Ld (.int .u8) w83.drew (a132.add 7) fun x140 =>
 Ld (.int .u8) w83.drew (a132.add 8) fun x141 =>
 Ld (.int .u8) w83.drew (a132.add 9) fun x142 =>
 Ld (.int .u8) w83.drew (a132.add 10) fun x143 =>
 Ld (.int .u8) w83.drew (a132.add 11) fun x144 =>
 Ld (.int .u8) w83.drew (a132.add 12) fun x145 =>
 Ld (.int .u8) w83.drew (a132.add 13) fun x146 =>
 Ld (.int .u8) w83.drew (a132.add 14) fun x147 =>
 Ld (.int .u8) w83.drew (a132.add 15) fun x148 =>
 ∃ a149 : Addr, a0 = some a149 ∧
 Ld (.int .u8) w83.drew ((a149.add 16).add 0) fun x150 =>
 Ld (.int .u8) w83.drew ((a149.add 16).add 1) fun x151 =>
 Ld (.int .u8) w83.drew ((a149.add 16).add 2) fun x152 =>
 Ld (.int .u8) w83.drew ((a149.add 16).add 3) fun x153 =>
 Ld (.int .u8) w83.drew ((a149.add 16).add 4) fun x154 =>
 Ld (.int .u8) w83.drew ((a149.add 16).add 5) fun x155 =>
 Ld (.int .u8) w83.drew ((a149.add 16).add 6) fun x156 =>
 Ld (.int .u8) w83.drew ((a149.add 16).add 7) fun x157 =>
 Ld (.int .u8) w83.drew ((a149.add 16).add 8) fun x158 =>
 Ld (.int .u8) w83.drew ((a149.add 16).add 9) fun x159 =>
 Ld (.int .u8) w83.drew ((a149.add 16).add 10) fun x160 =>
 Ld (.int .u8) w83.drew ((a149.add 16).add 11) fun x161 =>
 Ld (.int .u8) w83.drew ((a149.add 16).add 12) fun x162 =>
 Ld (.int .u8) w83.drew ((a149.add 16).add 13) fun x163 =>
 Ld (.int .u8) w83.drew ((a149.add 16).add 14) fun x164 =>
 Ld (.int .u8) w83.drew ((a149.add 16).add 15) fun x165 =>
 ∃ a166 : Addr, a0 = some a166 ∧
 Ld (.int .i64) w83.drew (a166.add 33) fun x167 =>
 (c_wrap_Wrap x133 x134 x135 x136 x137 x138 x139 x140 x141 x142 x143 x144 x145 x146 x147 x148 x150 x151 x152 x153 x154 x155 x156 x157 x158 x159 x160 x161 x162 x163 x164 x165 x167 r81 w83.drew fun r168 r169 r170 r171 r172 r173 r174 r175 r176 r177 r178 r179 r180 r181 r182 r183 r184 r185 r186 r187 r188 r189 r190 r191 r192 r193 r194 r195 r196 r197 r198 r199 r200 r201 r202 r203 r204 r205 w206 =>
 Al w206 (.cells ⟨((Value.int .i64 0) :: (Value.int .i64 0) :: (Value.int .i64 0) :: (Value.int .i64 0) :: (Value.int .u8 0) :: (Value.int .u8 0) :: (Value.int .u8 0) :: (Value.int .u8 0) :: (Value.int .u8 0) :: (Value.int .u8 0) :: (Value.int .u8 0) :: (Value.int .u8 0) :: (Value.int .u8 0) :: (Value.int .u8 0) :: (Value.int .u8 0) :: (Value.int .u8 0) :: (Value.int .u8 0) :: (Value.int .u8 0) :: (Value.int .u8 0) :: (Value.int .u8 0) :: (Value.int .u8 0) :: (Value.int .u8 0) :: (Value.int .u8 0) :: (Value.int .u8 0) :: (Value.int .u8 0) :: (Value.int .u8 0) :: (Value.int .u8 0) :: (Value.int .u8 0) :: (Value.int .u8 0) :: (Value.int .u8 0) :: (Value.int .u8 0) :: (Value.int .u8 0) :: (Value.int .u8 0) :: (Value.int .u8 0) :: (Value.int .u8 0) :: (Value.int .u8 0) :: (Value.slice none 0 0) :: [])⟩ 70) fun a208 w207 =>
 w207.cell? (a166.add 33) = some (Value.int .i64 x167) ∧
 w207.cell? ((a149.add 16).add 0) = some (Value.int .u8 x150) ∧
 w207.cell? ((a149.add 16).add 1) = some (Value.int .u8 x151) ∧
 w207.cell? ((a149.add 16).add 2) = some (Value.int .u8 x152) ∧
 w207.cell? ((a149.add 16).add 3) = some (Value.int .u8 x153) ∧
 w207.cell? ((a149.add 16).add 4) = some (Value.int .u8 x154) ∧
 w207.cell? ((a149.add 16).add 5) = some (Value.int .u8 x155) ∧
 w207.cell? ((a149.add 16).add 6) = some (Value.int .u8 x156) ∧
 w207.cell? ((a149.add 16).add 7) = some (Value.int .u8 x157) ∧
 w207.cell? ((a149.add 16).add 8) = some (Value.int .u8 x158) ∧
 w207.cell? ((a149.add 16).add 9) = some (Value.int .u8 x159) ∧
 w207.cell? ((a149.add 16).add 10) = some (Value.int .u8 x160) ∧
 w207.cell? ((a149.add 16).add 11) = some (Value.int .u8 x161) ∧
 w207.cell? ((a149.add 16).add 12) = some (Value.int .u8 x162) ∧
 w207.cell? ((a149.add 16).add 13) = some (Value.int .u8 x163) ∧
 w207.cell? ((a149.add 16).add 14) = some (Value.int .u8 x164) ∧
 w207.cell? ((a149.add 16).add 15) = some (Value.int .u8 x165) ∧
 w207.cell? (a132.add 0) = some (Value.int .u8 x133) ∧
 w207.cell? (a132.add 1) = some (Value.int .u8 x134) ∧
 w207.cell? (a132.add 2) = some (Value.int .u8 x135) ∧
 w207.cell? (a132.add 3) = some (Value.int .u8 x136) ∧
 w207.cell? (a132.add 4) = some (Value.int .u8 x137) ∧
 w207.cell? (a132.add 5) = some (Value.int .u8 x138) ∧
 w207.cell? (a132.add 6) = some (Value.int .u8 x139) ∧
 w207.cell? (a132.add 7) = some (Value.int .u8 x140) ∧
 w207.cell? (a132.add 8) = some (Value.int .u8 x141) ∧
 w207.cell? (a132.add 9) = some (Value.int .u8 x142) ∧
 w207.cell? (a132.add 10) = some (Value.int .u8 x143) ∧
 w207.cell? (a132.add 11) = some (Value.int .u8 x144) ∧
 w207.cell? (a132.add 12) = some (Value.int .u8 x145) ∧
 w207.cell? (a132.add 13) = some (Value.int .u8 x146) ∧
 w207.cell? (a132.add 14) = some (Value.int .u8 x147) ∧
 w207.cell? (a132.add 15) = some (Value.int .u8 x148) ∧
 StN ((Value.int .i64 r168) :: (Value.int .i64 r169) :: (Value.int .i64 r170) :: (Value.int .i64 r171) :: (Value.int .u8 r172) :: (Value.int .u8 r173) :: (Value.int .u8 r174) :: (Value.int .u8 r175) :: (Value.int .u8 r176) :: (Value.int .u8 r177) :: (Value.int .u8 r178) :: (Value.int .u8 r179) :: (Value.int .u8 r180) :: (Value.int .u8 r181) :: (Value.int .u8 r182) :: (Value.int .u8 r183) :: (Value.int .u8 r184) :: (Value.int .u8 r185) :: (Value.int .u8 r186) :: (Value.int .u8 r187) :: (Value.int .u8 r188) :: (Value.int .u8 r189) :: (Value.int .u8 r190) :: (Value.int .u8 r191) :: (Value.int .u8 r192) :: (Value.int .u8 r193) :: (Value.int .u8 r194) :: (Value.int .u8 r195) :: (Value.int .u8 r196) :: (Value.int .u8 r197) :: (Value.int .u8 r198) :: (Value.int .u8 r199) :: (Value.int .u8 r200) :: (Value.int .u8 r201) :: (Value.int .u8 r202) :: (Value.int .u8 r203) :: (Value.slice r204.a r204.len r204.cap) :: []) w207 a208 0 fun w209 =>
 J84 r205 a208 w209) ∧
 (Al w83.drew (.cells ⟨((Value.int .i64 0) :: (Value.int .i64 0) :: (Value.int .i64 0) :: (Value.int .i64 0) :: (Value.int .u8 0) :: (Value.int .u8 0) :: (Value.int .u8 0) :: (Value.int .u8 0) :: (Value.int .u8 0) :: (Value.int .u8 0) :: (Value.int .u8 0) :: (Value.int .u8 0) :: (Value.int .u8 0) :: (Value.int .u8 0) :: (Value.int .u8 0) :: (Value.int .u8 0) :: (Value.int .u8 0) :: (Value.int .u8 0) :: (Value.int .u8 0) :: (Value.int .u8 0) :: (Value.int .u8 0) :: (Value.int .u8 0) :: (Value.int .u8 0) :: (Value.int .u8 0) :: (Value.int .u8 0) :: (Value.int .u8 0) :: (Value.int .u8 0) :: (Value.int .u8 0) :: (Value.int .u8 0) :: (Value.int .u8 0) :: (Value.int .u8 0) :: (Value.int .u8 0) :: (Value.int .u8 0) :: (Value.int .u8 0) :: (Value.int .u8 0) :: (Value.int .u8 0) :: (Value.slice none 0 0) :: [])⟩ 70) fun a211 w210 =>
 w210.cell? (a166.add 33) = some (Value.int .i64 x167) ∧
 w210.cell? ((a149.add 16).add 0) = some (Value.int .u8 x150) ∧
 w210.cell? ((a149.add 16).add 1) = some (Value.int .u8 x151) ∧
 w210.cell? ((a149.add 16).add 2) = some (Value.int .u8 x152) ∧
 w210.cell? ((a149.add 16).add 3) = some (Value.int .u8 x153) ∧
 w210.cell? ((a149.add 16).add 4) = some (Value.int .u8 x154) ∧
 w210.cell? ((a149.add 16).add 5) = some (Value.int .u8 x155) ∧
 w210.cell? ((a149.add 16).add 6) = some (Value.int .u8 x156) ∧
 w210.cell? ((a149.add 16).add 7) = some (Value.int .u8 x157) ∧
 w210.cell? ((a149.add 16).add 8) = some (Value.int .u8 x158) ∧
 w210.cell? ((a149.add 16).add 9) = some (Value.int .u8 x159) ∧
 w210.cell? ((a149.add 16).add 10) = some (Value.int .u8 x160) ∧
 w210.cell? ((a149.add 16).add 11) = some (Value.int .u8 x161) ∧
 w210.cell? ((a149.add 16).add 12) = some (Value.int .u8 x162) ∧
 w210.cell? ((a149.add 16).add 13) = some (Value.int .u8 x163) ∧
 w210.cell? ((a149.add 16).add 14) = some (Value.int .u8 x164) ∧
 w210.cell? ((a149.add 16).add 15) = some (Value.int .u8 x165) ∧
 w210.cell? (a132.add 0) = some (Value.int .u8 x133) ∧
 w210.cell? (a132.add 1) = some (Value.int .u8 x134) ∧
 w210.cell? (a132.add 2) = some (Value.int .u8 x135) ∧
 w210.cell? (a132.add 3) = some (Value.int .u8 x136) ∧
 w210.cell? (a132.add 4) = some (Value.int .u8 x137) ∧
 w210.cell? (a132.add 5) = some (Value.int .u8 x138) ∧
 w210.cell? (a132.add 6) = some (Value.int .u8 x139) ∧
 w210.cell? (a132.add 7) = some (Value.int .u8 x140) ∧
 w210.cell? (a132.add 8) = some (Value.int .u8 x141) ∧
 w210.cell? (a132.add 9) = some (Value.int .u8 x142) ∧
 w210.cell? (a132.add 10) = some (Value.int .u8 x143) ∧
 w210.cell? (a132.add 11) = some (Value.int .u8 x144) ∧
 w210.cell? (a132.add 12) = some (Value.int .u8 x145) ∧
 w210.cell? (a132.add 13) = some (Value.int .u8 x146) ∧
 w210.cell? (a132.add 14) = some (Value.int .u8 x147) ∧
 w210.cell? (a132.add 15) = some (Value.int .u8 x148) ∧
 c_wrap_Wrap x133 x134 x135 x136 x137 x138 x139 x140 x141 x142 x143 x144 x145 x146 x147 x148 x150 x151 x152 x153 x154 x155 x156 x157 x158 x159 x160 x161 x162 x163 x164 x165 x167 r81 w210 fun r212 r213 r214 r215 r216 r217 r218 r219 r220 r221 r222 r223 r224 r225 r226 r227 r228 r229 r230 r231 r232 r233 r234 r235 r236 r237 r238 r239 r240 r241 r242 r243 r244 r245 r246 r247 r248 r249 w250 =>
 StN ((Value.int .i64 r212) :: (Value.int .i64 r213) :: (Value.int .i64 r214) :: (Value.int .i64 r215) :: (Value.int .u8 r216) :: (Value.int .u8 r217) :: (Value.int .u8 r218) :: (Value.int .u8 r219) :: (Value.int .u8 r220) :: (Value.int .u8 r221) :: (Value.int .u8 r222) :: (Value.int .u8 r223) :: (Value.int .u8 r224) :: (Value.int .u8 r225) :: (Value.int .u8 r226) :: (Value.int .u8 r227) :: (Value.int .u8 r228) :: (Value.int .u8 r229) :: (Value.int .u8 r230) :: (Value.int .u8 r231) :: (Value.int .u8 r232) :: (Value.int .u8 r233) :: (Value.int .u8 r234) :: (Value.int .u8 r235) :: (Value.int .u8 r236) :: (Value.int .u8 r237) :: (Value.int .u8 r238) :: (Value.int .u8 r239) :: (Value.int .u8 r240) :: (Value.int .u8 r241) :: (Value.int .u8 r242) :: (Value.int .u8 r243) :: (Value.int .u8 r244) :: (Value.int .u8 r245) :: (Value.int .u8 r246) :: (Value.int .u8 r247) :: (Value.slice r248.a r248.len r248.cap) :: []) w250 a211 0 fun w251 =>
 J84 r249 a211 w251))))))
theorem e_b4_B4_Host (a0 : Option Addr) (a1 : SliceV) (w : World) (K : SliceV → SliceV → Int → World → Prop) : den Tryz.prog 84 (bodyOf Tryz.f6) none (.seq .leaf (.seq (.seq .leaf (.cond (.seq .leaf .leaf) .leaf)) (.seq .leaf (.seq (.seq .leaf (.cond (.seq .leaf .leaf) .leaf)) (.seq (.seq .leaf (.cond (.seq .leaf .leaf) .leaf)) (.seq .leaf (.seq (.seq .leaf (.cond (.seq .leaf .leaf) .leaf)) (.seq .leaf (.seq .leaf (.seq (.seq .leaf (.cond (.seq .leaf .leaf) .leaf)) (.seq .leaf (.seq (.seq .leaf (.cond (.seq .leaf .leaf) .leaf)) (.seq .leaf .leaf))))))))))))) (argEnv 0 [(Value.pointer a0), (Value.slice a1.a a1.len a1.cap)]) [] w (retK Tryz.prog [.tmp 4, .tmp 5, .tmp 6] [.one .slice, .one .slice, .one (.int .i64)] K) = s_b4_B4_Host a0 a1 w K := by kernel_rfl
theorem ok_b4_B4_Host {a0 a1 w K} (h : s_b4_B4_Host a0 a1 w K) : c_b4_B4_Host a0 a1 w K :=
  fn_sound pok Tryz.func6 (fn := Tryz.f6) (c := bodyOf Tryz.f6) (nt := 84) (by kernel_rfl) (by kernel_rfl) (rs := [.tmp 4, .tmp 5, .tmp 6]) (by kernel_rfl) [.one .slice, .one .slice, .one (.int .i64)] K (.seq .leaf (.seq (.seq .leaf (.cond (.seq .leaf .leaf) .leaf)) (.seq .leaf (.seq (.seq .leaf (.cond (.seq .leaf .leaf) .leaf)) (.seq (.seq .leaf (.cond (.seq .leaf .leaf) .leaf)) (.seq .leaf (.seq (.seq .leaf (.cond (.seq .leaf .leaf) .leaf)) (.seq .leaf (.seq .leaf (.seq (.seq .leaf (.cond (.seq .leaf .leaf) .leaf)) (.seq .leaf (.seq (.seq .leaf (.cond (.seq .leaf .leaf) .leaf)) (.seq .leaf .leaf))))))))))))) [(Value.pointer a0), (Value.slice a1.a a1.len a1.cap)] (by kernel_rfl) w ((e_b4_B4_Host a0 a1 w K).mpr h)

/-- (*goosepond/b4.B4).Tunnel -/
def s_b4_B4_Tunnel (a0 : Option Addr) (a1 : SliceV) (w : World) (K : SliceV → SliceV → Int → World → Prop) : Prop :=
 (c_b4_B4_ready a0 w fun r3 w4 =>
 (bif (!r3) then
 K ⟨none, 0, 0⟩ ⟨none, 0, 0⟩ 1 w4
 else
 c_v6_Parse a1 w4 fun r5 r6 r7 r8 r9 r10 r11 r12 r13 r14 r15 r16 r17 r18 r19 r20 r21 r22 r23 r24 r25 r26 r27 r28 r29 r30 r31 r32 r33 r34 r35 r36 r37 r38 r39 r40 r41 r42 w43 =>
 Al w43 (.cells ⟨((Value.int .i64 0) :: (Value.int .i64 0) :: (Value.int .i64 0) :: (Value.int .i64 0) :: (Value.int .u8 0) :: (Value.int .u8 0) :: (Value.int .u8 0) :: (Value.int .u8 0) :: (Value.int .u8 0) :: (Value.int .u8 0) :: (Value.int .u8 0) :: (Value.int .u8 0) :: (Value.int .u8 0) :: (Value.int .u8 0) :: (Value.int .u8 0) :: (Value.int .u8 0) :: (Value.int .u8 0) :: (Value.int .u8 0) :: (Value.int .u8 0) :: (Value.int .u8 0) :: (Value.int .u8 0) :: (Value.int .u8 0) :: (Value.int .u8 0) :: (Value.int .u8 0) :: (Value.int .u8 0) :: (Value.int .u8 0) :: (Value.int .u8 0) :: (Value.int .u8 0) :: (Value.int .u8 0) :: (Value.int .u8 0) :: (Value.int .u8 0) :: (Value.int .u8 0) :: (Value.int .u8 0) :: (Value.int .u8 0) :: (Value.int .u8 0) :: (Value.int .u8 0) :: (Value.slice none 0 0) :: [])⟩ 70) fun a45 w44 =>
 StN ((Value.int .i64 r5) :: (Value.int .i64 r6) :: (Value.int .i64 r7) :: (Value.int .i64 r8) :: (Value.int .u8 r9) :: (Value.int .u8 r10) :: (Value.int .u8 r11) :: (Value.int .u8 r12) :: (Value.int .u8 r13) :: (Value.int .u8 r14) :: (Value.int .u8 r15) :: (Value.int .u8 r16) :: (Value.int .u8 r17) :: (Value.int .u8 r18) :: (Value.int .u8 r19) :: (Value.int .u8 r20) :: (Value.int .u8 r21) :: (Value.int .u8 r22) :: (Value.int .u8 r23) :: (Value.int .u8 r24) :: (Value.int .u8 r25) :: (Value.int .u8 r26) :: (Value.int .u8 r27) :: (Value.int .u8 r28) :: (Value.int .u8 r29) :: (Value.int .u8 r30) :: (Value.int .u8 r31) :: (Value.int .u8 r32) :: (Value.int .u8 r33) :: (Value.int .u8 r34) :: (Value.int .u8 r35) :: (Value.int .u8 r36) :: (Value.int .u8 r37) :: (Value.int .u8 r38) :: (Value.int .u8 r39) :: (Value.int .u8 r40) :: (Value.slice r41.a r41.len r41.cap) :: []) w44 a45 0 fun w46 =>
 (bif (r42 != 0) then
 c_b4_B4_drop a0 1 w46 fun r47 w48 =>
 K ⟨none, 0, 0⟩ ⟨none, 0, 0⟩ r47 w48
 else
 Ld (.int .u8) w46.drew ((a45.add 20).add 0) fun x49 =>
 Ld (.int .u8) w46.drew ((a45.add 20).add 1) fun x50 =>
 Ld (.int .u8) w46.drew ((a45.add 20).add 2) fun x51 =>
 Ld (.int .u8) w46.drew ((a45.add 20).add 3) fun x52 =>
 Ld (.int .u8) w46.drew ((a45.add 20).add 4) fun x53 =>
 Ld (.int .u8) w46.drew ((a45.add 20).add 5) fun x54 =>
 Ld (.int .u8) w46.drew ((a45.add 20).add 6) fun x55 =>
 Ld (.int .u8) w46.drew ((a45.add 20).add 7) fun x56 =>
 Ld (.int .u8) w46.drew ((a45.add 20).add 8) fun x57 =>
 Ld (.int .u8) w46.drew ((a45.add 20).add 9) fun x58 =>
 Ld (.int .u8) w46.drew ((a45.add 20).add 10) fun x59 =>
 Ld (.int .u8) w46.drew ((a45.add 20).add 11) fun x60 =>
 Ld (.int .u8) w46.drew ((a45.add 20).add 12) fun x61 =>
 Ld (.int .u8) w46.drew ((a45.add 20).add 13) fun x62 =>
 Ld (.int .u8) w46.drew ((a45.add 20).add 14) fun x63 =>
 Ld (.int .u8) w46.drew ((a45.add 20).add 15) fun x64 =>
 ∃ a65 : Addr, a0 = some a65 ∧
 Ld (.int .u8) w46.drew (a65.add 0) fun x66 =>
 Ld (.int .u8) w46.drew (a65.add 1) fun x67 =>
 Ld (.int .u8) w46.drew (a65.add 2) fun x68 =>
 Ld (.int .u8) w46.drew (a65.add 3) fun x69 =>
 Ld (.int .u8) w46.drew (a65.add 4) fun x70 =>
 Ld (.int .u8) w46.drew (a65.add 5) fun x71 =>
 Ld (.int .u8) w46.drew (a65.add 6) fun x72 =>
 Ld (.int .u8) w46.drew (a65.add 7) fun x73 =>
 Ld (.int .u8) w46.drew (a65.add 8) fun x74 =>
 Ld (.int .u8) w46.drew (a65.add 9) fun x75 =>
 Ld (.int .u8) w46.drew (a65.add 10) fun x76 =>
 Ld (.int .u8) w46.drew (a65.add 11) fun x77 =>
 Ld (.int .u8) w46.drew (a65.add 12) fun x78 =>
 Ld (.int .u8) w46.drew (a65.add 13) fun x79 =>
 Ld (.int .u8) w46.drew (a65.add 14) fun x80 =>
 Ld (.int .u8) w46.drew (a65.add 15) fun x81 =>
 (bif (!((x49 == x66) && ((x50 == x67) && ((x51 == x68) && ((x52 == x69) && ((x53 == x70) && ((x54 == x71) && ((x55 == x72) && ((x56 == x73) && ((x57 == x74) && ((x58 == x75) && ((x59 == x76) && ((x60 == x77) && ((x61 == x78) && ((x62 == x79) && ((x63 == x80) && ((x64 == x81) && true))))))))))))))))) then
 c_b4_B4_drop a0 2 w46.drew fun r82 w83 =>
 K ⟨none, 0, 0⟩ ⟨none, 0, 0⟩ r82 w83
 else
 Ld (.int .i64) w46.drew (a45.add 2) fun x84 =>
 (bif (x84 == 58) then
 Ld (.int .i64) w46.drew (a45.add 0) fun x85 =>
 Ld (.int .i64) w46.drew (a45.add 1) fun x86 =>
 Ld (.int .i64) w46.drew (a45.add 2) fun x87 =>
 Ld (.int .i64) w46.drew (a45.add 3) fun x88 =>
 Ld (.int .u8) w46.drew (a45.add 4) fun x89 =>
 Ld (.int .u8) w46.drew (a45.add 5) fun x90 =>
 Ld (.int .u8) w46.drew (a45.add 6) fun x91 =>
 Ld (.int .u8) w46.drew (a45.add 7) fun x92 =>
 Ld (.int .u8) w46.drew (a45.add 8) fun x93 =>
 Ld (.int .u8) w46.drew (a45.add 9) fun x94 =>
 Ld (.int .u8) w46.drew (a45.add 10) fun x95 =>
 Ld (.int .u8) w46.drew (a45.add 11) fun x96 =>
 Ld (.int .u8) w46.drew (a45.add 12) fun x97 =>
 Ld (.int .u8) w46.drew (a45.add 13) fun x98 =>
 Ld (.int .u8) w46.drew (a45.add 14) fun x99 =>
 Ld (.int .u8) w46.drew (a45.add 15) fun x100 =>
 Ld (.int .u8) w46.drew (a45.add 16) fun x101 =>
 Ld (.int .u8) w46.drew (a45.add 17) fun x102 =>
 Ld (.int .u8) w46.drew (a45.add 18) fun x103 =>
 Ld (.int .u8) w46.drew (a45.add 19) fun x104 =>
 Ld (.int .u8) w46.drew (a45.add 20) fun x105 =>
 Ld (.int .u8) w46.drew (a45.add 21) fun x106 =>
 Ld (.int .u8) w46.drew (a45.add 22) fun x107 =>
 Ld (.int .u8) w46.drew (a45.add 23) fun x108 =>
 Ld (.int .u8) w46.drew (a45.add 24) fun x109 =>
 Ld (.int .u8) w46.drew (a45.add 25) fun x110 =>
 Ld (.int .u8) w46.drew (a45.add 26) fun x111 =>
 Ld (.int .u8) w46.drew (a45.add 27) fun x112 =>
 Ld (.int .u8) w46.drew (a45.add 28) fun x113 =>
 Ld (.int .u8) w46.drew (a45.add 29) fun x114 =>
 Ld (.int .u8) w46.drew (a45.add 30) fun x115 =>
 Ld (.int .u8) w46.drew (a45.add 31) fun x116 =>
 Ld (.int .u8) w46.drew (a45.add 32) fun x117 =>
 Ld (.int .u8) w46.drew (a45.add 33) fun x118 =>
 Ld (.int .u8) w46.drew (a45.add 34) fun x119 =>
 Ld (.int .u8) w46.drew (a45.add 35) fun x120 =>
 Ld .slice w46.drew (a45.add 36) fun x121 =>
 c_b4_B4_told a0 x85 x86 x87 x88 x89 x90 x91 x92 x93 x94 x95 x96 x97 x98 x99 x100 x101 x102 x103 x104 x105 x106 x107 x108 x109 x110 x111 x112 x113 x114 x115 x116 x117 x118 x119 x120 x121 w46.drew fun r122 r123 w124 =>
 K ⟨none, 0, 0⟩ r122 r123 w124
 else
 Ld (.int .u8) w46.drew.drew ((a45.add 4).add 0) fun x125 =>
 Ld (.int .u8) w46.drew.drew ((a45.add 4).add 1) fun x126 =>
 Ld (.int .u8) w46.drew.drew ((a45.add 4).add 2) fun x127 =>
 Ld (.int .u8) w46.drew.drew ((a45.add 4).add 3) fun x128 =>
 Ld (.int .u8) w46.drew.drew ((a45.add 4).add 4) fun x129 =>
 Ld (.int .u8) w46.drew.drew ((a45.add 4).add 5) fun x130 =>
 Ld (.int .u8) w46.drew.drew ((a45.add 4).add 6) fun x131 =>
 Ld (.int .u8) w46.drew.drew ((a45.add 4).add 7) fun x132 =>
 Ld (.int .u8) w46.drew.drew ((a45.add 4).add 8) fun x133 =>
 Ld (.int .u8) w46.drew.drew ((a45.add 4).add 9) fun x134 =>
 Ld (.int .u8) w46.drew.drew ((a45.add 4).add 10) fun x135 =>
 Ld (.int .u8) w46.drew.drew ((a45.add 4).add 11) fun x136 =>
 Ld (.int .u8) w46.drew.drew ((a45.add 4).add 12) fun x137 =>
 Ld (.int .u8) w46.drew.drew ((a45.add 4).add 13) fun x138 =>
 Ld (.int .u8) w46.drew.drew ((a45.add 4).add 14) fun x139 =>
 Ld (.int .u8) w46.drew.drew ((a45.add 4).add 15) fun x140 =>
 ∃ a141 : Addr, a0 = some a141 ∧
 Ld (.int .u8) w46.drew.drew ((a141.add 16).add 0) fun x142 =>
 Ld (.int .u8) w46.drew.drew ((a141.add 16).add 1) fun x143 =>
 Ld (.int .u8) w46.drew.drew ((a141.add 16).add 2) fun x144 =>
 Ld (.int .u8) w46.drew.drew ((a141.add 16).add 3) fun x145 =>
 Ld (.int .u8) w46.drew.drew ((a141.add 16).add 4) fun x146 =>
 Ld (.int .u8) w46.drew.drew ((a141.add 16).add 5) fun x147 =>
 Ld (.int .u8) w46.drew.drew ((a141.add 16).add 6) fun x148 =>
 Ld (.int .u8) w46.drew.drew ((a141.add 16).add 7) fun x149 =>
 Ld (.int .u8) w46.drew.drew ((a141.add 16).add 8) fun x150 =>
 Ld (.int .u8) w46.drew.drew ((a141.add 16).add 9) fun x151 =>
 Ld (.int .u8) w46.drew.drew ((a141.add 16).add 10) fun x152 =>
 Ld (.int .u8) w46.drew.drew ((a141.add 16).add 11) fun x153 =>
 Ld (.int .u8) w46.drew.drew ((a141.add 16).add 12) fun x154 =>
 Ld (.int .u8) w46.drew.drew ((a141.add 16).add 13) fun x155 =>
 Ld (.int .u8) w46.drew.drew ((a141.add 16).add 14) fun x156 =>
 Ld (.int .u8) w46.drew.drew ((a141.add 16).add 15) fun x157 =>
 (bif (!((x125 == x142) && ((x126 == x143) && ((x127 == x144) && ((x128 == x145) && ((x129 == x146) && ((x130 == x147) && ((x131 == x148) && ((x132 == x149) && ((x133 == x150) && ((x134 == x151) && ((x135 == x152) && ((x136 == x153) && ((x137 == x154) && ((x138 == x155) && ((x139 == x156) && ((x140 == x157) && true))))))))))))))))) then
 c_b4_B4_drop a0 2 w46.drew.drew fun r158 w159 =>
 K ⟨none, 0, 0⟩ ⟨none, 0, 0⟩ r158 w159
 else
 Ld (.int .i64) w46.drew.drew (a45.add 0) fun x160 =>
 Ld (.int .i64) w46.drew.drew (a45.add 1) fun x161 =>
 Ld (.int .i64) w46.drew.drew (a45.add 2) fun x162 =>
 Ld (.int .i64) w46.drew.drew (a45.add 3) fun x163 =>
 Ld (.int .u8) w46.drew.drew (a45.add 4) fun x164 =>
 Ld (.int .u8) w46.drew.drew (a45.add 5) fun x165 =>
 Ld (.int .u8) w46.drew.drew (a45.add 6) fun x166 =>
 Ld (.int .u8) w46.drew.drew (a45.add 7) fun x167 =>
 Ld (.int .u8) w46.drew.drew (a45.add 8) fun x168 =>
 Ld (.int .u8) w46.drew.drew (a45.add 9) fun x169 =>
 Ld (.int .u8) w46.drew.drew (a45.add 10) fun x170 =>
 Ld (.int .u8) w46.drew.drew (a45.add 11) fun x171 =>
 Ld (.int .u8) w46.drew.drew (a45.add 12) fun x172 =>
 Ld (.int .u8) w46.drew.drew (a45.add 13) fun x173 =>
 Ld (.int .u8) w46.drew.drew (a45.add 14) fun x174 =>
 Ld (.int .u8) w46.drew.drew (a45.add 15) fun x175 =>
 Ld (.int .u8) w46.drew.drew (a45.add 16) fun x176 =>
 Ld (.int .u8) w46.drew.drew (a45.add 17) fun x177 =>
 Ld (.int .u8) w46.drew.drew (a45.add 18) fun x178 =>
 Ld (.int .u8) w46.drew.drew (a45.add 19) fun x179 =>
 Ld (.int .u8) w46.drew.drew (a45.add 20) fun x180 =>
 Ld (.int .u8) w46.drew.drew (a45.add 21) fun x181 =>
 Ld (.int .u8) w46.drew.drew (a45.add 22) fun x182 =>
 Ld (.int .u8) w46.drew.drew (a45.add 23) fun x183 =>
 Ld (.int .u8) w46.drew.drew (a45.add 24) fun x184 =>
 Ld (.int .u8) w46.drew.drew (a45.add 25) fun x185 =>
 Ld (.int .u8) w46.drew.drew (a45.add 26) fun x186 =>
 Ld (.int .u8) w46.drew.drew (a45.add 27) fun x187 =>
 Ld (.int .u8) w46.drew.drew (a45.add 28) fun x188 =>
 Ld (.int .u8) w46.drew.drew (a45.add 29) fun x189 =>
 Ld (.int .u8) w46.drew.drew (a45.add 30) fun x190 =>
 Ld (.int .u8) w46.drew.drew (a45.add 31) fun x191 =>
 Ld (.int .u8) w46.drew.drew (a45.add 32) fun x192 =>
 Ld (.int .u8) w46.drew.drew (a45.add 33) fun x193 =>
 Ld (.int .u8) w46.drew.drew (a45.add 34) fun x194 =>
 Ld (.int .u8) w46.drew.drew (a45.add 35) fun x195 =>
 Ld .slice w46.drew.drew (a45.add 36) fun x196 =>
 c_b4_B4_whole a0 x160 x161 x162 x163 x164 x165 x166 x167 x168 x169 x170 x171 x172 x173 x174 x175 x176 x177 x178 x179 x180 x181 x182 x183 x184 x185 x186 x187 x188 x189 x190 x191 x192 x193 x194 x195 x196 w46.drew.drew fun r197 r198 r199 r200 w201 =>
 (bif (!r200) then
 c_b4_B4_drop a0 r199 w201 fun r202 w203 =>
 K ⟨none, 0, 0⟩ ⟨none, 0, 0⟩ r202 w203
 else
 (bif (r198 != 4) then
 c_b4_B4_drop a0 4 w201 fun r204 w205 =>
 K ⟨none, 0, 0⟩ ⟨none, 0, 0⟩ r204 w205
 else
 c_v4_Parse r197 w201 fun r206 r207 r208 r209 r210 r211 r212 r213 r214 r215 r216 r217 w218 =>
 Al w218 (.cells ⟨[(Value.int .i64 0), (Value.int .i64 0), (Value.int .i64 0), (Value.int .i64 0), (Value.int .i64 0), (Value.int .i64 0), (Value.int .i64 0), (Value.bool false), (Value.bool false), (Value.slice none 0 0), (Value.slice none 0 0)]⟩ 61) fun a220 w219 =>
 StN [(Value.int .i64 r206), (Value.int .i64 r207), (Value.int .i64 r208), (Value.int .i64 r209), (Value.int .i64 r210), (Value.int .i64 r211), (Value.int .i64 r212), (Value.bool r213), (Value.bool r214), (Value.slice r215.a r215.len r215.cap), (Value.slice r216.a r216.len r216.cap)] w219 a220 0 fun w221 =>
 (bif (r217 != 0) then
 c_b4_B4_drop a0 1 w221 fun r222 w223 =>
 K ⟨none, 0, 0⟩ ⟨none, 0, 0⟩ r222 w223
 else
 Ld (.int .i64) w221 (a220.add 0) fun x224 =>
 Ld (.int .i64) w221 (a220.add 1) fun x225 =>
 Ld (.int .i64) w221 (a220.add 2) fun x226 =>
 Ld (.int .i64) w221 (a220.add 3) fun x227 =>
 Ld (.int .i64) w221 (a220.add 4) fun x228 =>
 Ld (.int .i64) w221 (a220.add 5) fun x229 =>
 Ld (.int .i64) w221 (a220.add 6) fun x230 =>
 Ld .bool w221 (a220.add 7) fun x231 =>
 Ld .bool w221 (a220.add 8) fun x232 =>
 Ld .slice w221 (a220.add 9) fun x233 =>
 Ld .slice w221 (a220.add 10) fun x234 =>
 c_b4_built x224 x225 x226 x227 x228 x229 x230 x231 x232 x233 x234 0 w221 fun r235 w236 =>
 K ⟨none, 0, 0⟩ r235 0 w236)))))))))
theorem e_b4_B4_Tunnel (a0 : Option Addr) (a1 : SliceV) (w : World) (K : SliceV → SliceV → Int → World → Prop) : den Tryz.prog 93 (bodyOf Tryz.f7) none (.seq .leaf (.seq (.seq .leaf (.cond (.seq .leaf .leaf) .leaf)) (.seq .leaf (.seq (.blk (.seq .leaf (.cond (.seq .leaf .leaf) (.seq .leaf (.cond (.seq .leaf .leaf) (.seq .leaf (.cond (.seq .leaf (.seq .leaf .leaf)) (.seq .leaf (.cond (.seq .leaf .leaf) .leaf))))))))) (.seq .leaf (.seq (.blk (.seq .leaf (.cond (.seq .leaf .leaf) (.seq .leaf (.cond (.seq .leaf .leaf) .leaf))))) (.seq .leaf (.seq (.seq .leaf (.cond (.seq .leaf .leaf) .leaf)) (.seq .leaf .leaf))))))))) (argEnv 0 [(Value.pointer a0), (Value.slice a1.a a1.len a1.cap)]) [] w (retK Tryz.prog [.tmp 4, .tmp 5, .tmp 6] [.one .slice, .one .slice, .one (.int .i64)] K) = s_b4_B4_Tunnel a0 a1 w K := by kernel_rfl
theorem ok_b4_B4_Tunnel {a0 a1 w K} (h : s_b4_B4_Tunnel a0 a1 w K) : c_b4_B4_Tunnel a0 a1 w K :=
  fn_sound pok Tryz.func7 (fn := Tryz.f7) (c := bodyOf Tryz.f7) (nt := 93) (by kernel_rfl) (by kernel_rfl) (rs := [.tmp 4, .tmp 5, .tmp 6]) (by kernel_rfl) [.one .slice, .one .slice, .one (.int .i64)] K (.seq .leaf (.seq (.seq .leaf (.cond (.seq .leaf .leaf) .leaf)) (.seq .leaf (.seq (.blk (.seq .leaf (.cond (.seq .leaf .leaf) (.seq .leaf (.cond (.seq .leaf .leaf) (.seq .leaf (.cond (.seq .leaf (.seq .leaf .leaf)) (.seq .leaf (.cond (.seq .leaf .leaf) .leaf))))))))) (.seq .leaf (.seq (.blk (.seq .leaf (.cond (.seq .leaf .leaf) (.seq .leaf (.cond (.seq .leaf .leaf) .leaf))))) (.seq .leaf (.seq (.seq .leaf (.cond (.seq .leaf .leaf) .leaf)) (.seq .leaf .leaf))))))))) [(Value.pointer a0), (Value.slice a1.a a1.len a1.cap)] (by kernel_rfl) w ((e_b4_B4_Tunnel a0 a1 w K).mpr h)

/-- (*goosepond/b4.B4).Counts -/
def s_b4_B4_Counts (a0 : Option Addr) (w : World) (K : SliceV → World → Prop) : Prop :=
 (c_b4_B4_ready a0 w fun r2 w3 =>
 (bif (!r2) then
 K ⟨none, 0, 0⟩ w3
 else
 ∃ a4 : Addr, a0 = some a4 ∧
 Ld .ptr w3 (a4.add 38) fun x5 =>
 c_counts_Counts_List x5 w3 fun r6 w7 =>
 K r6 w7))
theorem e_b4_B4_Counts (a0 : Option Addr) (w : World) (K : SliceV → World → Prop) : den Tryz.prog 11 (bodyOf Tryz.f8) none (.seq .leaf (.seq (.seq .leaf (.cond (.seq .leaf .leaf) .leaf)) (.seq .leaf .leaf))) (argEnv 0 [(Value.pointer a0)]) [] w (retK Tryz.prog [.tmp 2] [.one .slice] K) = s_b4_B4_Counts a0 w K := by kernel_rfl
theorem ok_b4_B4_Counts {a0 w K} (h : s_b4_B4_Counts a0 w K) : c_b4_B4_Counts a0 w K :=
  fn_sound pok Tryz.func8 (fn := Tryz.f8) (c := bodyOf Tryz.f8) (nt := 11) (by kernel_rfl) (by kernel_rfl) (rs := [.tmp 2]) (by kernel_rfl) [.one .slice] K (.seq .leaf (.seq (.seq .leaf (.cond (.seq .leaf .leaf) .leaf)) (.seq .leaf .leaf))) [(Value.pointer a0)] (by kernel_rfl) w ((e_b4_B4_Counts a0 w K).mpr h)

/-- (*goosepond/b4.B4).Bytes -/
def s_b4_B4_Bytes (a0 : Option Addr) (w : World) (K : Int → World → Prop) : Prop :=
 (c_b4_B4_ready a0 w fun r2 w3 =>
 (bif (!r2) then
 K 0 w3
 else
 ∃ a4 : Addr, a0 = some a4 ∧
 Ld .ptr w3 (a4.add 37) fun x5 =>
 c_join_Table_Bytes x5 w3 fun r6 w7 =>
 K r6 w7))
theorem e_b4_B4_Bytes (a0 : Option Addr) (w : World) (K : Int → World → Prop) : den Tryz.prog 11 (bodyOf Tryz.f9) none (.seq .leaf (.seq (.seq .leaf (.cond (.seq .leaf .leaf) .leaf)) (.seq .leaf .leaf))) (argEnv 0 [(Value.pointer a0)]) [] w (retK Tryz.prog [.tmp 2] [.one (.int .i64)] K) = s_b4_B4_Bytes a0 w K := by kernel_rfl
theorem ok_b4_B4_Bytes {a0 w K} (h : s_b4_B4_Bytes a0 w K) : c_b4_B4_Bytes a0 w K :=
  fn_sound pok Tryz.func9 (fn := Tryz.f9) (c := bodyOf Tryz.f9) (nt := 11) (by kernel_rfl) (by kernel_rfl) (rs := [.tmp 2]) (by kernel_rfl) [.one (.int .i64)] K (.seq .leaf (.seq (.seq .leaf (.cond (.seq .leaf .leaf) .leaf)) (.seq .leaf .leaf))) [(Value.pointer a0)] (by kernel_rfl) w ((e_b4_B4_Bytes a0 w K).mpr h)

/-- (*goosepond/b4.B4).ready -/
def s_b4_B4_ready (a0 : Option Addr) (w : World) (K : Bool → World → Prop) : Prop :=
 (let J2 : Bool → Prop := fun j3 =>
 (K j3 w)
 (bif (!(Option.isNone a0)) then
 ∃ a4 : Addr, a0 = some a4 ∧
 Ld .ptr w (a4.add 37) fun x5 =>
 J2 (!(Option.isNone x5))
 else
 J2 false))
theorem e_b4_B4_ready (a0 : Option Addr) (w : World) (K : Bool → World → Prop) : den Tryz.prog 12 (bodyOf Tryz.f17) none (.seq .leaf (.seq .leaf .leaf)) (argEnv 0 [(Value.pointer a0)]) [] w (retK Tryz.prog [.tmp 2] [.one .bool] K) = s_b4_B4_ready a0 w K := by kernel_rfl
theorem ok_b4_B4_ready {a0 w K} (h : s_b4_B4_ready a0 w K) : c_b4_B4_ready a0 w K :=
  fn_sound pok Tryz.func17 (fn := Tryz.f17) (c := bodyOf Tryz.f17) (nt := 12) (by kernel_rfl) (by kernel_rfl) (rs := [.tmp 2]) (by kernel_rfl) [.one .bool] K (.seq .leaf (.seq .leaf .leaf)) [(Value.pointer a0)] (by kernel_rfl) w ((e_b4_B4_ready a0 w K).mpr h)

end Go.Proofs
