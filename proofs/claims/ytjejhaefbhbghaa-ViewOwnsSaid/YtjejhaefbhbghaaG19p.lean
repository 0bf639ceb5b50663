import Derived.Test.YtjejhaefbhbghaaFn
import Derived.Test.YtjejhaefbhbghaaProg
import Derived.KernelRfl
namespace Go.Proofs
open Gp
set_option maxRecDepth 100000
set_option maxHeartbeats 4000000
theorem pok : POk Try.prog := POk.of_all (by kernel_rfl) (by kernel_rfl)

/-- goosepond/goosepondlaw19.PoolOnce -/
abbrev n_law19_PoolOnce : FuncId := 3
def c_law19_PoolOnce (a0 : Int) (a1 : Int) (a2 : SliceV) (w : World) (K : Bool → World → Prop) : Prop :=
  Calls Try.prog 3 ⟨[(Value.int .u8 a0), (Value.int .u8 a1), (Value.slice a2.a a2.len a2.cap)]⟩ w fun e w' => ∃ y58 : Bool, e = .returned (Value.bool y58) ∧ K y58 w'
theorem cm_law19_PoolOnce {a0 a1 a2 w K K'} (h : c_law19_PoolOnce a0 a1 a2 w K) (hk : ∀ x0 w', K x0 w' → K' x0 w') : c_law19_PoolOnce a0 a1 a2 w K' :=
  Calls.mono h fun e w' hh => by obtain ⟨x0, he, hx⟩ := hh; exact ⟨x0, he, hk _ _ hx⟩

/-- goosepond/goosepondlaw19.awake -/
abbrev n_law19_awake : FuncId := 9
def c_law19_awake  (w : World) (K : Bool → World → Prop) : Prop :=
  Calls Try.prog 9 ⟨[]⟩ w fun e w' => ∃ y29 : Bool, e = .returned (Value.bool y29) ∧ K y29 w'
theorem cm_law19_awake { w K K'} (h : c_law19_awake  w K) (hk : ∀ x0 w', K x0 w' → K' x0 w') : c_law19_awake  w K' :=
  Calls.mono h fun e w' hh => by obtain ⟨x0, he, hx⟩ := hh; exact ⟨x0, he, hk _ _ hx⟩

/-- goosepond/pool.New -/
abbrev n_pool_New : FuncId := 10
def c_pool_New (a0 : SliceV) (a1 : Int) (a2 : Int) (w : World) (K : (Option Addr) → Int → World → Prop) : Prop :=
  Calls Try.prog 10 ⟨[(Value.slice a0.a a0.len a0.cap), (Value.int .i64 a1), (Value.int .i64 a2)]⟩ w fun e w' => ∃ y25 : Option Addr, ∃ y26 : Int, e = .returned (Value.tuple ⟨[(Value.pointer y25), (Value.int .i64 y26)]⟩) ∧ K y25 y26 w'
theorem cm_pool_New {a0 a1 a2 w K K'} (h : c_pool_New a0 a1 a2 w K) (hk : ∀ x0 x1 w', K x0 x1 w' → K' x0 x1 w') : c_pool_New a0 a1 a2 w K' :=
  Calls.mono h fun e w' hh => by obtain ⟨x0, x1, he, hx⟩ := hh; exact ⟨x0, x1, he, hk _ _ _ hx⟩

/-- (*goosepond/pool.Pool).Take -/
abbrev n_pool_Pool_Take : FuncId := 11
def c_pool_Pool_Take (a0 : Option Addr) (a1 : Int) (a2 : Int) (a3 : Int) (w : World) (K : Int → Int → Int → Int → World → Prop) : Prop :=
  Calls Try.prog 11 ⟨[(Value.pointer a0), (Value.int .i64 a1), (Value.int .i64 a2), (Value.int .i64 a3)]⟩ w fun e w' => ∃ y84 : Int, ∃ y85 : Int, ∃ y86 : Int, ∃ y87 : Int, e = .returned (Value.tuple ⟨[(Value.agg ⟨[(Value.int .i64 y84), (Value.int .i64 y85), (Value.int .i64 y86)]⟩), (Value.int .i64 y87)]⟩) ∧ K y84 y85 y86 y87 w'
theorem cm_pool_Pool_Take {a0 a1 a2 a3 w K K'} (h : c_pool_Pool_Take a0 a1 a2 a3 w K) (hk : ∀ x0 x1 x2 x3 w', K x0 x1 x2 x3 w' → K' x0 x1 x2 x3 w') : c_pool_Pool_Take a0 a1 a2 a3 w K' :=
  Calls.mono h fun e w' hh => by obtain ⟨x0, x1, x2, x3, he, hx⟩ := hh; exact ⟨x0, x1, x2, x3, he, hk _ _ _ _ _ hx⟩

/-- (*goosepond/pool.Pool).Used -/
abbrev n_pool_Pool_Used : FuncId := 12
def c_pool_Pool_Used (a0 : Option Addr) (w : World) (K : Int → World → Prop) : Prop :=
  Calls Try.prog 12 ⟨[(Value.pointer a0)]⟩ w fun e w' => ∃ y7 : Int, e = .returned (Value.int .i64 y7) ∧ K y7 w'
theorem cm_pool_Pool_Used {a0 w K K'} (h : c_pool_Pool_Used a0 w K) (hk : ∀ x0 w', K x0 w' → K' x0 w') : c_pool_Pool_Used a0 w K' :=
  Calls.mono h fun e w' hh => by obtain ⟨x0, he, hx⟩ := hh; exact ⟨x0, he, hk _ _ hx⟩

/-- (*goosepond/pool.Pool).Free -/
abbrev n_pool_Pool_Free : FuncId := 29
def c_pool_Pool_Free (a0 : Option Addr) (a1_0 : Int) (a1_1 : Int) (a1_2 : Int) (w : World) (K : Bool → World → Prop) : Prop :=
  Calls Try.prog 29 ⟨[(Value.pointer a0), (Value.agg ⟨[(Value.int .i64 a1_0), (Value.int .i64 a1_1), (Value.int .i64 a1_2)]⟩)]⟩ w fun e w' => ∃ y22 : Bool, e = .returned (Value.bool y22) ∧ K y22 w'
theorem cm_pool_Pool_Free {a0 a1_0 a1_1 a1_2 w K K'} (h : c_pool_Pool_Free a0 a1_0 a1_1 a1_2 w K) (hk : ∀ x0 w', K x0 w' → K' x0 w') : c_pool_Pool_Free a0 a1_0 a1_1 a1_2 w K' :=
  Calls.mono h fun e w' hh => by obtain ⟨x0, he, hx⟩ := hh; exact ⟨x0, he, hk _ _ hx⟩

/-- goosepond/four.Host -/
abbrev n_four_Host : FuncId := 30
def c_four_Host (a0 : Int) (w : World) (K : Bool → World → Prop) : Prop :=
  Calls Try.prog 30 ⟨[(Value.int .i64 a0)]⟩ w fun e w' => ∃ y8 : Bool, e = .returned (Value.bool y8) ∧ K y8 w'
theorem cm_four_Host {a0 w K K'} (h : c_four_Host a0 w K) (hk : ∀ x0 w', K x0 w' → K' x0 w') : c_four_Host a0 w K' :=
  Calls.mono h fun e w' hh => by obtain ⟨x0, he, hx⟩ := hh; exact ⟨x0, he, hk _ _ hx⟩

/-- slices.Contains[[]int,int] -/
abbrev n_slices_Contains_int_int : FuncId := 31
def c_slices_Contains_int_int (a0 : SliceV) (a1 : Int) (w : World) (K : Bool → World → Prop) : Prop :=
  Calls Try.prog 31 ⟨[(Value.slice a0.a a0.len a0.cap), (Value.int .i64 a1)]⟩ w fun e w' => ∃ y5 : Bool, e = .returned (Value.bool y5) ∧ K y5 w'
theorem cm_slices_Contains_int_int {a0 a1 w K K'} (h : c_slices_Contains_int_int a0 a1 w K) (hk : ∀ x0 w', K x0 w' → K' x0 w') : c_slices_Contains_int_int a0 a1 w K' :=
  Calls.mono h fun e w' hh => by obtain ⟨x0, he, hx⟩ := hh; exact ⟨x0, he, hk _ _ hx⟩

/-- slices.Clone[[]int,int] -/
abbrev n_slices_Clone_int_int : FuncId := 32
def c_slices_Clone_int_int (a0 : SliceV) (w : World) (K : SliceV → World → Prop) : Prop :=
  Calls Try.prog 32 ⟨[(Value.slice a0.a a0.len a0.cap)]⟩ w fun e w' => ∃ y6 : SliceV, e = .returned (Value.slice y6.a y6.len y6.cap) ∧ K y6 w'
theorem cm_slices_Clone_int_int {a0 w K K'} (h : c_slices_Clone_int_int a0 w K) (hk : ∀ x0 w', K x0 w' → K' x0 w') : c_slices_Clone_int_int a0 w K' :=
  Calls.mono h fun e w' hh => by obtain ⟨x0, he, hx⟩ := hh; exact ⟨x0, he, hk _ _ hx⟩

/-- (*goosepond/pool.Pool).ready -/
abbrev n_pool_Pool_ready : FuncId := 33
def c_pool_Pool_ready (a0 : Option Addr) (w : World) (K : Bool → World → Prop) : Prop :=
  Calls Try.prog 33 ⟨[(Value.pointer a0)]⟩ w fun e w' => ∃ y6 : Bool, e = .returned (Value.bool y6) ∧ K y6 w'
theorem cm_pool_Pool_ready {a0 w K K'} (h : c_pool_Pool_ready a0 w K) (hk : ∀ x0 w', K x0 w' → K' x0 w') : c_pool_Pool_ready a0 w K' :=
  Calls.mono h fun e w' hh => by obtain ⟨x0, he, hx⟩ := hh; exact ⟨x0, he, hk _ _ hx⟩

/-- goosepond/pool.proto -/
abbrev n_pool_proto : FuncId := 34
def c_pool_proto (a0 : Int) (w : World) (K : Bool → World → Prop) : Prop :=
  Calls Try.prog 34 ⟨[(Value.int .i64 a0)]⟩ w fun e w' => ∃ y4 : Bool, e = .returned (Value.bool y4) ∧ K y4 w'
theorem cm_pool_proto {a0 w K K'} (h : c_pool_proto a0 w K) (hk : ∀ x0 w', K x0 w' → K' x0 w') : c_pool_proto a0 w K' :=
  Calls.mono h fun e w' hh => by obtain ⟨x0, he, hx⟩ := hh; exact ⟨x0, he, hk _ _ hx⟩

/-- (*goosepond/pool.Pool).Wants -/
abbrev n_pool_Pool_Wants : FuncId := 35
def c_pool_Pool_Wants (a0 : Option Addr) (a1 : Int) (a2 : Int) (w : World) (K : Value → World → Prop) : Prop :=
  Calls Try.prog 35 ⟨[(Value.pointer a0), (Value.int .i64 a1), (Value.int .i64 a2)]⟩ w fun e w' => ∃ y10 : Value, e = .returned y10 ∧ K y10 w'
theorem cm_pool_Pool_Wants {a0 a1 a2 w K K'} (h : c_pool_Pool_Wants a0 a1 a2 w K) (hk : ∀ x0 w', K x0 w' → K' x0 w') : c_pool_Pool_Wants a0 a1 a2 w K' :=
  Calls.mono h fun e w' hh => by obtain ⟨x0, he, hx⟩ := hh; exact ⟨x0, he, hk _ _ hx⟩

/-- goosepond/four.Right -/
abbrev n_four_Right : FuncId := 62
def c_four_Right (a0 : Int) (w : World) (K : Bool → World → Prop) : Prop :=
  Calls Try.prog 62 ⟨[(Value.int .i64 a0)]⟩ w fun e w' => ∃ y4 : Bool, e = .returned (Value.bool y4) ∧ K y4 w'
theorem cm_four_Right {a0 w K K'} (h : c_four_Right a0 w K) (hk : ∀ x0 w', K x0 w' → K' x0 w') : c_four_Right a0 w K' :=
  Calls.mono h fun e w' hh => by obtain ⟨x0, he, hx⟩ := hh; exact ⟨x0, he, hk _ _ hx⟩

/-- goosepond/four.one -/
abbrev n_four_one : FuncId := 63
def c_four_one (a0 : Int) (a1 : SliceV) (w : World) (K : Bool → World → Prop) : Prop :=
  Calls Try.prog 63 ⟨[(Value.int .i64 a0), (Value.slice a1.a a1.len a1.cap)]⟩ w fun e w' => ∃ y16 : Bool, e = .returned (Value.bool y16) ∧ K y16 w'
theorem cm_four_one {a0 a1 w K K'} (h : c_four_one a0 a1 w K) (hk : ∀ x0 w', K x0 w' → K' x0 w') : c_four_one a0 a1 w K' :=
  Calls.mono h fun e w' hh => by obtain ⟨x0, he, hx⟩ := hh; exact ⟨x0, he, hk _ _ hx⟩

/-- slices.Index[[]int,int] -/
abbrev n_slices_Index_int_int : FuncId := 64
def c_slices_Index_int_int (a0 : SliceV) (a1 : Int) (w : World) (K : Int → World → Prop) : Prop :=
  Calls Try.prog 64 ⟨[(Value.slice a0.a a0.len a0.cap), (Value.int .i64 a1)]⟩ w fun e w' => ∃ y8 : Int, e = .returned (Value.int .i64 y8) ∧ K y8 w'
theorem cm_slices_Index_int_int {a0 a1 w K K'} (h : c_slices_Index_int_int a0 a1 w K) (hk : ∀ x0 w', K x0 w' → K' x0 w') : c_slices_Index_int_int a0 a1 w K' :=
  Calls.mono h fun e w' hh => by obtain ⟨x0, he, hx⟩ := hh; exact ⟨x0, he, hk _ _ hx⟩

/-- (*goosepond/pool.Pool).Wants$1 -/
abbrev n_pool_Pool_Wants_1 : FuncId := 65
def c_pool_Pool_Wants_1 (a0 : Value) (f0 : Addr) (f1 : Addr) (f2 : Addr) (w : World) (K : World → Prop) : Prop :=
  Calls Try.prog 65 ⟨[a0, (Value.pointer (some f0)), (Value.pointer (some f1)), (Value.pointer (some f2))]⟩ w fun e w' => e = .returned (Value.tuple ⟨[]⟩) ∧ K w'
theorem cm_pool_Pool_Wants_1 {a0 f0 f1 f2 w K K'} (h : c_pool_Pool_Wants_1 a0 f0 f1 f2 w K) (hk : ∀  w', K  w' → K'  w') : c_pool_Pool_Wants_1 a0 f0 f1 f2 w K' :=
  Calls.mono h fun e w' hh => by obtain ⟨he, hx⟩ := hh; exact ⟨he, hk  _ hx⟩

/-- (goosepond/pool.span).has -/
abbrev n_pool_span_has : FuncId := 66
def c_pool_span_has (a0_0 : Int) (a0_1 : Int) (a1 : Int) (w : World) (K : Bool → World → Prop) : Prop :=
  Calls Try.prog 66 ⟨[(Value.agg ⟨[(Value.int .i64 a0_0), (Value.int .i64 a0_1)]⟩), (Value.int .i64 a1)]⟩ w fun e w' => ∃ y9 : Bool, e = .returned (Value.bool y9) ∧ K y9 w'
theorem cm_pool_span_has {a0_0 a0_1 a1 w K K'} (h : c_pool_span_has a0_0 a0_1 a1 w K) (hk : ∀ x0 w', K x0 w' → K' x0 w') : c_pool_span_has a0_0 a0_1 a1 w K' :=
  Calls.mono h fun e w' hh => by obtain ⟨x0, he, hx⟩ := hh; exact ⟨x0, he, hk _ _ hx⟩

/-- (*goosepond/pool.Pool).rows -/
abbrev n_pool_Pool_rows : FuncId := 67
def c_pool_Pool_rows (a0 : Option Addr) (a1 : Int) (a2 : Int) (w : World) (K : SliceV → World → Prop) : Prop :=
  Calls Try.prog 67 ⟨[(Value.pointer a0), (Value.int .i64 a1), (Value.int .i64 a2)]⟩ w fun e w' => ∃ y389 : SliceV, e = .returned (Value.slice y389.a y389.len y389.cap) ∧ K y389 w'
theorem cm_pool_Pool_rows {a0 a1 a2 w K K'} (h : c_pool_Pool_rows a0 a1 a2 w K) (hk : ∀ x0 w', K x0 w' → K' x0 w') : c_pool_Pool_rows a0 a1 a2 w K' :=
  Calls.mono h fun e w' hh => by obtain ⟨x0, he, hx⟩ := hh; exact ⟨x0, he, hk _ _ hx⟩

/-- (goosepond/four.block).has -/
abbrev n_four_block_has : FuncId := 98
def c_four_block_has (a0_0 : Int) (a0_1 : Int) (a1 : Int) (w : World) (K : Bool → World → Prop) : Prop :=
  Calls Try.prog 98 ⟨[(Value.agg ⟨[(Value.int .i64 a0_0), (Value.int .i64 a0_1)]⟩), (Value.int .i64 a1)]⟩ w fun e w' => ∃ y12 : Bool, e = .returned (Value.bool y12) ∧ K y12 w'
theorem cm_four_block_has {a0_0 a0_1 a1 w K K'} (h : c_four_block_has a0_0 a0_1 a1 w K) (hk : ∀ x0 w', K x0 w' → K' x0 w') : c_four_block_has a0_0 a0_1 a1 w K' :=
  Calls.mono h fun e w' hh => by obtain ⟨x0, he, hx⟩ := hh; exact ⟨x0, he, hk _ _ hx⟩

/-- goosepond/pool.step -/
abbrev n_pool_step : FuncId := 99
def c_pool_step (a0_0 : Int) (a0_1 : Int) (a1 : Int) (a2 : Int) (w : World) (K : Value → World → Prop) : Prop :=
  Calls Try.prog 99 ⟨[(Value.agg ⟨[(Value.int .i64 a0_0), (Value.int .i64 a0_1)]⟩), (Value.int .i64 a1), (Value.int .i64 a2)]⟩ w fun e w' => ∃ y10 : Value, e = .returned y10 ∧ K y10 w'
theorem cm_pool_step {a0_0 a0_1 a1 a2 w K K'} (h : c_pool_step a0_0 a0_1 a1 a2 w K) (hk : ∀ x0 w', K x0 w' → K' x0 w') : c_pool_step a0_0 a0_1 a1 a2 w K' :=
  Calls.mono h fun e w' hh => by obtain ⟨x0, he, hx⟩ := hh; exact ⟨x0, he, hk _ _ hx⟩

/-- (goosepond/pool.span).both -/
abbrev n_pool_span_both : FuncId := 100
def c_pool_span_both (a0_0 : Int) (a0_1 : Int) (a1_0 : Int) (a1_1 : Int) (w : World) (K : Int → Int → World → Prop) : Prop :=
  Calls Try.prog 100 ⟨[(Value.agg ⟨[(Value.int .i64 a0_0), (Value.int .i64 a0_1)]⟩), (Value.agg ⟨[(Value.int .i64 a1_0), (Value.int .i64 a1_1)]⟩)]⟩ w fun e w' => ∃ y16 : Int, ∃ y17 : Int, e = .returned (Value.agg ⟨[(Value.int .i64 y16), (Value.int .i64 y17)]⟩) ∧ K y16 y17 w'
theorem cm_pool_span_both {a0_0 a0_1 a1_0 a1_1 w K K'} (h : c_pool_span_both a0_0 a0_1 a1_0 a1_1 w K) (hk : ∀ x0 x1 w', K x0 x1 w' → K' x0 x1 w') : c_pool_span_both a0_0 a0_1 a1_0 a1_1 w K' :=
  Calls.mono h fun e w' hh => by obtain ⟨x0, x1, he, hx⟩ := hh; exact ⟨x0, x1, he, hk _ _ _ hx⟩

/-- goosepond/pool.class -/
abbrev n_pool_class : FuncId := 101
def c_pool_class (a0 : Int) (w : World) (K : Int → Int → World → Prop) : Prop :=
  Calls Try.prog 101 ⟨[(Value.int .i64 a0)]⟩ w fun e w' => ∃ y10 : Int, ∃ y11 : Int, e = .returned (Value.agg ⟨[(Value.int .i64 y10), (Value.int .i64 y11)]⟩) ∧ K y10 y11 w'
theorem cm_pool_class {a0 w K K'} (h : c_pool_class a0 w K) (hk : ∀ x0 x1 w', K x0 x1 w' → K' x0 x1 w') : c_pool_class a0 w K' :=
  Calls.mono h fun e w' hh => by obtain ⟨x0, x1, he, hx⟩ := hh; exact ⟨x0, x1, he, hk _ _ _ hx⟩

/-- goosepond/pool.other -/
abbrev n_pool_other : FuncId := 102
def c_pool_other (a0 : Int) (w : World) (K : Int → Int → World → Prop) : Prop :=
  Calls Try.prog 102 ⟨[(Value.int .i64 a0)]⟩ w fun e w' => ∃ y16 : Int, ∃ y17 : Int, e = .returned (Value.agg ⟨[(Value.int .i64 y16), (Value.int .i64 y17)]⟩) ∧ K y16 y17 w'
theorem cm_pool_other {a0 w K K'} (h : c_pool_other a0 w K) (hk : ∀ x0 x1 w', K x0 x1 w' → K' x0 x1 w') : c_pool_other a0 w K' :=
  Calls.mono h fun e w' hh => by obtain ⟨x0, x1, he, hx⟩ := hh; exact ⟨x0, x1, he, hk _ _ _ hx⟩

/-- goosepond/pool.alike -/
abbrev n_pool_alike : FuncId := 103
def c_pool_alike (a0_0 : Int) (a0_1 : Int) (a1 : Int) (w : World) (K : Int → World → Prop) : Prop :=
  Calls Try.prog 103 ⟨[(Value.agg ⟨[(Value.int .i64 a0_0), (Value.int .i64 a0_1)]⟩), (Value.int .i64 a1)]⟩ w fun e w' => ∃ y7 : Int, e = .returned (Value.int .i64 y7) ∧ K y7 w'
theorem cm_pool_alike {a0_0 a0_1 a1 w K K'} (h : c_pool_alike a0_0 a0_1 a1 w K) (hk : ∀ x0 w', K x0 w' → K' x0 w') : c_pool_alike a0_0 a0_1 a1 w K' :=
  Calls.mono h fun e w' hh => by obtain ⟨x0, he, hx⟩ := hh; exact ⟨x0, he, hk _ _ hx⟩

/-- goosepond/pool.step$1 -/
abbrev n_pool_step_1 : FuncId := 113
def c_pool_step_1 (a0 : Value) (f0 : Addr) (f1 : Addr) (f2 : Addr) (w : World) (K : World → Prop) : Prop :=
  Calls Try.prog 113 ⟨[a0, (Value.pointer (some f0)), (Value.pointer (some f1)), (Value.pointer (some f2))]⟩ w fun e w' => e = .returned (Value.tuple ⟨[]⟩) ∧ K w'
theorem cm_pool_step_1 {a0 f0 f1 f2 w K K'} (h : c_pool_step_1 a0 f0 f1 f2 w K) (hk : ∀  w', K  w' → K'  w') : c_pool_step_1 a0 f0 f1 f2 w K' :=
  Calls.mono h fun e w' hh => by obtain ⟨he, hx⟩ := hh; exact ⟨he, hk  _ hx⟩

/-- goosepond/goosepondlaw19.PoolOnce -/
def s_law19_PoolOnce (a0 : Int) (a1 : Int) (a2 : SliceV) (w : World) (K : Bool → World → Prop) : Prop :=
 ((bif (decide ((a2.len : Int) > 100)) then
 c_law19_awake  w fun r4 w5 =>
 K r4 w5
 else
 Al w (.cells ⟨[(Value.int .i64 16777216)]⟩ 3) fun a7 w6 =>
 (30 : Int) ≠ 0 ∧
 c_pool_New ⟨(some a7), 1, 1⟩ (IntKind.i64.wrap (2000 + (IntKind.i64.wrap a0))) (IntKind.i64.wrap ((IntKind.i64.wrap (2000 + (IntKind.i64.wrap a0))) + (IntKind.i64.wrap (Int.tmod a1 30)))) w6 fun r8 r9 w10 =>
 let J11 : Bool → Prop := fun j12 =>
 ((bif j12 then
 K false w10
 else
 Al w10 (.map #[] 0) fun a14 w13 =>
 LoopP (S := Int × Unit) (fun s15 w16 next17 =>
 (bif (decide (s15.1 < (a2.len : Int))) then
 let J18 : World → Prop := fun w19 =>
 (next17 ((IntKind.i64.wrap (s15.1 + 1)), ()) w19)
 AtIx a2 1 s15.1 fun a20 =>
 Ld (.int .u16) w16 a20 fun x21 =>
 c_pool_Pool_Take r8 6 (IntKind.i64.wrap x21) 0 w16 fun r22 r23 r24 r25 w26 =>
 Al w26 (.cells ⟨[(Value.int .i64 0), (Value.int .i64 0), (Value.int .i64 0)]⟩ 32) fun a28 w27 =>
 StN [(Value.int .i64 r22), (Value.int .i64 r23), (Value.int .i64 r24)] w27 a28 0 fun w29 =>
 (bif (r25 != 0) then
 let J30 : Bool → Prop := fun j31 =>
 ((bif j31 then
 K false w29
 else
 J18 w29))
 (bif (r25 != 12) then
 J30 true
 else
 MapLen w29 (some w10.heap.size) fun n32 =>
 (30 : Int) ≠ 0 ∧
 J30 (n32 != (IntKind.i64.wrap ((IntKind.i64.wrap (Int.tmod a1 30)) + 1))))
 else
 let J33 : Bool → Prop := fun j34 =>
 ((bif j34 then
 K false w29
 else
 LoopP (S := Int × Unit) (fun s35 w36 next37 =>
 let J38 : Bool → Prop := fun j39 =>
 ((bif j39 then
 let J40 : Bool → Prop := fun j41 =>
 ((bif j41 then
 K false w36
 else
 next37 ((IntKind.i64.wrap (s35.1 + 1)), ()) w36))
 (2 : Int) ≠ 0 ∧
 (2 : Int) ≠ 0 ∧
 (bif ((Int.tmod s35.1 2) == (Int.tmod (IntKind.i64.wrap x21) 2)) then
 MapGet Try.prog 3 .bool (some w10.heap.size) (Value.int .i64 s35.1) (Value.bool false) w36 fun x42 =>
 J40 (!x42)
 else
 J40 false)
 else
 Ld (.int .i64) w36 (a28.add 2) fun x43 =>
 MapSet Try.prog 3 (some w10.heap.size) (Value.int .i64 x43) (Value.bool true) w36 fun w44 =>
 J18 w44))
 (30 : Int) ≠ 0 ∧
 (bif (decide (s35.1 ≤ (IntKind.i64.wrap ((IntKind.i64.wrap (2000 + (IntKind.i64.wrap a0))) + (IntKind.i64.wrap (Int.tmod a1 30)))))) then
 Ld (.int .i64) w36 (a28.add 2) fun x45 =>
 (2 : Int) ≠ 0 ∧
 (2 : Int) ≠ 0 ∧
 J38 ((Int.tmod x45 2) != (Int.tmod (IntKind.i64.wrap x21) 2))
 else
 J38 false)) ((IntKind.i64.wrap (2000 + (IntKind.i64.wrap a0))), ()) w29))
 Ld (.int .i64) w29 (a28.add 2) fun x46 =>
 MapGet Try.prog 3 .bool (some w10.heap.size) (Value.int .i64 x46) (Value.bool false) w29 fun x47 =>
 (bif x47 then
 J33 true
 else
 Ld (.int .i64) w29 (a28.add 2) fun x48 =>
 (bif (decide (x48 < (IntKind.i64.wrap (2000 + (IntKind.i64.wrap a0))))) then
 J33 true
 else
 Ld (.int .i64) w29 (a28.add 2) fun x49 =>
 (30 : Int) ≠ 0 ∧
 J33 (decide (x49 > (IntKind.i64.wrap ((IntKind.i64.wrap (2000 + (IntKind.i64.wrap a0))) + (IntKind.i64.wrap (Int.tmod a1 30)))))))))
 else
 let J50 : Bool → World → Prop := fun j51 w52 =>
 (K j51 w52)
 c_pool_Pool_Used r8 w16 fun r53 w54 =>
 MapLen w54 (some w10.heap.size) fun n55 =>
 (bif (r53 == n55) then
 c_law19_awake  w54 fun r56 w57 =>
 J50 r56 w57
 else
 J50 false w54))) (0, ()) w13))
 (bif (Option.isNone r8) then
 J11 true
 else
 J11 (r9 != 0))))
theorem e_law19_PoolOnce (a0 : Int) (a1 : Int) (a2 : SliceV) (w : World) (K : Bool → World → Prop) : den Try.prog 130 (bodyOf Try.f3) none (.seq .leaf (.seq (.seq .leaf (.cond (.seq .leaf .leaf) .leaf)) (.seq .leaf (.seq .leaf (.seq (.seq .leaf (.cond (.seq .leaf .leaf) .leaf)) (.seq .leaf (.seq (.seq .leaf (.blk (.loop [(43, (.int .i64))] (.seq .leaf (.seq (.cond .leaf .leaf) (.seq (.blk (.seq .leaf (.seq .leaf (.seq (.seq .leaf (.cond (.seq (.seq .leaf (.cond (.seq .leaf .leaf) .leaf)) .leaf) .leaf)) (.seq (.seq .leaf (.cond (.seq .leaf .leaf) .leaf)) (.seq (.seq .leaf (.blk (.loop [(15, (.int .i64))] (.seq (.seq .leaf (.cond .leaf .leaf)) (.seq (.blk (.seq .leaf (.cond (.seq .leaf .leaf) .leaf))) .leaf))))) .leaf)))))) .leaf)))))) (.seq .leaf .leaf)))))))) (argEnv 0 [(Value.int .u8 a0), (Value.int .u8 a1), (Value.slice a2.a a2.len a2.cap)]) [] w (retK Try.prog [.tmp 6] [.one .bool] K) = s_law19_PoolOnce a0 a1 a2 w K := by kernel_rfl
theorem ok_law19_PoolOnce {a0 a1 a2 w K} (h : s_law19_PoolOnce a0 a1 a2 w K) : c_law19_PoolOnce a0 a1 a2 w K :=
  fn_sound pok Try.func3 (fn := Try.f3) (c := bodyOf Try.f3) (nt := 130) (by kernel_rfl) (by kernel_rfl) (rs := [.tmp 6]) (by kernel_rfl) [.one .bool] K (.seq .leaf (.seq (.seq .leaf (.cond (.seq .leaf .leaf) .leaf)) (.seq .leaf (.seq .leaf (.seq (.seq .leaf (.cond (.seq .leaf .leaf) .leaf)) (.seq .leaf (.seq (.seq .leaf (.blk (.loop [(43, (.int .i64))] (.seq .leaf (.seq (.cond .leaf .leaf) (.seq (.blk (.seq .leaf (.seq .leaf (.seq (.seq .leaf (.cond (.seq (.seq .leaf (.cond (.seq .leaf .leaf) .leaf)) .leaf) .leaf)) (.seq (.seq .leaf (.cond (.seq .leaf .leaf) .leaf)) (.seq (.seq .leaf (.blk (.loop [(15, (.int .i64))] (.seq (.seq .leaf (.cond .leaf .leaf)) (.seq (.blk (.seq .leaf (.cond (.seq .leaf .leaf) .leaf))) .leaf))))) .leaf)))))) .leaf)))))) (.seq .leaf .leaf)))))))) [(Value.int .u8 a0), (Value.int .u8 a1), (Value.slice a2.a a2.len a2.cap)] (by kernel_rfl) w ((e_law19_PoolOnce a0 a1 a2 w K).mpr h)

/-- goosepond/goosepondlaw19.awake -/
def s_law19_awake  (w : World) (K : Bool → World → Prop) : Prop :=
 (Al w (.cells ⟨[(Value.int .i64 3325256705)]⟩ 3) fun a2 w1 =>
 c_pool_New ⟨(some a2), 1, 1⟩ 1024 2000 w1 fun r3 r4 w5 =>
 let J6 : Bool → Prop := fun j7 =>
 ((bif j7 then
 K false w5
 else
 c_pool_Pool_Take r3 17 5000 0 w5 fun r8 r9 r10 r11 w12 =>
 Al w12 (.cells ⟨[(Value.int .i64 0), (Value.int .i64 0), (Value.int .i64 0)]⟩ 32) fun a14 w13 =>
 StN [(Value.int .i64 r8), (Value.int .i64 r9), (Value.int .i64 r10)] w13 a14 0 fun w15 =>
 let J16 : Bool → World → Prop := fun j17 w18 =>
 (K j17 w18)
 (bif (r11 == 0) then
 Ld (.int .i64) w15 (a14.add 0) fun x19 =>
 Ld (.int .i64) w15 (a14.add 1) fun x20 =>
 Ld (.int .i64) w15 (a14.add 2) fun x21 =>
 (bif ((x19 == 17) && ((x20 == 3325256705) && ((x21 == 1024) && true))) then
 c_pool_Pool_Used r3 w15 fun r22 w23 =>
 (bif (r22 == 1) then
 Ld (.int .i64) w23 (a14.add 0) fun x24 =>
 Ld (.int .i64) w23 (a14.add 1) fun x25 =>
 Ld (.int .i64) w23 (a14.add 2) fun x26 =>
 c_pool_Pool_Free r3 x24 x25 x26 w23 fun r27 w28 =>
 J16 r27 w28
 else
 J16 false w23)
 else
 J16 false w15)
 else
 J16 false w15)))
 (bif (Option.isNone r3) then
 J6 true
 else
 J6 (r4 != 0)))
theorem e_law19_awake  (w : World) (K : Bool → World → Prop) : den Try.prog 38 (bodyOf Try.f9) none (.seq .leaf (.seq .leaf (.seq (.seq .leaf (.cond (.seq .leaf .leaf) .leaf)) (.seq .leaf (.seq .leaf .leaf))))) (argEnv 0 []) [] w (retK Try.prog [.tmp 0] [.one .bool] K) = s_law19_awake  w K := by kernel_rfl
theorem ok_law19_awake { w K} (h : s_law19_awake  w K) : c_law19_awake  w K :=
  fn_sound pok Try.func9 (fn := Try.f9) (c := bodyOf Try.f9) (nt := 38) (by kernel_rfl) (by kernel_rfl) (rs := [.tmp 0]) (by kernel_rfl) [.one .bool] K (.seq .leaf (.seq .leaf (.seq (.seq .leaf (.cond (.seq .leaf .leaf) .leaf)) (.seq .leaf (.seq .leaf .leaf))))) [] (by kernel_rfl) w ((e_law19_awake  w K).mpr h)

/-- goosepond/pool.New -/
def s_pool_New (a0 : SliceV) (a1 : Int) (a2 : Int) (w : World) (K : (Option Addr) → Int → World → Prop) : Prop :=
 (let J4 : Bool → Prop := fun j5 =>
 ((bif j5 then
 K none 1 w
 else
 LoopP (S := Int × Unit) (fun s6 w7 next8 =>
 (bif (decide (s6.1 < (a0.len : Int))) then
 AtIx a0 1 s6.1 fun a9 =>
 Ld (.int .i64) w7 a9 fun x10 =>
 let J11 : Bool → World → Prop := fun j12 w13 =>
 ((bif j12 then
 K none 1 w13
 else
 next8 ((IntKind.i64.wrap (s6.1 + 1)), ()) w13))
 c_four_Host x10 w7 fun r14 w15 =>
 (bif (!r14) then
 J11 true w15
 else
 SubSl a0 1 0 s6.1 fun s16 =>
 c_slices_Contains_int_int s16 x10 w15 fun r17 w18 =>
 J11 r17 w18)
 else
 c_slices_Clone_int_int a0 w7 fun r19 w20 =>
 Al w20 (.map #[] 0) fun a22 w21 =>
 Al w21 (.cells ⟨[(Value.int .i64 a1), (Value.int .i64 a2), (Value.slice r19.a r19.len r19.cap), (Value.map (some w20.heap.size))]⟩ 72) fun a24 w23 =>
 K (some a24) 0 w23)) (0, ()) w))
 (bif (decide ((a0.len : Int) < 1)) then
 J4 true
 else
 (bif (decide ((a0.len : Int) > 16)) then
 J4 true
 else
 (bif (decide (a1 < 1)) then
 J4 true
 else
 (bif (decide (a2 < a1)) then
 J4 true
 else
 J4 (decide (a2 ≥ 65536)))))))
theorem e_pool_New (a0 : SliceV) (a1 : Int) (a2 : Int) (w : World) (K : (Option Addr) → Int → World → Prop) : den Try.prog 57 (bodyOf Try.f10) none (.seq .leaf (.seq (.seq .leaf (.cond (.seq .leaf .leaf) .leaf)) (.seq (.seq .leaf (.blk (.loop [(33, (.int .i64))] (.seq .leaf (.seq (.cond .leaf .leaf) (.seq (.blk (.seq .leaf (.seq .leaf (.cond (.seq .leaf .leaf) .leaf)))) .leaf)))))) (.seq .leaf .leaf)))) (argEnv 0 [(Value.slice a0.a a0.len a0.cap), (Value.int .i64 a1), (Value.int .i64 a2)]) [] w (retK Try.prog [.tmp 6, .tmp 7] [.one .ptr, .one (.int .i64)] K) = s_pool_New a0 a1 a2 w K := by kernel_rfl
theorem ok_pool_New {a0 a1 a2 w K} (h : s_pool_New a0 a1 a2 w K) : c_pool_New a0 a1 a2 w K :=
  fn_sound pok Try.func10 (fn := Try.f10) (c := bodyOf Try.f10) (nt := 57) (by kernel_rfl) (by kernel_rfl) (rs := [.tmp 6, .tmp 7]) (by kernel_rfl) [.one .ptr, .one (.int .i64)] K (.seq .leaf (.seq (.seq .leaf (.cond (.seq .leaf .leaf) .leaf)) (.seq (.seq .leaf (.blk (.loop [(33, (.int .i64))] (.seq .leaf (.seq (.cond .leaf .leaf) (.seq (.blk (.seq .leaf (.seq .leaf (.cond (.seq .leaf .leaf) .leaf)))) .leaf)))))) (.seq .leaf .leaf)))) [(Value.slice a0.a a0.len a0.cap), (Value.int .i64 a1), (Value.int .i64 a2)] (by kernel_rfl) w ((e_pool_New a0 a1 a2 w K).mpr h)

/-- (*goosepond/pool.Pool).Take -/
def s_pool_Pool_Take (a0 : Option Addr) (a1 : Int) (a2 : Int) (a3 : Int) (w : World) (K : Int → Int → Int → Int → World → Prop) : Prop :=
 (isOne (Value.pointer a0) = true ∧
 Al w (.cells ⟨[(Value.pointer a0)]⟩ 24) fun a6 w5 =>
 Al w5 (.cells ⟨[(Value.int .i64 0), (Value.int .i64 0), (Value.int .i64 0)]⟩ 32) fun a8 w7 =>
 Al w7 (.cells ⟨[(Value.int .i64 0)]⟩ 25) fun a10 w9 =>
 Ld .ptr w9 a6 fun x11 =>
 c_pool_Pool_ready x11 w9 fun r12 w13 =>
 (bif (!r12) then
 StN [(Value.int .i64 0), (Value.int .i64 0), (Value.int .i64 0)] w13 a8 0 fun w14 =>
 St w14 a10 (Value.int .i64 2) fun w15 =>
 Ld (.int .i64) w15 (a8.add 0) fun y16 =>
 Ld (.int .i64) w15 (a8.add 1) fun y17 =>
 Ld (.int .i64) w15 (a8.add 2) fun y18 =>
 Ld (.int .i64) w15 a10 fun y19 =>
 K y16 y17 y18 y19 w15
 else
 c_pool_proto a1 w13 fun r20 w21 =>
 (bif (!r20) then
 StN [(Value.int .i64 0), (Value.int .i64 0), (Value.int .i64 0)] w21 a8 0 fun w22 =>
 St w22 a10 (Value.int .i64 1) fun w23 =>
 Ld (.int .i64) w23 (a8.add 0) fun y24 =>
 Ld (.int .i64) w23 (a8.add 1) fun y25 =>
 Ld (.int .i64) w23 (a8.add 2) fun y26 =>
 Ld (.int .i64) w23 a10 fun y27 =>
 K y24 y25 y26 y27 w23
 else
 Ld .ptr w21 a6 fun x28 =>
 ∃ a29 : Addr, x28 = some a29 ∧
 Ld .slice w21 (a29.add 2) fun x30 =>
 (x30.len : Int) ≠ 0 ∧
 (x30.len : Int) ≠ 0 ∧
 LoopP (S := (Int × Unit) × List Nat) (fun s31 w32 next33 =>
 (bif (decide (s31.1.1 < (x30.len : Int))) then
 Ld .ptr w32.drew a6 fun x34 =>
 ∃ a35 : Addr, x34 = some a35 ∧
 Ld .slice w32.drew (a35.add 2) fun x36 =>
 (x30.len : Int) ≠ 0 ∧
 AtIx x36 1 (Int.tmod (IntKind.i64.wrap ((Int.tmod (IntKind.i64.wrap ((Int.tmod a3 (x30.len : Int)) + (x30.len : Int))) (x30.len : Int)) + s31.1.1)) (x30.len : Int)) fun a37 =>
 Ld (.int .i64) w32.drew a37 fun x38 =>
 Al w32.drew (.cells ⟨[(Value.int .i64 0), (Value.int .i64 0), (Value.int .i64 0)]⟩ 32) fun a40 w39 =>
 w39.cell? a37 = some (Value.int .i64 x38) ∧
 w39.cell? (a35.add 2) = some (Value.slice x36.a x36.len x36.cap) ∧
 w39.cell? a6 = some (Value.pointer x34) ∧
 StN [(Value.int .i64 a1), (Value.int .i64 x38), (Value.int .i64 0)] w39 a40 0 fun w41 =>
 Ld .ptr w41 a6 fun x42 =>
 c_pool_Pool_Wants x42 a1 a2 w41 fun r43 w44 =>
 RngP Try.prog none [.one (.int .i64)] r43 w44 (fun l45 x46 W47 Kb48 =>
 St W47 (a40.add 2) (Value.int .i64 x46.1) fun w49 =>
 w49.heap[l45]? = W47.heap[l45]? ∧
 Ld .ptr (busyW w49 l45).drew a6 fun x50 =>
 ∃ a51 : Addr, x50 = some a51 ∧
 Ld .map (busyW w49 l45).drew (a51.add 3) fun x52 =>
 Ld (.int .i64) (busyW w49 l45).drew (a40.add 0) fun x53 =>
 Ld (.int .i64) (busyW w49 l45).drew (a40.add 1) fun x54 =>
 Ld (.int .i64) (busyW w49 l45).drew (a40.add 2) fun x55 =>
 MapGet Try.prog 32 .bool x52 (Value.agg ⟨[(Value.int .i64 x53), (Value.int .i64 x54), (Value.int .i64 x55)]⟩) (Value.bool false) (busyW w49 l45).drew fun x56 =>
 (bif x56 then
 Kb48 .normal (busyW w49 l45).drew
 else
 Ld .ptr (busyW w49 l45).drew.drew a6 fun x57 =>
 ∃ a58 : Addr, x57 = some a58 ∧
 Ld .map (busyW w49 l45).drew.drew (a58.add 3) fun x59 =>
 Ld (.int .i64) (busyW w49 l45).drew.drew (a40.add 0) fun x60 =>
 Ld (.int .i64) (busyW w49 l45).drew.drew (a40.add 1) fun x61 =>
 Ld (.int .i64) (busyW w49 l45).drew.drew (a40.add 2) fun x62 =>
 MapSet Try.prog 32 x59 (Value.agg ⟨[(Value.int .i64 x60), (Value.int .i64 x61), (Value.int .i64 x62)]⟩) (Value.bool true) (busyW w49 l45).drew.drew fun w63 =>
 Ld (.int .i64) w63 (a40.add 0) fun x64 =>
 Ld (.int .i64) w63 (a40.add 1) fun x65 =>
 Ld (.int .i64) w63 (a40.add 2) fun x66 =>
 StN [(Value.int .i64 x64), (Value.int .i64 x65), (Value.int .i64 x66)] w63 a8 0 fun w67 =>
 St w67 a10 (Value.int .i64 0) fun w68 =>
 Kb48 .ret w68))
 (fun w70 =>
 next33 (((IntKind.i64.wrap (s31.1.1 + 1)), ()), (w44.heap.size :: s31.2)) w70)
 (fun w71 =>
 CloseP (w44.heap.size :: s31.2) w71 fun w72 =>
 Ld (.int .i64) w72 (a8.add 0) fun y73 =>
 Ld (.int .i64) w72 (a8.add 1) fun y74 =>
 Ld (.int .i64) w72 (a8.add 2) fun y75 =>
 Ld (.int .i64) w72 a10 fun y76 =>
 K y73 y74 y75 y76 w72)
 [(3, (fun w69 =>
 False))]
 else
 StN [(Value.int .i64 0), (Value.int .i64 0), (Value.int .i64 0)] w32 a8 0 fun w77 =>
 St w77 a10 (Value.int .i64 12) fun w78 =>
 CloseP s31.2 w78 fun w79 =>
 Ld (.int .i64) w79 (a8.add 0) fun y80 =>
 Ld (.int .i64) w79 (a8.add 1) fun y81 =>
 Ld (.int .i64) w79 (a8.add 2) fun y82 =>
 Ld (.int .i64) w79 a10 fun y83 =>
 K y80 y81 y82 y83 w79)) ((0, ()), []) w21)))
theorem e_pool_Pool_Take (a0 : Option Addr) (a1 : Int) (a2 : Int) (a3 : Int) (w : World) (K : Int → Int → Int → Int → World → Prop) : den Try.prog 70 (bodyOf Try.f11) none (.seq .leaf (.seq (.seq .leaf (.cond (.seq .leaf .leaf) .leaf)) (.seq (.seq .leaf (.cond (.seq .leaf .leaf) .leaf)) (.seq .leaf (.seq .leaf (.seq (.seq .leaf (.blk (.loop [(34, (.int .i64))] (.seq .leaf (.seq (.cond .leaf .leaf) (.seq (.blk (.seq .leaf (.seq .leaf (.seq .leaf (.seq .leaf (.blk (.rng [.one (.int .i64)] .leaf (.blk (.seq (.seq .leaf (.cond .leaf .leaf)) (.seq .leaf (.seq .leaf .leaf))))))))))) .leaf)))))) (.seq .leaf .leaf))))))) (argEnv 0 [(Value.pointer a0), (Value.int .i64 a1), (Value.int .i64 a2), (Value.int .i64 a3)]) [] w (retK Try.prog [.cell 8 32, .cell 9 25] [.agg [(.int .i64), (.int .i64), (.int .i64)], .one (.int .i64)] K) = s_pool_Pool_Take a0 a1 a2 a3 w K := by kernel_rfl
theorem ok_pool_Pool_Take {a0 a1 a2 a3 w K} (h : s_pool_Pool_Take a0 a1 a2 a3 w K) : c_pool_Pool_Take a0 a1 a2 a3 w K :=
  fn_sound pok Try.func11 (fn := Try.f11) (c := bodyOf Try.f11) (nt := 70) (by kernel_rfl) (by kernel_rfl) (rs := [.cell 8 32, .cell 9 25]) (by kernel_rfl) [.agg [(.int .i64), (.int .i64), (.int .i64)], .one (.int .i64)] K (.seq .leaf (.seq (.seq .leaf (.cond (.seq .leaf .leaf) .leaf)) (.seq (.seq .leaf (.cond (.seq .leaf .leaf) .leaf)) (.seq .leaf (.seq .leaf (.seq (.seq .leaf (.blk (.loop [(34, (.int .i64))] (.seq .leaf (.seq (.cond .leaf .leaf) (.seq (.blk (.seq .leaf (.seq .leaf (.seq .leaf (.seq .leaf (.blk (.rng [.one (.int .i64)] .leaf (.blk (.seq (.seq .leaf (.cond .leaf .leaf)) (.seq .leaf (.seq .leaf .leaf))))))))))) .leaf)))))) (.seq .leaf .leaf))))))) [(Value.pointer a0), (Value.int .i64 a1), (Value.int .i64 a2), (Value.int .i64 a3)] (by kernel_rfl) w ((e_pool_Pool_Take a0 a1 a2 a3 w K).mpr h)

/-- (*goosepond/pool.Pool).Used -/
def s_pool_Pool_Used (a0 : Option Addr) (w : World) (K : Int → World → Prop) : Prop :=
 (c_pool_Pool_ready a0 w fun r2 w3 =>
 (bif (!r2) then
 K 0 w3
 else
 ∃ a4 : Addr, a0 = some a4 ∧
 Ld .map w3 (a4.add 3) fun x5 =>
 MapLen w3 x5 fun n6 =>
 K n6 w3))
theorem e_pool_Pool_Used (a0 : Option Addr) (w : World) (K : Int → World → Prop) : den Try.prog 11 (bodyOf Try.f12) none (.seq .leaf (.seq (.seq .leaf (.cond (.seq .leaf .leaf) .leaf)) (.seq .leaf .leaf))) (argEnv 0 [(Value.pointer a0)]) [] w (retK Try.prog [.tmp 2] [.one (.int .i64)] K) = s_pool_Pool_Used a0 w K := by kernel_rfl
theorem ok_pool_Pool_Used {a0 w K} (h : s_pool_Pool_Used a0 w K) : c_pool_Pool_Used a0 w K :=
  fn_sound pok Try.func12 (fn := Try.f12) (c := bodyOf Try.f12) (nt := 11) (by kernel_rfl) (by kernel_rfl) (rs := [.tmp 2]) (by kernel_rfl) [.one (.int .i64)] K (.seq .leaf (.seq (.seq .leaf (.cond (.seq .leaf .leaf) .leaf)) (.seq .leaf .leaf))) [(Value.pointer a0)] (by kernel_rfl) w ((e_pool_Pool_Used a0 w K).mpr h)

/-- (*goosepond/pool.Pool).Free -/
def s_pool_Pool_Free (a0 : Option Addr) (a1_0 : Int) (a1_1 : Int) (a1_2 : Int) (w : World) (K : Bool → World → Prop) : Prop :=
 (Al w (.cells ⟨[(Value.int .i64 a1_0), (Value.int .i64 a1_1), (Value.int .i64 a1_2)]⟩ 32) fun a4 w3 =>
 let J5 : Bool → World → Prop := fun j6 w7 =>
 ((bif j6 then
 K false w7
 else
 ∃ a8 : Addr, a0 = some a8 ∧
 Ld .map w7.drew (a8.add 3) fun x9 =>
 Ld (.int .i64) w7.drew (a4.add 0) fun x10 =>
 Ld (.int .i64) w7.drew (a4.add 1) fun x11 =>
 Ld (.int .i64) w7.drew (a4.add 2) fun x12 =>
 MapDel Try.prog 32 x9 (Value.agg ⟨[(Value.int .i64 x10), (Value.int .i64 x11), (Value.int .i64 x12)]⟩) w7.drew fun w13 =>
 K true w13))
 c_pool_Pool_ready a0 w3.drew fun r14 w15 =>
 (bif (!r14) then
 J5 true w15
 else
 ∃ a16 : Addr, a0 = some a16 ∧
 Ld .map w15 (a16.add 3) fun x17 =>
 Ld (.int .i64) w15 (a4.add 0) fun x18 =>
 Ld (.int .i64) w15 (a4.add 1) fun x19 =>
 Ld (.int .i64) w15 (a4.add 2) fun x20 =>
 MapGet Try.prog 32 .bool x17 (Value.agg ⟨[(Value.int .i64 x18), (Value.int .i64 x19), (Value.int .i64 x20)]⟩) (Value.bool false) w15 fun x21 =>
 J5 (!x21) w15))
theorem e_pool_Pool_Free (a0 : Option Addr) (a1_0 : Int) (a1_1 : Int) (a1_2 : Int) (w : World) (K : Bool → World → Prop) : den Try.prog 22 (bodyOf Try.f29) none (.seq .leaf (.seq (.seq .leaf (.cond (.seq .leaf .leaf) .leaf)) (.seq .leaf (.seq .leaf .leaf)))) (argEnv 0 [(Value.pointer a0), (Value.agg ⟨[(Value.int .i64 a1_0), (Value.int .i64 a1_1), (Value.int .i64 a1_2)]⟩)]) [] w (retK Try.prog [.tmp 4] [.one .bool] K) = s_pool_Pool_Free a0 a1_0 a1_1 a1_2 w K := by kernel_rfl
theorem ok_pool_Pool_Free {a0 a1_0 a1_1 a1_2 w K} (h : s_pool_Pool_Free a0 a1_0 a1_1 a1_2 w K) : c_pool_Pool_Free a0 a1_0 a1_1 a1_2 w K :=
  fn_sound pok Try.func29 (fn := Try.f29) (c := bodyOf Try.f29) (nt := 22) (by kernel_rfl) (by kernel_rfl) (rs := [.tmp 4]) (by kernel_rfl) [.one .bool] K (.seq .leaf (.seq (.seq .leaf (.cond (.seq .leaf .leaf) .leaf)) (.seq .leaf (.seq .leaf .leaf)))) [(Value.pointer a0), (Value.agg ⟨[(Value.int .i64 a1_0), (Value.int .i64 a1_1), (Value.int .i64 a1_2)]⟩)] (by kernel_rfl) w ((e_pool_Pool_Free a0 a1_0 a1_1 a1_2 w K).mpr h)

/-- goosepond/four.Host -/
def s_four_Host (a0 : Int) (w : World) (K : Bool → World → Prop) : Prop :=
 (c_four_Right a0 w fun r2 w3 =>
 (bif (!r2) then
 K false w3
 else
 Al w3 (.cells ⟨[(Value.int .i64 0), (Value.int .i64 8), (Value.int .i64 2130706432), (Value.int .i64 8), (Value.int .i64 3758096384), (Value.int .i64 3)]⟩ 106) fun a5 w4 =>
 c_four_one a0 ⟨(some a5), 3, 3⟩ w4 fun r6 w7 =>
 K (!r6) w7))
theorem e_four_Host (a0 : Int) (w : World) (K : Bool → World → Prop) : den Try.prog 13 (bodyOf Try.f30) none (.seq .leaf (.seq (.seq .leaf (.cond (.seq .leaf .leaf) .leaf)) (.seq .leaf .leaf))) (argEnv 0 [(Value.int .i64 a0)]) [] w (retK Try.prog [.tmp 2] [.one .bool] K) = s_four_Host a0 w K := by kernel_rfl
theorem ok_four_Host {a0 w K} (h : s_four_Host a0 w K) : c_four_Host a0 w K :=
  fn_sound pok Try.func30 (fn := Try.f30) (c := bodyOf Try.f30) (nt := 13) (by kernel_rfl) (by kernel_rfl) (rs := [.tmp 2]) (by kernel_rfl) [.one .bool] K (.seq .leaf (.seq (.seq .leaf (.cond (.seq .leaf .leaf) .leaf)) (.seq .leaf .leaf))) [(Value.int .i64 a0)] (by kernel_rfl) w ((e_four_Host a0 w K).mpr h)

/-- slices.Contains[[]int,int] -/
def s_slices_Contains_int_int (a0 : SliceV) (a1 : Int) (w : World) (K : Bool → World → Prop) : Prop :=
 (c_slices_Index_int_int a0 a1 w fun r3 w4 =>
 K (decide (r3 ≥ 0)) w4)
theorem e_slices_Contains_int_int (a0 : SliceV) (a1 : Int) (w : World) (K : Bool → World → Prop) : den Try.prog 9 (bodyOf Try.f31) none (.seq .leaf (.seq .leaf .leaf)) (argEnv 0 [(Value.slice a0.a a0.len a0.cap), (Value.int .i64 a1)]) [] w (retK Try.prog [.tmp 4] [.one .bool] K) = s_slices_Contains_int_int a0 a1 w K := by kernel_rfl
theorem ok_slices_Contains_int_int {a0 a1 w K} (h : s_slices_Contains_int_int a0 a1 w K) : c_slices_Contains_int_int a0 a1 w K :=
  fn_sound pok Try.func31 (fn := Try.f31) (c := bodyOf Try.f31) (nt := 9) (by kernel_rfl) (by kernel_rfl) (rs := [.tmp 4]) (by kernel_rfl) [.one .bool] K (.seq .leaf (.seq .leaf .leaf)) [(Value.slice a0.a a0.len a0.cap), (Value.int .i64 a1)] (by kernel_rfl) w ((e_slices_Contains_int_int a0 a1 w K).mpr h)

/-- slices.Clone[[]int,int] -/
def s_slices_Clone_int_int (a0 : SliceV) (w : World) (K : SliceV → World → Prop) : Prop :=
 ((bif (Option.isNone a0.a) then
 K ⟨none, 0, 0⟩ w
 else
 Al w (.cells ⟨[]⟩ 3) fun a3 w2 =>
 AppSl 3 1 8 [(Value.int .i64 0)] ⟨(some a3), 0, 0⟩ a0 w2 fun s4 w5 =>
 K s4 w5))
theorem e_slices_Clone_int_int (a0 : SliceV) (w : World) (K : SliceV → World → Prop) : den Try.prog 8 (bodyOf Try.f32) none (.seq .leaf (.seq (.seq .leaf (.cond (.seq .leaf .leaf) .leaf)) (.seq .leaf .leaf))) (argEnv 0 [(Value.slice a0.a a0.len a0.cap)]) [] w (retK Try.prog [.tmp 2] [.one .slice] K) = s_slices_Clone_int_int a0 w K := by kernel_rfl
theorem ok_slices_Clone_int_int {a0 w K} (h : s_slices_Clone_int_int a0 w K) : c_slices_Clone_int_int a0 w K :=
  fn_sound pok Try.func32 (fn := Try.f32) (c := bodyOf Try.f32) (nt := 8) (by kernel_rfl) (by kernel_rfl) (rs := [.tmp 2]) (by kernel_rfl) [.one .slice] K (.seq .leaf (.seq (.seq .leaf (.cond (.seq .leaf .leaf) .leaf)) (.seq .leaf .leaf))) [(Value.slice a0.a a0.len a0.cap)] (by kernel_rfl) w ((e_slices_Clone_int_int a0 w K).mpr h)

/-- (*goosepond/pool.Pool).ready -/
def s_pool_Pool_ready (a0 : Option Addr) (w : World) (K : Bool → World → Prop) : Prop :=
 (let J2 : Bool → Prop := fun j3 =>
 (K j3 w)
 (bif (!(Option.isNone a0)) then
 ∃ a4 : Addr, a0 = some a4 ∧
 Ld .map w (a4.add 3) fun x5 =>
 J2 (!(Option.isNone x5))
 else
 J2 false))
theorem e_pool_Pool_ready (a0 : Option Addr) (w : World) (K : Bool → World → Prop) : den Try.prog 12 (bodyOf Try.f33) none (.seq .leaf (.seq .leaf .leaf)) (argEnv 0 [(Value.pointer a0)]) [] w (retK Try.prog [.tmp 2] [.one .bool] K) = s_pool_Pool_ready a0 w K := by kernel_rfl
theorem ok_pool_Pool_ready {a0 w K} (h : s_pool_Pool_ready a0 w K) : c_pool_Pool_ready a0 w K :=
  fn_sound pok Try.func33 (fn := Try.f33) (c := bodyOf Try.f33) (nt := 12) (by kernel_rfl) (by kernel_rfl) (rs := [.tmp 2]) (by kernel_rfl) [.one .bool] K (.seq .leaf (.seq .leaf .leaf)) [(Value.pointer a0)] (by kernel_rfl) w ((e_pool_Pool_ready a0 w K).mpr h)

/-- goosepond/pool.proto -/
def s_pool_proto (a0 : Int) (w : World) (K : Bool → World → Prop) : Prop :=
 (let J2 : Bool → Prop := fun j3 =>
 ((bif j3 then
 K true w
 else
 K false w))
 (bif (a0 == 1) then
 J2 (a0 == 1)
 else
 (bif (a0 == 6) then
 J2 (a0 == 6)
 else
 J2 (a0 == 17))))
theorem e_pool_proto (a0 : Int) (w : World) (K : Bool → World → Prop) : den Try.prog 8 (bodyOf Try.f34) none (.seq .leaf (.seq (.seq .leaf (.blk (.seq (.seq .leaf (.cond .leaf (.seq .leaf (.cond .leaf .leaf)))) (.cond (.seq .leaf .leaf) .leaf)))) (.seq .leaf .leaf))) (argEnv 0 [(Value.int .i64 a0)]) [] w (retK Try.prog [.tmp 2] [.one .bool] K) = s_pool_proto a0 w K := by kernel_rfl
theorem ok_pool_proto {a0 w K} (h : s_pool_proto a0 w K) : c_pool_proto a0 w K :=
  fn_sound pok Try.func34 (fn := Try.f34) (c := bodyOf Try.f34) (nt := 8) (by kernel_rfl) (by kernel_rfl) (rs := [.tmp 2]) (by kernel_rfl) [.one .bool] K (.seq .leaf (.seq (.seq .leaf (.blk (.seq (.seq .leaf (.cond .leaf (.seq .leaf (.cond .leaf .leaf)))) (.cond (.seq .leaf .leaf) .leaf)))) (.seq .leaf .leaf))) [(Value.int .i64 a0)] (by kernel_rfl) w ((e_pool_proto a0 w K).mpr h)

/-- (*goosepond/pool.Pool).Wants -/
def s_pool_Pool_Wants (a0 : Option Addr) (a1 : Int) (a2 : Int) (w : World) (K : Value → World → Prop) : Prop :=
 (isOne (Value.pointer a0) = true ∧
 Al w (.cells ⟨[(Value.pointer a0)]⟩ 24) fun a5 w4 =>
 isOne (Value.int .i64 a1) = true ∧
 Al w4 (.cells ⟨[(Value.int .i64 a1)]⟩ 3) fun a7 w6 =>
 isOne (Value.int .i64 a2) = true ∧
 Al w6 (.cells ⟨[(Value.int .i64 a2)]⟩ 3) fun a9 w8 =>
 K (Value.func (.func 65) #[] #[(Value.pointer (some a5)), (Value.pointer (some a7)), (Value.pointer (some a9))]) w8)
theorem e_pool_Pool_Wants (a0 : Option Addr) (a1 : Int) (a2 : Int) (w : World) (K : Value → World → Prop) : den Try.prog 8 (bodyOf Try.f35) none (.seq .leaf (.seq .leaf .leaf)) (argEnv 0 [(Value.pointer a0), (Value.int .i64 a1), (Value.int .i64 a2)]) [] w (retK Try.prog [.tmp 6] [.one .any] K) = s_pool_Pool_Wants a0 a1 a2 w K := by kernel_rfl
theorem ok_pool_Pool_Wants {a0 a1 a2 w K} (h : s_pool_Pool_Wants a0 a1 a2 w K) : c_pool_Pool_Wants a0 a1 a2 w K :=
  fn_sound pok Try.func35 (fn := Try.f35) (c := bodyOf Try.f35) (nt := 8) (by kernel_rfl) (by kernel_rfl) (rs := [.tmp 6]) (by kernel_rfl) [.one .any] K (.seq .leaf (.seq .leaf .leaf)) [(Value.pointer a0), (Value.int .i64 a1), (Value.int .i64 a2)] (by kernel_rfl) w ((e_pool_Pool_Wants a0 a1 a2 w K).mpr h)

/-- goosepond/four.Right -/
def s_four_Right (a0 : Int) (w : World) (K : Bool → World → Prop) : Prop :=
 (let J2 : Bool → Prop := fun j3 =>
 (K j3 w)
 (bif (decide (a0 ≥ 0)) then
 J2 (decide (a0 < 4294967296))
 else
 J2 false))
theorem e_four_Right (a0 : Int) (w : World) (K : Bool → World → Prop) : den Try.prog 9 (bodyOf Try.f62) none (.seq .leaf (.seq .leaf .leaf)) (argEnv 0 [(Value.int .i64 a0)]) [] w (retK Try.prog [.tmp 2] [.one .bool] K) = s_four_Right a0 w K := by kernel_rfl
theorem ok_four_Right {a0 w K} (h : s_four_Right a0 w K) : c_four_Right a0 w K :=
  fn_sound pok Try.func62 (fn := Try.f62) (c := bodyOf Try.f62) (nt := 9) (by kernel_rfl) (by kernel_rfl) (rs := [.tmp 2]) (by kernel_rfl) [.one .bool] K (.seq .leaf (.seq .leaf .leaf)) [(Value.int .i64 a0)] (by kernel_rfl) w ((e_four_Right a0 w K).mpr h)

/-- goosepond/four.one -/
def s_four_one (a0 : Int) (a1 : SliceV) (w : World) (K : Bool → World → Prop) : Prop :=
 (LoopP (S := Int × Unit) (fun s3 w4 next5 =>
 (bif (decide (s3.1 < (a1.len : Int))) then
 AtIx a1 2 s3.1 fun a6 =>
 Ld (.int .i64) w4 (a6.add 0) fun x7 =>
 Ld (.int .i64) w4 (a6.add 1) fun x8 =>
 Al w4 (.cells ⟨[(Value.int .i64 0), (Value.int .i64 0)]⟩ 106) fun a10 w9 =>
 StN [(Value.int .i64 x7), (Value.int .i64 x8)] w9 a10 0 fun w11 =>
 Ld (.int .i64) w11 (a10.add 0) fun x12 =>
 Ld (.int .i64) w11 (a10.add 1) fun x13 =>
 c_four_block_has x12 x13 a0 w11 fun r14 w15 =>
 (bif r14 then
 K true w15
 else
 next5 ((IntKind.i64.wrap (s3.1 + 1)), ()) w15)
 else
 K false w4)) (0, ()) w)
theorem e_four_one (a0 : Int) (a1 : SliceV) (w : World) (K : Bool → World → Prop) : den Try.prog 17 (bodyOf Try.f63) none (.seq .leaf (.seq (.seq .leaf (.blk (.loop [(9, (.int .i64))] (.seq .leaf (.seq (.cond .leaf .leaf) (.seq (.blk (.seq .leaf (.seq .leaf (.cond (.seq .leaf .leaf) .leaf)))) .leaf)))))) (.seq .leaf .leaf))) (argEnv 0 [(Value.int .i64 a0), (Value.slice a1.a a1.len a1.cap)]) [] w (retK Try.prog [.tmp 4] [.one .bool] K) = s_four_one a0 a1 w K := by kernel_rfl
theorem ok_four_one {a0 a1 w K} (h : s_four_one a0 a1 w K) : c_four_one a0 a1 w K :=
  fn_sound pok Try.func63 (fn := Try.f63) (c := bodyOf Try.f63) (nt := 17) (by kernel_rfl) (by kernel_rfl) (rs := [.tmp 4]) (by kernel_rfl) [.one .bool] K (.seq .leaf (.seq (.seq .leaf (.blk (.loop [(9, (.int .i64))] (.seq .leaf (.seq (.cond .leaf .leaf) (.seq (.blk (.seq .leaf (.seq .leaf (.cond (.seq .leaf .leaf) .leaf)))) .leaf)))))) (.seq .leaf .leaf))) [(Value.int .i64 a0), (Value.slice a1.a a1.len a1.cap)] (by kernel_rfl) w ((e_four_one a0 a1 w K).mpr h)

/-- slices.Index[[]int,int] -/
def s_slices_Index_int_int (a0 : SliceV) (a1 : Int) (w : World) (K : Int → World → Prop) : Prop :=
 (LoopP (S := Int × Unit) (fun s3 w4 next5 =>
 (bif (decide (s3.1 < (a0.len : Int))) then
 AtIx a0 1 s3.1 fun a6 =>
 Ld (.int .i64) w4 a6 fun x7 =>
 (bif (a1 == x7) then
 K s3.1 w4
 else
 next5 ((IntKind.i64.wrap (s3.1 + 1)), ()) w4)
 else
 K (-1) w4)) (0, ()) w)
theorem e_slices_Index_int_int (a0 : SliceV) (a1 : Int) (w : World) (K : Int → World → Prop) : den Try.prog 19 (bodyOf Try.f64) none (.seq .leaf (.seq (.seq .leaf (.blk (.loop [(8, (.int .i64))] (.seq .leaf (.seq (.cond .leaf .leaf) (.seq (.blk (.seq .leaf (.seq .leaf (.cond (.seq .leaf .leaf) .leaf)))) .leaf)))))) (.seq .leaf .leaf))) (argEnv 0 [(Value.slice a0.a a0.len a0.cap), (Value.int .i64 a1)]) [] w (retK Try.prog [.tmp 4] [.one (.int .i64)] K) = s_slices_Index_int_int a0 a1 w K := by kernel_rfl
theorem ok_slices_Index_int_int {a0 a1 w K} (h : s_slices_Index_int_int a0 a1 w K) : c_slices_Index_int_int a0 a1 w K :=
  fn_sound pok Try.func64 (fn := Try.f64) (c := bodyOf Try.f64) (nt := 19) (by kernel_rfl) (by kernel_rfl) (rs := [.tmp 4]) (by kernel_rfl) [.one (.int .i64)] K (.seq .leaf (.seq (.seq .leaf (.blk (.loop [(8, (.int .i64))] (.seq .leaf (.seq (.cond .leaf .leaf) (.seq (.blk (.seq .leaf (.seq .leaf (.cond (.seq .leaf .leaf) .leaf)))) .leaf)))))) (.seq .leaf .leaf))) [(Value.slice a0.a a0.len a0.cap), (Value.int .i64 a1)] (by kernel_rfl) w ((e_slices_Index_int_int a0 a1 w K).mpr h)

/-- (*goosepond/pool.Pool).Wants$1 -/
def s_pool_Pool_Wants_1 (a0 : Value) (f0 : Addr) (f1 : Addr) (f2 : Addr) (w : World) (K : World → Prop) : Prop :=
 (isOne a0 = true ∧
 Al w (.cells ⟨[a0]⟩ 65) fun a3 w2 =>
 let J4 : Bool → World → Prop := fun j5 w6 =>
 ((bif j5 then
 K w6
 else
 Ld (.int .i64) w6 f2 fun x7 =>
 St w6 f2 (Value.int .i64 (andI .i64 x7 65535)) fun w8 =>
 let J9 : Bool → World → Prop := fun j10 w11 =>
 ((bif j10 then
 K w11
 else
 Ld .ptr w11 f0 fun x12 =>
 Ld (.int .i64) w11 f1 fun x13 =>
 Ld (.int .i64) w11 f2 fun x14 =>
 c_pool_Pool_rows x12 x13 x14 w11 fun r15 w16 =>
 LoopP (S := (Int × Unit) × List Nat) (fun s17 w18 next19 =>
 (bif (decide (s17.1.1 < (r15.len : Int))) then
 AtIx r15 1 s17.1.1 fun a20 =>
 Ld .any w18 a20 fun x21 =>
 Al w18 (.cells ⟨[(Value.int .i64 0)]⟩ 3) fun a23 w22 =>
 St w22 a23 (Value.int .i64 s17.1.1) fun w24 =>
 RngP Try.prog none [.one (.int .i64)] x21 w24 (fun l25 x26 W27 Kb28 =>
 W27.heap[l25]? = W27.heap[l25]? ∧
 let J29 : Bool → Prop := fun j30 =>
 (let J31 : Bool → Prop := fun j32 =>
 ((bif j32 then
 Kb28 .normal (busyW W27 l25)
 else
 Ld .any (busyW W27 l25) a3 fun x33 =>
 CallV Try.prog [.one .bool] x33 [(Value.int .i64 x26.1)] (busyW W27 l25) fun r34 w35 =>
 ∃ r36 : Bool, r34 = (Value.bool r36) ∧
 (bif (!r36) then
 Kb28 .ret w35
 else
 Kb28 .normal w35)))
 Ld (.int .i64) (busyW W27 l25) f2 fun x37 =>
 (bif (x26.1 == x37) then
 J31 true
 else
 (bif j30 then
 Ld (.int .i64) (busyW W27 l25) f1 fun x38 =>
 J31 (x38 != 1)
 else
 J31 false)))
 Ld (.int .i64) (busyW W27 l25) a23 fun x39 =>
 (bif (x39 == 1) then
 Ld (.int .i64) (busyW W27 l25) f2 fun x40 =>
 J29 (decide (x26.1 ≥ x40))
 else
 J29 false))
 (fun w42 =>
 next19 (((IntKind.i64.wrap (s17.1.1 + 1)), ()), (w24.heap.size :: s17.2)) w42)
 (fun w43 =>
 CloseP (w24.heap.size :: s17.2) w43 fun w44 =>
 K w44)
 [(3, (fun w41 =>
 False))]
 else
 CloseP s17.2 w18 fun w45 =>
 K w45)) ((0, ()), []) w16))
 Ld .ptr w8.drew f0 fun x46 =>
 ∃ a47 : Addr, x46 = some a47 ∧
 Ld (.int .i64) w8.drew (a47.add 0) fun x48 =>
 Ld (.int .i64) w8.drew (a47.add 1) fun x49 =>
 Ld (.int .i64) w8.drew f2 fun x50 =>
 c_pool_span_has x48 x49 x50 w8.drew fun r51 w52 =>
 (bif r51 then
 Ld .any w52 a3 fun x53 =>
 Ld (.int .i64) w52 f2 fun x54 =>
 CallV Try.prog [.one .bool] x53 [(Value.int .i64 x54)] w52 fun r55 w56 =>
 ∃ r57 : Bool, r55 = (Value.bool r57) ∧
 J9 (!r57) w56
 else
 J9 false w52)))
 Ld .ptr w2 f0 fun x58 =>
 c_pool_Pool_ready x58 w2 fun r59 w60 =>
 (bif (!r59) then
 J4 true w60
 else
 Ld (.int .i64) w60 f1 fun x61 =>
 c_pool_proto x61 w60 fun r62 w63 =>
 J4 (!r62) w63))
theorem e_pool_Pool_Wants_1 (a0 : Value) (f0 : Addr) (f1 : Addr) (f2 : Addr) (w : World) (K : World → Prop) : den Try.prog 65 (bodyOf Try.f65) none (.seq .leaf (.seq (.seq .leaf (.cond .leaf .leaf)) (.seq .leaf (.seq (.seq .leaf (.cond .leaf .leaf)) (.seq .leaf (.blk (.loop [(36, (.int .i64))] (.seq .leaf (.seq (.cond .leaf .leaf) (.seq (.blk (.seq .leaf (.seq .leaf (.blk (.rng [.one (.int .i64)] .leaf (.blk (.seq .leaf (.seq (.seq .leaf (.cond .leaf .leaf)) (.seq .leaf (.cond .leaf .leaf)))))))))) .leaf)))))))))) (argEnv 0 [a0, (Value.pointer (some f0)), (Value.pointer (some f1)), (Value.pointer (some f2))]) [] w (retK Try.prog [] [] K) = s_pool_Pool_Wants_1 a0 f0 f1 f2 w K := by kernel_rfl
theorem ok_pool_Pool_Wants_1 {a0 f0 f1 f2 w K} (h : s_pool_Pool_Wants_1 a0 f0 f1 f2 w K) : c_pool_Pool_Wants_1 a0 f0 f1 f2 w K :=
  fn_sound pok Try.func65 (fn := Try.f65) (c := bodyOf Try.f65) (nt := 65) (by kernel_rfl) (by kernel_rfl) (rs := []) (by kernel_rfl) [] K (.seq .leaf (.seq (.seq .leaf (.cond .leaf .leaf)) (.seq .leaf (.seq (.seq .leaf (.cond .leaf .leaf)) (.seq .leaf (.blk (.loop [(36, (.int .i64))] (.seq .leaf (.seq (.cond .leaf .leaf) (.seq (.blk (.seq .leaf (.seq .leaf (.blk (.rng [.one (.int .i64)] .leaf (.blk (.seq .leaf (.seq (.seq .leaf (.cond .leaf .leaf)) (.seq .leaf (.cond .leaf .leaf)))))))))) .leaf)))))))))) [a0, (Value.pointer (some f0)), (Value.pointer (some f1)), (Value.pointer (some f2))] (by kernel_rfl) w ((e_pool_Pool_Wants_1 a0 f0 f1 f2 w K).mpr h)

/-- (goosepond/pool.span).has -/
def s_pool_span_has (a0_0 : Int) (a0_1 : Int) (a1 : Int) (w : World) (K : Bool → World → Prop) : Prop :=
 (Al w (.cells ⟨[(Value.int .i64 a0_0), (Value.int .i64 a0_1)]⟩ 68) fun a4 w3 =>
 let J5 : Bool → Prop := fun j6 =>
 (K j6 w3)
 Ld (.int .i64) w3 a4 fun x7 =>
 (bif (decide (x7 ≤ a1)) then
 Ld (.int .i64) w3 (a4.add 1) fun x8 =>
 J5 (decide (a1 ≤ x8))
 else
 J5 false))
theorem e_pool_span_has (a0_0 : Int) (a0_1 : Int) (a1 : Int) (w : World) (K : Bool → World → Prop) : den Try.prog 15 (bodyOf Try.f66) none (.seq .leaf (.seq .leaf .leaf)) (argEnv 0 [(Value.agg ⟨[(Value.int .i64 a0_0), (Value.int .i64 a0_1)]⟩), (Value.int .i64 a1)]) [] w (retK Try.prog [.tmp 4] [.one .bool] K) = s_pool_span_has a0_0 a0_1 a1 w K := by kernel_rfl
theorem ok_pool_span_has {a0_0 a0_1 a1 w K} (h : s_pool_span_has a0_0 a0_1 a1 w K) : c_pool_span_has a0_0 a0_1 a1 w K :=
  fn_sound pok Try.func66 (fn := Try.f66) (c := bodyOf Try.f66) (nt := 15) (by kernel_rfl) (by kernel_rfl) (rs := [.tmp 4]) (by kernel_rfl) [.one .bool] K (.seq .leaf (.seq .leaf .leaf)) [(Value.agg ⟨[(Value.int .i64 a0_0), (Value.int .i64 a0_1)]⟩), (Value.int .i64 a1)] (by kernel_rfl) w ((e_pool_span_has a0_0 a0_1 a1 w K).mpr h)

/-- (*goosepond/pool.Pool).rows -/
def s_pool_Pool_rows (a0 : Option Addr) (a1 : Int) (a2 : Int) (w : World) (K : SliceV → World → Prop) : Prop :=
 ((bif (a1 == 1) then
 ∃ a4 : Addr, a0 = some a4 ∧
 Ld (.int .i64) w.drew (a4.add 0) fun x5 =>
 Ld (.int .i64) w.drew (a4.add 1) fun x6 =>
 ∃ a7 : Addr, a0 = some a7 ∧
 Ld (.int .i64) w.drew a7 fun x8 =>
 c_pool_step x5 x6 x8 1 w.drew fun r9 w10 =>
 allOne [r9] ∧
 Al w10 (.cells ⟨[r9]⟩ 74) fun a12 w11 =>
 K ⟨(some a12), 1, 1⟩ w11
 else
 JoinP (S := (Addr × Addr × Unit) × World) (fun s13 =>
 Ld (.int .i64) s13.2.drew (s13.1.1.add 0) fun x14 =>
 Ld (.int .i64) s13.2.drew (s13.1.1.add 1) fun x15 =>
 Ld (.int .i64) s13.2.drew (s13.1.1.add 0) fun x16 =>
 Ld (.int .i64) s13.2.drew (s13.1.1.add 1) fun x17 =>
 Ld (.int .i64) s13.2.drew (s13.1.1.add 0) fun x18 =>
 Ld (.int .i64) s13.2.drew (s13.1.1.add 1) fun x19 =>
 Ld (.int .i64) s13.2.drew (s13.1.1.add 0) fun x20 =>
 Ld (.int .i64) s13.2.drew (s13.1.1.add 1) fun x21 =>
 Ld (.int .i64) s13.2.drew (s13.1.2.1.add 0) fun x22 =>
 Ld (.int .i64) s13.2.drew (s13.1.2.1.add 1) fun x23 =>
 Ld (.int .i64) s13.2.drew (s13.1.2.1.add 0) fun x24 =>
 Ld (.int .i64) s13.2.drew (s13.1.2.1.add 1) fun x25 =>
 ∃ a26 : Addr, a0 = some a26 ∧
 Ld (.int .i64) s13.2.drew (a26.add 0) fun x27 =>
 Ld (.int .i64) s13.2.drew (a26.add 1) fun x28 =>
 ∃ a29 : Addr, a0 = some a29 ∧
 Ld (.int .i64) s13.2.drew (a29.add 0) fun x30 =>
 Ld (.int .i64) s13.2.drew (a29.add 1) fun x31 =>
 c_pool_alike x16 x17 a2 s13.2.drew fun r32 w33 =>
 w33.cell? (a29.add 0) = some (Value.int .i64 x30) ∧
 w33.cell? (a29.add 1) = some (Value.int .i64 x31) ∧
 w33.cell? (a26.add 0) = some (Value.int .i64 x27) ∧
 w33.cell? (a26.add 1) = some (Value.int .i64 x28) ∧
 w33.cell? (s13.1.2.1.add 0) = some (Value.int .i64 x24) ∧
 w33.cell? (s13.1.2.1.add 1) = some (Value.int .i64 x25) ∧
 w33.cell? (s13.1.2.1.add 0) = some (Value.int .i64 x22) ∧
 w33.cell? (s13.1.2.1.add 1) = some (Value.int .i64 x23) ∧
 w33.cell? (s13.1.1.add 0) = some (Value.int .i64 x20) ∧
 w33.cell? (s13.1.1.add 1) = some (Value.int .i64 x21) ∧
 w33.cell? (s13.1.1.add 0) = some (Value.int .i64 x18) ∧
 w33.cell? (s13.1.1.add 1) = some (Value.int .i64 x19) ∧
 w33.cell? (s13.1.1.add 0) = some (Value.int .i64 x14) ∧
 w33.cell? (s13.1.1.add 1) = some (Value.int .i64 x15) ∧
 c_pool_step x14 x15 (if r32 > (IntKind.i64.wrap (a2 + 2)) then r32 else (IntKind.i64.wrap (a2 + 2))) 2 w33 fun r34 w35 =>
 w35.cell? (a29.add 0) = some (Value.int .i64 x30) ∧
 w35.cell? (a29.add 1) = some (Value.int .i64 x31) ∧
 w35.cell? (a26.add 0) = some (Value.int .i64 x27) ∧
 w35.cell? (a26.add 1) = some (Value.int .i64 x28) ∧
 w35.cell? (s13.1.2.1.add 0) = some (Value.int .i64 x24) ∧
 w35.cell? (s13.1.2.1.add 1) = some (Value.int .i64 x25) ∧
 w35.cell? (s13.1.2.1.add 0) = some (Value.int .i64 x22) ∧
 w35.cell? (s13.1.2.1.add 1) = some (Value.int .i64 x23) ∧
 w35.cell? (s13.1.1.add 0) = some (Value.int .i64 x20) ∧
 w35.cell? (s13.1.1.add 1) = some (Value.int .i64 x21) ∧
 w35.cell? (s13.1.1.add 0) = some (Value.int .i64 x18) ∧
 w35.cell? (s13.1.1.add 1) = some (Value.int .i64 x19) ∧
 c_pool_alike x20 x21 a2 w35 fun r36 w37 =>
 w37.cell? (a29.add 0) = some (Value.int .i64 x30) ∧
 w37.cell? (a29.add 1) = some (Value.int .i64 x31) ∧
 w37.cell? (a26.add 0) = some (Value.int .i64 x27) ∧
 w37.cell? (a26.add 1) = some (Value.int .i64 x28) ∧
 w37.cell? (s13.1.2.1.add 0) = some (Value.int .i64 x24) ∧
 w37.cell? (s13.1.2.1.add 1) = some (Value.int .i64 x25) ∧
 w37.cell? (s13.1.2.1.add 0) = some (Value.int .i64 x22) ∧
 w37.cell? (s13.1.2.1.add 1) = some (Value.int .i64 x23) ∧
 w37.cell? (s13.1.1.add 0) = some (Value.int .i64 x18) ∧
 w37.cell? (s13.1.1.add 1) = some (Value.int .i64 x19) ∧
 c_pool_step x18 x19 r36 2 w37 fun r38 w39 =>
 w39.cell? (a29.add 0) = some (Value.int .i64 x30) ∧
 w39.cell? (a29.add 1) = some (Value.int .i64 x31) ∧
 w39.cell? (a26.add 0) = some (Value.int .i64 x27) ∧
 w39.cell? (a26.add 1) = some (Value.int .i64 x28) ∧
 w39.cell? (s13.1.2.1.add 0) = some (Value.int .i64 x24) ∧
 w39.cell? (s13.1.2.1.add 1) = some (Value.int .i64 x25) ∧
 w39.cell? (s13.1.2.1.add 0) = some (Value.int .i64 x22) ∧
 w39.cell? (s13.1.2.1.add 1) = some (Value.int .i64 x23) ∧
 c_pool_alike x24 x25 a2 w39 fun r40 w41 =>
 w41.cell? (a29.add 0) = some (Value.int .i64 x30) ∧
 w41.cell? (a29.add 1) = some (Value.int .i64 x31) ∧
 w41.cell? (a26.add 0) = some (Value.int .i64 x27) ∧
 w41.cell? (a26.add 1) = some (Value.int .i64 x28) ∧
 w41.cell? (s13.1.2.1.add 0) = some (Value.int .i64 x22) ∧
 w41.cell? (s13.1.2.1.add 1) = some (Value.int .i64 x23) ∧
 c_pool_step x22 x23 r40 2 w41 fun r42 w43 =>
 w43.cell? (a29.add 0) = some (Value.int .i64 x30) ∧
 w43.cell? (a29.add 1) = some (Value.int .i64 x31) ∧
 w43.cell? (a26.add 0) = some (Value.int .i64 x27) ∧
 w43.cell? (a26.add 1) = some (Value.int .i64 x28) ∧
 c_pool_alike x30 x31 (IntKind.i64.wrap (a2 + 1)) w43 fun r44 w45 =>
 w45.cell? (a26.add 0) = some (Value.int .i64 x27) ∧
 w45.cell? (a26.add 1) = some (Value.int .i64 x28) ∧
 c_pool_step x27 x28 r44 2 w45 fun r46 w47 =>
 allOne [r34, r38, r42, r46] ∧
 Al w47 (.cells ⟨[r34, r38, r42, r46]⟩ 74) fun a49 w48 =>
 K ⟨(some a49), 4, 4⟩ w48) fun J50 =>
 ∃ a51 : Addr, a0 = some a51 ∧
 Ld (.int .i64) w.drew (a51.add 0) fun x52 =>
 Ld (.int .i64) w.drew (a51.add 1) fun x53 =>
 ∃ a54 : Addr, a0 = some a54 ∧
 Ld (.int .i64) w.drew (a54.add 0) fun x55 =>
 Ld (.int .i64) w.drew (a54.add 1) fun x56 =>
 (c_pool_class a2 w.drew fun r57 r58 w59 =>
 w59.cell? (a54.add 0) = some (Value.int .i64 x55) ∧
 w59.cell? (a54.add 1) = some (Value.int .i64 x56) ∧
 w59.cell? (a51.add 0) = some (Value.int .i64 x52) ∧
 w59.cell? (a51.add 1) = some (Value.int .i64 x53) ∧
 (c_pool_span_both x52 x53 r57 r58 w59 fun r60 r61 w62 =>
 w62.cell? (a54.add 0) = some (Value.int .i64 x55) ∧
 w62.cell? (a54.add 1) = some (Value.int .i64 x56) ∧
 (c_pool_other a2 w62 fun r63 r64 w65 =>
 w65.cell? (a54.add 0) = some (Value.int .i64 x55) ∧
 w65.cell? (a54.add 1) = some (Value.int .i64 x56) ∧
 (c_pool_span_both x55 x56 r63 r64 w65 fun r66 r67 w68 =>
 (Al w68 (.cells ⟨[(Value.int .i64 0), (Value.int .i64 0)]⟩ 68) fun a70 w69 =>
 w69.cell? (a54.add 0) = some (Value.int .i64 x55) ∧
 w69.cell? (a54.add 1) = some (Value.int .i64 x56) ∧
 w69.cell? (a51.add 0) = some (Value.int .i64 x52) ∧
 w69.cell? (a51.add 1) = some (Value.int .i64 x53) ∧
 Al w69 (.cells ⟨[(Value.int .i64 0), (Value.int .i64 0)]⟩ 68) fun a72 w71 =>
 w71.cell? (a54.add 0) = some (Value.int .i64 x55) ∧
 w71.cell? (a54.add 1) = some (Value.int .i64 x56) ∧
 w71.cell? (a51.add 0) = some (Value.int .i64 x52) ∧
 w71.cell? (a51.add 1) = some (Value.int .i64 x53) ∧
 StN [(Value.int .i64 r60), (Value.int .i64 r61)] w71 a70 0 fun w73 =>
 StN [(Value.int .i64 r66), (Value.int .i64 r67)] w73 a72 0 fun w74 =>
 J50 ((a70, a72, ()), w74)) ∧
 (Al w68 (.cells ⟨[(Value.int .i64 0), (Value.int .i64 0)]⟩ 68) fun a76 w75 =>
 w75.cell? (a54.add 0) = some (Value.int .i64 x55) ∧
 w75.cell? (a54.add 1) = some (Value.int .i64 x56) ∧
 w75.cell? (a51.add 0) = some (Value.int .i64 x52) ∧
 w75.cell? (a51.add 1) = some (Value.int .i64 x53) ∧
 Al w75 (.cells ⟨[(Value.int .i64 0), (Value.int .i64 0)]⟩ 68) fun a78 w77 =>
 w77.cell? (a54.add 0) = some (Value.int .i64 x55) ∧
 w77.cell? (a54.add 1) = some (Value.int .i64 x56) ∧
 w77.cell? (a51.add 0) = some (Value.int .i64 x52) ∧
 w77.cell? (a51.add 1) = some (Value.int .i64 x53) ∧
 StN [(Value.int .i64 r60), (Value.int .i64 r61)] w77 a78 0 fun w79 =>
 StN [(Value.int .i64 r66), (Value.int .i64 r67)] w79 a76 0 fun w80 =>
 J50 ((a78, a76, ()), w80))) ∧
 (Al w65 (.cells ⟨[(Value.int .i64 0), (Value.int .i64 0)]⟩ 68) fun a82 w81 =>
 w81.cell? (a54.add 0) = some (Value.int .i64 x55) ∧
 w81.cell? (a54.add 1) = some (Value.int .i64 x56) ∧
 w81.cell? (a51.add 0) = some (Value.int .i64 x52) ∧
 w81.cell? (a51.add 1) = some (Value.int .i64 x53) ∧
 (c_pool_span_both x55 x56 r63 r64 w81 fun r83 r84 w85 =>
 Al w85 (.cells ⟨[(Value.int .i64 0), (Value.int .i64 0)]⟩ 68) fun a87 w86 =>
 w86.cell? (a54.add 0) = some (Value.int .i64 x55) ∧
 w86.cell? (a54.add 1) = some (Value.int .i64 x56) ∧
 w86.cell? (a51.add 0) = some (Value.int .i64 x52) ∧
 w86.cell? (a51.add 1) = some (Value.int .i64 x53) ∧
 StN [(Value.int .i64 r60), (Value.int .i64 r61)] w86 a82 0 fun w88 =>
 StN [(Value.int .i64 r83), (Value.int .i64 r84)] w88 a87 0 fun w89 =>
 J50 ((a82, a87, ()), w89)) ∧
 (Al w81 (.cells ⟨[(Value.int .i64 0), (Value.int .i64 0)]⟩ 68) fun a91 w90 =>
 w90.cell? (a54.add 0) = some (Value.int .i64 x55) ∧
 w90.cell? (a54.add 1) = some (Value.int .i64 x56) ∧
 w90.cell? (a51.add 0) = some (Value.int .i64 x52) ∧
 w90.cell? (a51.add 1) = some (Value.int .i64 x53) ∧
 c_pool_span_both x55 x56 r63 r64 w90 fun r92 r93 w94 =>
 StN [(Value.int .i64 r60), (Value.int .i64 r61)] w94 a82 0 fun w95 =>
 StN [(Value.int .i64 r92), (Value.int .i64 r93)] w95 a91 0 fun w96 =>
 J50 ((a82, a91, ()), w96))) ∧
 (Al w65 (.cells ⟨[(Value.int .i64 0), (Value.int .i64 0)]⟩ 68) fun a98 w97 =>
 w97.cell? (a54.add 0) = some (Value.int .i64 x55) ∧
 w97.cell? (a54.add 1) = some (Value.int .i64 x56) ∧
 w97.cell? (a51.add 0) = some (Value.int .i64 x52) ∧
 w97.cell? (a51.add 1) = some (Value.int .i64 x53) ∧
 (c_pool_span_both x55 x56 r63 r64 w97 fun r99 r100 w101 =>
 Al w101 (.cells ⟨[(Value.int .i64 0), (Value.int .i64 0)]⟩ 68) fun a103 w102 =>
 w102.cell? (a54.add 0) = some (Value.int .i64 x55) ∧
 w102.cell? (a54.add 1) = some (Value.int .i64 x56) ∧
 w102.cell? (a51.add 0) = some (Value.int .i64 x52) ∧
 w102.cell? (a51.add 1) = some (Value.int .i64 x53) ∧
 StN [(Value.int .i64 r60), (Value.int .i64 r61)] w102 a103 0 fun w104 =>
 StN [(Value.int .i64 r99), (Value.int .i64 r100)] w104 a98 0 fun w105 =>
 J50 ((a103, a98, ()), w105)) ∧
 (Al w97 (.cells ⟨[(Value.int .i64 0), (Value.int .i64 0)]⟩ 68) fun a107 w106 =>
 w106.cell? (a54.add 0) = some (Value.int .i64 x55) ∧
 w106.cell? (a54.add 1) = some (Value.int .i64 x56) ∧
 w106.cell? (a51.add 0) = some (Value.int .i64 x52) ∧
 w106.cell? (a51.add 1) = some (Value.int .i64 x53) ∧
 c_pool_span_both x55 x56 r63 r64 w106 fun r108 r109 w110 =>
 StN [(Value.int .i64 r60), (Value.int .i64 r61)] w110 a107 0 fun w111 =>
 StN [(Value.int .i64 r108), (Value.int .i64 r109)] w111 a98 0 fun w112 =>
 J50 ((a107, a98, ()), w112)))) ∧
 (Al w62 (.cells ⟨[(Value.int .i64 0), (Value.int .i64 0)]⟩ 68) fun a114 w113 =>
 w113.cell? (a54.add 0) = some (Value.int .i64 x55) ∧
 w113.cell? (a54.add 1) = some (Value.int .i64 x56) ∧
 w113.cell? (a51.add 0) = some (Value.int .i64 x52) ∧
 w113.cell? (a51.add 1) = some (Value.int .i64 x53) ∧
 (c_pool_other a2 w113 fun r115 r116 w117 =>
 w117.cell? (a54.add 0) = some (Value.int .i64 x55) ∧
 w117.cell? (a54.add 1) = some (Value.int .i64 x56) ∧
 (c_pool_span_both x55 x56 r115 r116 w117 fun r118 r119 w120 =>
 Al w120 (.cells ⟨[(Value.int .i64 0), (Value.int .i64 0)]⟩ 68) fun a122 w121 =>
 w121.cell? (a54.add 0) = some (Value.int .i64 x55) ∧
 w121.cell? (a54.add 1) = some (Value.int .i64 x56) ∧
 w121.cell? (a51.add 0) = some (Value.int .i64 x52) ∧
 w121.cell? (a51.add 1) = some (Value.int .i64 x53) ∧
 StN [(Value.int .i64 r60), (Value.int .i64 r61)] w121 a114 0 fun w123 =>
 StN [(Value.int .i64 r118), (Value.int .i64 r119)] w123 a122 0 fun w124 =>
 J50 ((a114, a122, ()), w124)) ∧
 (Al w117 (.cells ⟨[(Value.int .i64 0), (Value.int .i64 0)]⟩ 68) fun a126 w125 =>
 w125.cell? (a54.add 0) = some (Value.int .i64 x55) ∧
 w125.cell? (a54.add 1) = some (Value.int .i64 x56) ∧
 w125.cell? (a51.add 0) = some (Value.int .i64 x52) ∧
 w125.cell? (a51.add 1) = some (Value.int .i64 x53) ∧
 c_pool_span_both x55 x56 r115 r116 w125 fun r127 r128 w129 =>
 StN [(Value.int .i64 r60), (Value.int .i64 r61)] w129 a114 0 fun w130 =>
 StN [(Value.int .i64 r127), (Value.int .i64 r128)] w130 a126 0 fun w131 =>
 J50 ((a114, a126, ()), w131))) ∧
 (Al w113 (.cells ⟨[(Value.int .i64 0), (Value.int .i64 0)]⟩ 68) fun a133 w132 =>
 w132.cell? (a54.add 0) = some (Value.int .i64 x55) ∧
 w132.cell? (a54.add 1) = some (Value.int .i64 x56) ∧
 w132.cell? (a51.add 0) = some (Value.int .i64 x52) ∧
 w132.cell? (a51.add 1) = some (Value.int .i64 x53) ∧
 c_pool_other a2 w132 fun r134 r135 w136 =>
 w136.cell? (a54.add 0) = some (Value.int .i64 x55) ∧
 w136.cell? (a54.add 1) = some (Value.int .i64 x56) ∧
 c_pool_span_both x55 x56 r134 r135 w136 fun r137 r138 w139 =>
 StN [(Value.int .i64 r60), (Value.int .i64 r61)] w139 a114 0 fun w140 =>
 StN [(Value.int .i64 r137), (Value.int .i64 r138)] w140 a133 0 fun w141 =>
 J50 ((a114, a133, ()), w141))) ∧
 (Al w62 (.cells ⟨[(Value.int .i64 0), (Value.int .i64 0)]⟩ 68) fun a143 w142 =>
 w142.cell? (a54.add 0) = some (Value.int .i64 x55) ∧
 w142.cell? (a54.add 1) = some (Value.int .i64 x56) ∧
 w142.cell? (a51.add 0) = some (Value.int .i64 x52) ∧
 w142.cell? (a51.add 1) = some (Value.int .i64 x53) ∧
 (c_pool_other a2 w142 fun r144 r145 w146 =>
 w146.cell? (a54.add 0) = some (Value.int .i64 x55) ∧
 w146.cell? (a54.add 1) = some (Value.int .i64 x56) ∧
 (c_pool_span_both x55 x56 r144 r145 w146 fun r147 r148 w149 =>
 Al w149 (.cells ⟨[(Value.int .i64 0), (Value.int .i64 0)]⟩ 68) fun a151 w150 =>
 w150.cell? (a54.add 0) = some (Value.int .i64 x55) ∧
 w150.cell? (a54.add 1) = some (Value.int .i64 x56) ∧
 w150.cell? (a51.add 0) = some (Value.int .i64 x52) ∧
 w150.cell? (a51.add 1) = some (Value.int .i64 x53) ∧
 StN [(Value.int .i64 r60), (Value.int .i64 r61)] w150 a151 0 fun w152 =>
 StN [(Value.int .i64 r147), (Value.int .i64 r148)] w152 a143 0 fun w153 =>
 J50 ((a151, a143, ()), w153)) ∧
 (Al w146 (.cells ⟨[(Value.int .i64 0), (Value.int .i64 0)]⟩ 68) fun a155 w154 =>
 w154.cell? (a54.add 0) = some (Value.int .i64 x55) ∧
 w154.cell? (a54.add 1) = some (Value.int .i64 x56) ∧
 w154.cell? (a51.add 0) = some (Value.int .i64 x52) ∧
 w154.cell? (a51.add 1) = some (Value.int .i64 x53) ∧
 c_pool_span_both x55 x56 r144 r145 w154 fun r156 r157 w158 =>
 StN [(Value.int .i64 r60), (Value.int .i64 r61)] w158 a155 0 fun w159 =>
 StN [(Value.int .i64 r156), (Value.int .i64 r157)] w159 a143 0 fun w160 =>
 J50 ((a155, a143, ()), w160))) ∧
 (Al w142 (.cells ⟨[(Value.int .i64 0), (Value.int .i64 0)]⟩ 68) fun a162 w161 =>
 w161.cell? (a54.add 0) = some (Value.int .i64 x55) ∧
 w161.cell? (a54.add 1) = some (Value.int .i64 x56) ∧
 w161.cell? (a51.add 0) = some (Value.int .i64 x52) ∧
 w161.cell? (a51.add 1) = some (Value.int .i64 x53) ∧
 c_pool_other a2 w161 fun r163 r164 w165 =>
 w165.cell? (a54.add 0) = some (Value.int .i64 x55) ∧
 w165.cell? (a54.add 1) = some (Value.int .i64 x56) ∧
 c_pool_span_both x55 x56 r163 r164 w165 fun r166 r167 w168 =>
 StN [(Value.int .i64 r60), (Value.int .i64 r61)] w168 a162 0 fun w169 =>
 StN [(Value.int .i64 r166), (Value.int .i64 r167)] w169 a143 0 fun w170 =>
 J50 ((a162, a143, ()), w170)))) ∧
 (Al w59 (.cells ⟨[(Value.int .i64 0), (Value.int .i64 0)]⟩ 68) fun a172 w171 =>
 w171.cell? (a54.add 0) = some (Value.int .i64 x55) ∧
 w171.cell? (a54.add 1) = some (Value.int .i64 x56) ∧
 w171.cell? (a51.add 0) = some (Value.int .i64 x52) ∧
 w171.cell? (a51.add 1) = some (Value.int .i64 x53) ∧
 (c_pool_span_both x52 x53 r57 r58 w171 fun r173 r174 w175 =>
 w175.cell? (a54.add 0) = some (Value.int .i64 x55) ∧
 w175.cell? (a54.add 1) = some (Value.int .i64 x56) ∧
 (c_pool_other a2 w175 fun r176 r177 w178 =>
 w178.cell? (a54.add 0) = some (Value.int .i64 x55) ∧
 w178.cell? (a54.add 1) = some (Value.int .i64 x56) ∧
 (c_pool_span_both x55 x56 r176 r177 w178 fun r179 r180 w181 =>
 Al w181 (.cells ⟨[(Value.int .i64 0), (Value.int .i64 0)]⟩ 68) fun a183 w182 =>
 w182.cell? (a54.add 0) = some (Value.int .i64 x55) ∧
 w182.cell? (a54.add 1) = some (Value.int .i64 x56) ∧
 w182.cell? (a51.add 0) = some (Value.int .i64 x52) ∧
 w182.cell? (a51.add 1) = some (Value.int .i64 x53) ∧
 StN [(Value.int .i64 r173), (Value.int .i64 r174)] w182 a172 0 fun w184 =>
 StN [(Value.int .i64 r179), (Value.int .i64 r180)] w184 a183 0 fun w185 =>
 J50 ((a172, a183, ()), w185)) ∧
 (Al w178 (.cells ⟨[(Value.int .i64 0), (Value.int .i64 0)]⟩ 68) fun a187 w186 =>
 w186.cell? (a54.add 0) = some (Value.int .i64 x55) ∧
 w186.cell? (a54.add 1) = some (Value.int .i64 x56) ∧
 w186.cell? (a51.add 0) = some (Value.int .i64 x52) ∧
 w186.cell? (a51.add 1) = some (Value.int .i64 x53) ∧
 c_pool_span_both x55 x56 r176 r177 w186 fun r188 r189 w190 =>
 StN [(Value.int .i64 r173), (Value.int .i64 r174)] w190 a172 0 fun w191 =>
 StN [(Value.int .i64 r188), (Value.int .i64 r189)] w191 a187 0 fun w192 =>
 J50 ((a172, a187, ()), w192))) ∧
 (Al w175 (.cells ⟨[(Value.int .i64 0), (Value.int .i64 0)]⟩ 68) fun a194 w193 =>
 w193.cell? (a54.add 0) = some (Value.int .i64 x55) ∧
 w193.cell? (a54.add 1) = some (Value.int .i64 x56) ∧
 w193.cell? (a51.add 0) = some (Value.int .i64 x52) ∧
 w193.cell? (a51.add 1) = some (Value.int .i64 x53) ∧
 c_pool_other a2 w193 fun r195 r196 w197 =>
 w197.cell? (a54.add 0) = some (Value.int .i64 x55) ∧
 w197.cell? (a54.add 1) = some (Value.int .i64 x56) ∧
 c_pool_span_both x55 x56 r195 r196 w197 fun r198 r199 w200 =>
 StN [(Value.int .i64 r173), (Value.int .i64 r174)] w200 a172 0 fun w201 =>
 StN [(Value.int .i64 r198), (Value.int .i64 r199)] w201 a194 0 fun w202 =>
 J50 ((a172, a194, ()), w202))) ∧
 (Al w171 (.cells ⟨[(Value.int .i64 0), (Value.int .i64 0)]⟩ 68) fun a204 w203 =>
 w203.cell? (a54.add 0) = some (Value.int .i64 x55) ∧
 w203.cell? (a54.add 1) = some (Value.int .i64 x56) ∧
 w203.cell? (a51.add 0) = some (Value.int .i64 x52) ∧
 w203.cell? (a51.add 1) = some (Value.int .i64 x53) ∧
 c_pool_span_both x52 x53 r57 r58 w203 fun r205 r206 w207 =>
 w207.cell? (a54.add 0) = some (Value.int .i64 x55) ∧
 w207.cell? (a54.add 1) = some (Value.int .i64 x56) ∧
 c_pool_other a2 w207 fun r208 r209 w210 =>
 w210.cell? (a54.add 0) = some (Value.int .i64 x55) ∧
 w210.cell? (a54.add 1) = some (Value.int .i64 x56) ∧
 c_pool_span_both x55 x56 r208 r209 w210 fun r211 r212 w213 =>
 StN [(Value.int .i64 r205), (Value.int .i64 r206)] w213 a172 0 fun w214 =>
 StN [(Value.int .i64 r211), (Value.int .i64 r212)] w214 a204 0 fun w215 =>
 J50 ((a172, a204, ()), w215))) ∧
 (Al w59 (.cells ⟨[(Value.int .i64 0), (Value.int .i64 0)]⟩ 68) fun a217 w216 =>
 w216.cell? (a54.add 0) = some (Value.int .i64 x55) ∧
 w216.cell? (a54.add 1) = some (Value.int .i64 x56) ∧
 w216.cell? (a51.add 0) = some (Value.int .i64 x52) ∧
 w216.cell? (a51.add 1) = some (Value.int .i64 x53) ∧
 (c_pool_span_both x52 x53 r57 r58 w216 fun r218 r219 w220 =>
 w220.cell? (a54.add 0) = some (Value.int .i64 x55) ∧
 w220.cell? (a54.add 1) = some (Value.int .i64 x56) ∧
 (c_pool_other a2 w220 fun r221 r222 w223 =>
 w223.cell? (a54.add 0) = some (Value.int .i64 x55) ∧
 w223.cell? (a54.add 1) = some (Value.int .i64 x56) ∧
 (c_pool_span_both x55 x56 r221 r222 w223 fun r224 r225 w226 =>
 Al w226 (.cells ⟨[(Value.int .i64 0), (Value.int .i64 0)]⟩ 68) fun a228 w227 =>
 w227.cell? (a54.add 0) = some (Value.int .i64 x55) ∧
 w227.cell? (a54.add 1) = some (Value.int .i64 x56) ∧
 w227.cell? (a51.add 0) = some (Value.int .i64 x52) ∧
 w227.cell? (a51.add 1) = some (Value.int .i64 x53) ∧
 StN [(Value.int .i64 r218), (Value.int .i64 r219)] w227 a228 0 fun w229 =>
 StN [(Value.int .i64 r224), (Value.int .i64 r225)] w229 a217 0 fun w230 =>
 J50 ((a228, a217, ()), w230)) ∧
 (Al w223 (.cells ⟨[(Value.int .i64 0), (Value.int .i64 0)]⟩ 68) fun a232 w231 =>
 w231.cell? (a54.add 0) = some (Value.int .i64 x55) ∧
 w231.cell? (a54.add 1) = some (Value.int .i64 x56) ∧
 w231.cell? (a51.add 0) = some (Value.int .i64 x52) ∧
 w231.cell? (a51.add 1) = some (Value.int .i64 x53) ∧
 c_pool_span_both x55 x56 r221 r222 w231 fun r233 r234 w235 =>
 StN [(Value.int .i64 r218), (Value.int .i64 r219)] w235 a232 0 fun w236 =>
 StN [(Value.int .i64 r233), (Value.int .i64 r234)] w236 a217 0 fun w237 =>
 J50 ((a232, a217, ()), w237))) ∧
 (Al w220 (.cells ⟨[(Value.int .i64 0), (Value.int .i64 0)]⟩ 68) fun a239 w238 =>
 w238.cell? (a54.add 0) = some (Value.int .i64 x55) ∧
 w238.cell? (a54.add 1) = some (Value.int .i64 x56) ∧
 w238.cell? (a51.add 0) = some (Value.int .i64 x52) ∧
 w238.cell? (a51.add 1) = some (Value.int .i64 x53) ∧
 c_pool_other a2 w238 fun r240 r241 w242 =>
 w242.cell? (a54.add 0) = some (Value.int .i64 x55) ∧
 w242.cell? (a54.add 1) = some (Value.int .i64 x56) ∧
 c_pool_span_both x55 x56 r240 r241 w242 fun r243 r244 w245 =>
 StN [(Value.int .i64 r218), (Value.int .i64 r219)] w245 a239 0 fun w246 =>
 StN [(Value.int .i64 r243), (Value.int .i64 r244)] w246 a217 0 fun w247 =>
 J50 ((a239, a217, ()), w247))) ∧
 (Al w216 (.cells ⟨[(Value.int .i64 0), (Value.int .i64 0)]⟩ 68) fun a249 w248 =>
 w248.cell? (a54.add 0) = some (Value.int .i64 x55) ∧
 w248.cell? (a54.add 1) = some (Value.int .i64 x56) ∧
 w248.cell? (a51.add 0) = some (Value.int .i64 x52) ∧
 w248.cell? (a51.add 1) = some (Value.int .i64 x53) ∧
 c_pool_span_both x52 x53 r57 r58 w248 fun r250 r251 w252 =>
 w252.cell? (a54.add 0) = some (Value.int .i64 x55) ∧
 w252.cell? (a54.add 1) = some (Value.int .i64 x56) ∧
 c_pool_other a2 w252 fun r253 r254 w255 =>
 w255.cell? (a54.add 0) = some (Value.int .i64 x55) ∧
 w255.cell? (a54.add 1) = some (Value.int .i64 x56) ∧
 c_pool_span_both x55 x56 r253 r254 w255 fun r256 r257 w258 =>
 StN [(Value.int .i64 r250), (Value.int .i64 r251)] w258 a249 0 fun w259 =>
 StN [(Value.int .i64 r256), (Value.int .i64 r257)] w259 a217 0 fun w260 =>
 J50 ((a249, a217, ()), w260)))) ∧
 (Al w.drew (.cells ⟨[(Value.int .i64 0), (Value.int .i64 0)]⟩ 68) fun a262 w261 =>
 w261.cell? (a54.add 0) = some (Value.int .i64 x55) ∧
 w261.cell? (a54.add 1) = some (Value.int .i64 x56) ∧
 w261.cell? (a51.add 0) = some (Value.int .i64 x52) ∧
 w261.cell? (a51.add 1) = some (Value.int .i64 x53) ∧
 (c_pool_class a2 w261 fun r263 r264 w265 =>
 w265.cell? (a54.add 0) = some (Value.int .i64 x55) ∧
 w265.cell? (a54.add 1) = some (Value.int .i64 x56) ∧
 w265.cell? (a51.add 0) = some (Value.int .i64 x52) ∧
 w265.cell? (a51.add 1) = some (Value.int .i64 x53) ∧
 (c_pool_span_both x52 x53 r263 r264 w265 fun r266 r267 w268 =>
 w268.cell? (a54.add 0) = some (Value.int .i64 x55) ∧
 w268.cell? (a54.add 1) = some (Value.int .i64 x56) ∧
 (c_pool_other a2 w268 fun r269 r270 w271 =>
 w271.cell? (a54.add 0) = some (Value.int .i64 x55) ∧
 w271.cell? (a54.add 1) = some (Value.int .i64 x56) ∧
 (c_pool_span_both x55 x56 r269 r270 w271 fun r272 r273 w274 =>
 Al w274 (.cells ⟨[(Value.int .i64 0), (Value.int .i64 0)]⟩ 68) fun a276 w275 =>
 w275.cell? (a54.add 0) = some (Value.int .i64 x55) ∧
 w275.cell? (a54.add 1) = some (Value.int .i64 x56) ∧
 w275.cell? (a51.add 0) = some (Value.int .i64 x52) ∧
 w275.cell? (a51.add 1) = some (Value.int .i64 x53) ∧
 StN [(Value.int .i64 r266), (Value.int .i64 r267)] w275 a262 0 fun w277 =>
 StN [(Value.int .i64 r272), (Value.int .i64 r273)] w277 a276 0 fun w278 =>
 J50 ((a262, a276, ()), w278)) ∧
 (Al w271 (.cells ⟨[(Value.int .i64 0), (Value.int .i64 0)]⟩ 68) fun a280 w279 =>
 w279.cell? (a54.add 0) = some (Value.int .i64 x55) ∧
 w279.cell? (a54.add 1) = some (Value.int .i64 x56) ∧
 w279.cell? (a51.add 0) = some (Value.int .i64 x52) ∧
 w279.cell? (a51.add 1) = some (Value.int .i64 x53) ∧
 c_pool_span_both x55 x56 r269 r270 w279 fun r281 r282 w283 =>
 StN [(Value.int .i64 r266), (Value.int .i64 r267)] w283 a262 0 fun w284 =>
 StN [(Value.int .i64 r281), (Value.int .i64 r282)] w284 a280 0 fun w285 =>
 J50 ((a262, a280, ()), w285))) ∧
 (Al w268 (.cells ⟨[(Value.int .i64 0), (Value.int .i64 0)]⟩ 68) fun a287 w286 =>
 w286.cell? (a54.add 0) = some (Value.int .i64 x55) ∧
 w286.cell? (a54.add 1) = some (Value.int .i64 x56) ∧
 w286.cell? (a51.add 0) = some (Value.int .i64 x52) ∧
 w286.cell? (a51.add 1) = some (Value.int .i64 x53) ∧
 c_pool_other a2 w286 fun r288 r289 w290 =>
 w290.cell? (a54.add 0) = some (Value.int .i64 x55) ∧
 w290.cell? (a54.add 1) = some (Value.int .i64 x56) ∧
 c_pool_span_both x55 x56 r288 r289 w290 fun r291 r292 w293 =>
 StN [(Value.int .i64 r266), (Value.int .i64 r267)] w293 a262 0 fun w294 =>
 StN [(Value.int .i64 r291), (Value.int .i64 r292)] w294 a287 0 fun w295 =>
 J50 ((a262, a287, ()), w295))) ∧
 (Al w265 (.cells ⟨[(Value.int .i64 0), (Value.int .i64 0)]⟩ 68) fun a297 w296 =>
 w296.cell? (a54.add 0) = some (Value.int .i64 x55) ∧
 w296.cell? (a54.add 1) = some (Value.int .i64 x56) ∧
 w296.cell? (a51.add 0) = some (Value.int .i64 x52) ∧
 w296.cell? (a51.add 1) = some (Value.int .i64 x53) ∧
 c_pool_span_both x52 x53 r263 r264 w296 fun r298 r299 w300 =>
 w300.cell? (a54.add 0) = some (Value.int .i64 x55) ∧
 w300.cell? (a54.add 1) = some (Value.int .i64 x56) ∧
 c_pool_other a2 w300 fun r301 r302 w303 =>
 w303.cell? (a54.add 0) = some (Value.int .i64 x55) ∧
 w303.cell? (a54.add 1) = some (Value.int .i64 x56) ∧
 c_pool_span_both x55 x56 r301 r302 w303 fun r304 r305 w306 =>
 StN [(Value.int .i64 r298), (Value.int .i64 r299)] w306 a262 0 fun w307 =>
 StN [(Value.int .i64 r304), (Value.int .i64 r305)] w307 a297 0 fun w308 =>
 J50 ((a262, a297, ()), w308))) ∧
 (Al w261 (.cells ⟨[(Value.int .i64 0), (Value.int .i64 0)]⟩ 68) fun a310 w309 =>
 w309.cell? (a54.add 0) = some (Value.int .i64 x55) ∧
 w309.cell? (a54.add 1) = some (Value.int .i64 x56) ∧
 w309.cell? (a51.add 0) = some (Value.int .i64 x52) ∧
 w309.cell? (a51.add 1) = some (Value.int .i64 x53) ∧
 c_pool_class a2 w309 fun r311 r312 w313 =>
 w313.cell? (a54.add 0) = some (Value.int .i64 x55) ∧
 w313.cell? (a54.add 1) = some (Value.int .i64 x56) ∧
 w313.cell? (a51.add 0) = some (Value.int .i64 x52) ∧
 w313.cell? (a51.add 1) = some (Value.int .i64 x53) ∧
 c_pool_span_both x52 x53 r311 r312 w313 fun r314 r315 w316 =>
 w316.cell? (a54.add 0) = some (Value.int .i64 x55) ∧
 w316.cell? (a54.add 1) = some (Value.int .i64 x56) ∧
 c_pool_other a2 w316 fun r317 r318 w319 =>
 w319.cell? (a54.add 0) = some (Value.int .i64 x55) ∧
 w319.cell? (a54.add 1) = some (Value.int .i64 x56) ∧
 c_pool_span_both x55 x56 r317 r318 w319 fun r320 r321 w322 =>
 StN [(Value.int .i64 r314), (Value.int .i64 r315)] w322 a262 0 fun w323 =>
 StN [(Value.int .i64 r320), (Value.int .i64 r321)] w323 a310 0 fun w324 =>
 J50 ((a262, a310, ()), w324))) ∧
 (Al w.drew (.cells ⟨[(Value.int .i64 0), (Value.int .i64 0)]⟩ 68) fun a326 w325 =>
 w325.cell? (a54.add 0) = some (Value.int .i64 x55) ∧
 w325.cell? (a54.add 1) = some (Value.int .i64 x56) ∧
 w325.cell? (a51.add 0) = some (Value.int .i64 x52) ∧
 w325.cell? (a51.add 1) = some (Value.int .i64 x53) ∧
 (c_pool_class a2 w325 fun r327 r328 w329 =>
 w329.cell? (a54.add 0) = some (Value.int .i64 x55) ∧
 w329.cell? (a54.add 1) = some (Value.int .i64 x56) ∧
 w329.cell? (a51.add 0) = some (Value.int .i64 x52) ∧
 w329.cell? (a51.add 1) = some (Value.int .i64 x53) ∧
 (c_pool_span_both x52 x53 r327 r328 w329 fun r330 r331 w332 =>
 w332.cell? (a54.add 0) = some (Value.int .i64 x55) ∧
 w332.cell? (a54.add 1) = some (Value.int .i64 x56) ∧
 (c_pool_other a2 w332 fun r333 r334 w335 =>
 w335.cell? (a54.add 0) = some (Value.int .i64 x55) ∧
 w335.cell? (a54.add 1) = some (Value.int .i64 x56) ∧
 (c_pool_span_both x55 x56 r333 r334 w335 fun r336 r337 w338 =>
 Al w338 (.cells ⟨[(Value.int .i64 0), (Value.int .i64 0)]⟩ 68) fun a340 w339 =>
 w339.cell? (a54.add 0) = some (Value.int .i64 x55) ∧
 w339.cell? (a54.add 1) = some (Value.int .i64 x56) ∧
 w339.cell? (a51.add 0) = some (Value.int .i64 x52) ∧
 w339.cell? (a51.add 1) = some (Value.int .i64 x53) ∧
 StN [(Value.int .i64 r330), (Value.int .i64 r331)] w339 a340 0 fun w341 =>
 StN [(Value.int .i64 r336), (Value.int .i64 r337)] w341 a326 0 fun w342 =>
 J50 ((a340, a326, ()), w342)) ∧
 (Al w335 (.cells ⟨[(Value.int .i64 0), (Value.int .i64 0)]⟩ 68) fun a344 w343 =>
 w343.cell? (a54.add 0) = some (Value.int .i64 x55) ∧
 w343.cell? (a54.add 1) = some (Value.int .i64 x56) ∧
 w343.cell? (a51.add 0) = some (Value.int .i64 x52) ∧
 w343.cell? (a51.add 1) = some (Value.int .i64 x53) ∧
 c_pool_span_both x55 x56 r333 r334 w343 fun r345 r346 w347 =>
 StN [(Value.int .i64 r330), (Value.int .i64 r331)] w347 a344 0 fun w348 =>
 StN [(Value.int .i64 r345), (Value.int .i64 r346)] w348 a326 0 fun w349 =>
 J50 ((a344, a326, ()), w349))) ∧
 (Al w332 (.cells ⟨[(Value.int .i64 0), (Value.int .i64 0)]⟩ 68) fun a351 w350 =>
 w350.cell? (a54.add 0) = some (Value.int .i64 x55) ∧
 w350.cell? (a54.add 1) = some (Value.int .i64 x56) ∧
 w350.cell? (a51.add 0) = some (Value.int .i64 x52) ∧
 w350.cell? (a51.add 1) = some (Value.int .i64 x53) ∧
 c_pool_other a2 w350 fun r352 r353 w354 =>
 w354.cell? (a54.add 0) = some (Value.int .i64 x55) ∧
 w354.cell? (a54.add 1) = some (Value.int .i64 x56) ∧
 c_pool_span_both x55 x56 r352 r353 w354 fun r355 r356 w357 =>
 StN [(Value.int .i64 r330), (Value.int .i64 r331)] w357 a351 0 fun w358 =>
 StN [(Value.int .i64 r355), (Value.int .i64 r356)] w358 a326 0 fun w359 =>
 J50 ((a351, a326, ()), w359))) ∧
 (Al w329 (.cells ⟨[(Value.int .i64 0), (Value.int .i64 0)]⟩ 68) fun a361 w360 =>
 w360.cell? (a54.add 0) = some (Value.int .i64 x55) ∧
 w360.cell? (a54.add 1) = some (Value.int .i64 x56) ∧
 w360.cell? (a51.add 0) = some (Value.int .i64 x52) ∧
 w360.cell? (a51.add 1) = some (Value.int .i64 x53) ∧
 c_pool_span_both x52 x53 r327 r328 w360 fun r362 r363 w364 =>
 w364.cell? (a54.add 0) = some (Value.int .i64 x55) ∧
 w364.cell? (a54.add 1) = some (Value.int .i64 x56) ∧
 c_pool_other a2 w364 fun r365 r366 w367 =>
 w367.cell? (a54.add 0) = some (Value.int .i64 x55) ∧
 w367.cell? (a54.add 1) = some (Value.int .i64 x56) ∧
 c_pool_span_both x55 x56 r365 r366 w367 fun r368 r369 w370 =>
 StN [(Value.int .i64 r362), (Value.int .i64 r363)] w370 a361 0 fun w371 =>
 StN [(Value.int .i64 r368), (Value.int .i64 r369)] w371 a326 0 fun w372 =>
 J50 ((a361, a326, ()), w372))) ∧
 (Al w325 (.cells ⟨[(Value.int .i64 0), (Value.int .i64 0)]⟩ 68) fun a374 w373 =>
 w373.cell? (a54.add 0) = some (Value.int .i64 x55) ∧
 w373.cell? (a54.add 1) = some (Value.int .i64 x56) ∧
 w373.cell? (a51.add 0) = some (Value.int .i64 x52) ∧
 w373.cell? (a51.add 1) = some (Value.int .i64 x53) ∧
 c_pool_class a2 w373 fun r375 r376 w377 =>
 w377.cell? (a54.add 0) = some (Value.int .i64 x55) ∧
 w377.cell? (a54.add 1) = some (Value.int .i64 x56) ∧
 w377.cell? (a51.add 0) = some (Value.int .i64 x52) ∧
 w377.cell? (a51.add 1) = some (Value.int .i64 x53) ∧
 c_pool_span_both x52 x53 r375 r376 w377 fun r378 r379 w380 =>
 w380.cell? (a54.add 0) = some (Value.int .i64 x55) ∧
 w380.cell? (a54.add 1) = some (Value.int .i64 x56) ∧
 c_pool_other a2 w380 fun r381 r382 w383 =>
 w383.cell? (a54.add 0) = some (Value.int .i64 x55) ∧
 w383.cell? (a54.add 1) = some (Value.int .i64 x56) ∧
 c_pool_span_both x55 x56 r381 r382 w383 fun r384 r385 w386 =>
 StN [(Value.int .i64 r378), (Value.int .i64 r379)] w386 a374 0 fun w387 =>
 StN [(Value.int .i64 r384), (Value.int .i64 r385)] w387 a326 0 fun w388 =>
 J50 ((a374, a326, ()), w388)))))
theorem e_pool_Pool_rows (a0 : Option Addr) (a1 : Int) (a2 : Int) (w : World) (K : SliceV → World → Prop) : den Try.prog 67 (bodyOf Try.f67) none (.seq .leaf (.seq (.seq .leaf (.cond (.seq .leaf .leaf) .leaf)) (.join [(7, .addr), (8, .addr)] .leaf (.seq .leaf .leaf)))) (argEnv 0 [(Value.pointer a0), (Value.int .i64 a1), (Value.int .i64 a2)]) [] w (retK Try.prog [.tmp 6] [.one .slice] K) = s_pool_Pool_rows a0 a1 a2 w K := by kernel_rfl
theorem ok_pool_Pool_rows {a0 a1 a2 w K} (h : s_pool_Pool_rows a0 a1 a2 w K) : c_pool_Pool_rows a0 a1 a2 w K :=
  fn_sound pok Try.func67 (fn := Try.f67) (c := bodyOf Try.f67) (nt := 67) (by kernel_rfl) (by kernel_rfl) (rs := [.tmp 6]) (by kernel_rfl) [.one .slice] K (.seq .leaf (.seq (.seq .leaf (.cond (.seq .leaf .leaf) .leaf)) (.join [(7, .addr), (8, .addr)] .leaf (.seq .leaf .leaf)))) [(Value.pointer a0), (Value.int .i64 a1), (Value.int .i64 a2)] (by kernel_rfl) w ((e_pool_Pool_rows a0 a1 a2 w K).mpr h)

/-- (goosepond/four.block).has -/
def s_four_block_has (a0_0 : Int) (a0_1 : Int) (a1 : Int) (w : World) (K : Bool → World → Prop) : Prop :=
 (Al w (.cells ⟨[(Value.int .i64 a0_0), (Value.int .i64 a0_1)]⟩ 106) fun a4 w3 =>
 Ld (.int .i64) w3 (a4.add 1) fun x5 =>
 let J6 : Bool → World → Prop := fun j7 w8 =>
 (K j7 w8)
 c_four_Right a1 w3.drew fun r9 w10 =>
 (bif r9 then
 0 ≤ (IntKind.i64.wrap (32 - x5)) ∧
 Ld (.int .i64) w10 a4 fun x11 =>
 0 ≤ (IntKind.i64.wrap (32 - x5)) ∧
 J6 ((shrI .i64 a1 (IntKind.i64.wrap (32 - x5))) == (shrI .i64 x11 (IntKind.i64.wrap (32 - x5)))) w10
 else
 J6 false w10))
theorem e_four_block_has (a0_0 : Int) (a0_1 : Int) (a1 : Int) (w : World) (K : Bool → World → Prop) : den Try.prog 21 (bodyOf Try.f98) none (.seq .leaf (.seq .leaf (.seq .leaf .leaf))) (argEnv 0 [(Value.agg ⟨[(Value.int .i64 a0_0), (Value.int .i64 a0_1)]⟩), (Value.int .i64 a1)]) [] w (retK Try.prog [.tmp 4] [.one .bool] K) = s_four_block_has a0_0 a0_1 a1 w K := by kernel_rfl
theorem ok_four_block_has {a0_0 a0_1 a1 w K} (h : s_four_block_has a0_0 a0_1 a1 w K) : c_four_block_has a0_0 a0_1 a1 w K :=
  fn_sound pok Try.func98 (fn := Try.f98) (c := bodyOf Try.f98) (nt := 21) (by kernel_rfl) (by kernel_rfl) (rs := [.tmp 4]) (by kernel_rfl) [.one .bool] K (.seq .leaf (.seq .leaf (.seq .leaf .leaf))) [(Value.agg ⟨[(Value.int .i64 a0_0), (Value.int .i64 a0_1)]⟩), (Value.int .i64 a1)] (by kernel_rfl) w ((e_four_block_has a0_0 a0_1 a1 w K).mpr h)

/-- goosepond/pool.step -/
def s_pool_step (a0_0 : Int) (a0_1 : Int) (a1 : Int) (a2 : Int) (w : World) (K : Value → World → Prop) : Prop :=
 (Al w (.cells ⟨[(Value.int .i64 a0_0), (Value.int .i64 a0_1)]⟩ 68) fun a5 w4 =>
 isOne (Value.int .i64 a1) = true ∧
 Al w4 (.cells ⟨[(Value.int .i64 a1)]⟩ 3) fun a7 w6 =>
 isOne (Value.int .i64 a2) = true ∧
 Al w6 (.cells ⟨[(Value.int .i64 a2)]⟩ 3) fun a9 w8 =>
 K (Value.func (.func 113) #[] #[(Value.pointer (some a7)), (Value.pointer (some a5)), (Value.pointer (some a9))]) w8)
theorem e_pool_step (a0_0 : Int) (a0_1 : Int) (a1 : Int) (a2 : Int) (w : World) (K : Value → World → Prop) : den Try.prog 8 (bodyOf Try.f99) none (.seq .leaf (.seq .leaf .leaf)) (argEnv 0 [(Value.agg ⟨[(Value.int .i64 a0_0), (Value.int .i64 a0_1)]⟩), (Value.int .i64 a1), (Value.int .i64 a2)]) [] w (retK Try.prog [.tmp 6] [.one .any] K) = s_pool_step a0_0 a0_1 a1 a2 w K := by kernel_rfl
theorem ok_pool_step {a0_0 a0_1 a1 a2 w K} (h : s_pool_step a0_0 a0_1 a1 a2 w K) : c_pool_step a0_0 a0_1 a1 a2 w K :=
  fn_sound pok Try.func99 (fn := Try.f99) (c := bodyOf Try.f99) (nt := 8) (by kernel_rfl) (by kernel_rfl) (rs := [.tmp 6]) (by kernel_rfl) [.one .any] K (.seq .leaf (.seq .leaf .leaf)) [(Value.agg ⟨[(Value.int .i64 a0_0), (Value.int .i64 a0_1)]⟩), (Value.int .i64 a1), (Value.int .i64 a2)] (by kernel_rfl) w ((e_pool_step a0_0 a0_1 a1 a2 w K).mpr h)

/-- (goosepond/pool.span).both -/
def s_pool_span_both (a0_0 : Int) (a0_1 : Int) (a1_0 : Int) (a1_1 : Int) (w : World) (K : Int → Int → World → Prop) : Prop :=
 (Al w (.cells ⟨[(Value.int .i64 a0_0), (Value.int .i64 a0_1)]⟩ 68) fun a4 w3 =>
 Al w3 (.cells ⟨[(Value.int .i64 a1_0), (Value.int .i64 a1_1)]⟩ 68) fun a6 w5 =>
 Al w5 (.cells ⟨[(Value.int .i64 0), (Value.int .i64 0)]⟩ 68) fun a8 w7 =>
 Ld (.int .i64) w7 a4 fun x9 =>
 Ld (.int .i64) w7 a6 fun x10 =>
 Ld (.int .i64) w7 (a4.add 1) fun x11 =>
 Ld (.int .i64) w7 (a6.add 1) fun x12 =>
 StN [(Value.int .i64 (if x10 > x9 then x10 else x9)), (Value.int .i64 (if x12 < x11 then x12 else x11))] w7 a8 0 fun w13 =>
 Ld (.int .i64) w13 (a8.add 0) fun y14 =>
 Ld (.int .i64) w13 (a8.add 1) fun y15 =>
 K y14 y15 w13)
theorem e_pool_span_both (a0_0 : Int) (a0_1 : Int) (a1_0 : Int) (a1_1 : Int) (w : World) (K : Int → Int → World → Prop) : den Try.prog 16 (bodyOf Try.f100) none (.seq .leaf (.seq .leaf .leaf)) (argEnv 0 [(Value.agg ⟨[(Value.int .i64 a0_0), (Value.int .i64 a0_1)]⟩), (Value.agg ⟨[(Value.int .i64 a1_0), (Value.int .i64 a1_1)]⟩)]) [] w (retK Try.prog [.cell 4 68] [.agg [(.int .i64), (.int .i64)]] K) = s_pool_span_both a0_0 a0_1 a1_0 a1_1 w K := by kernel_rfl
theorem ok_pool_span_both {a0_0 a0_1 a1_0 a1_1 w K} (h : s_pool_span_both a0_0 a0_1 a1_0 a1_1 w K) : c_pool_span_both a0_0 a0_1 a1_0 a1_1 w K :=
  fn_sound pok Try.func100 (fn := Try.f100) (c := bodyOf Try.f100) (nt := 16) (by kernel_rfl) (by kernel_rfl) (rs := [.cell 4 68]) (by kernel_rfl) [.agg [(.int .i64), (.int .i64)]] K (.seq .leaf (.seq .leaf .leaf)) [(Value.agg ⟨[(Value.int .i64 a0_0), (Value.int .i64 a0_1)]⟩), (Value.agg ⟨[(Value.int .i64 a1_0), (Value.int .i64 a1_1)]⟩)] (by kernel_rfl) w ((e_pool_span_both a0_0 a0_1 a1_0 a1_1 w K).mpr h)

/-- goosepond/pool.class -/
def s_pool_class (a0 : Int) (w : World) (K : Int → Int → World → Prop) : Prop :=
 (Al w (.cells ⟨[(Value.int .i64 0), (Value.int .i64 0)]⟩ 68) fun a3 w2 =>
 (bif (decide (a0 < 1024)) then
 StN [(Value.int .i64 0), (Value.int .i64 1023)] w2 a3 0 fun w4 =>
 Ld (.int .i64) w4 (a3.add 0) fun y5 =>
 Ld (.int .i64) w4 (a3.add 1) fun y6 =>
 K y5 y6 w4
 else
 StN [(Value.int .i64 1024), (Value.int .i64 65535)] w2 a3 0 fun w7 =>
 Ld (.int .i64) w7 (a3.add 0) fun y8 =>
 Ld (.int .i64) w7 (a3.add 1) fun y9 =>
 K y8 y9 w7))
theorem e_pool_class (a0 : Int) (w : World) (K : Int → Int → World → Prop) : den Try.prog 7 (bodyOf Try.f101) none (.seq .leaf (.seq (.seq .leaf (.cond (.seq .leaf .leaf) .leaf)) (.seq .leaf .leaf))) (argEnv 0 [(Value.int .i64 a0)]) [] w (retK Try.prog [.cell 2 68] [.agg [(.int .i64), (.int .i64)]] K) = s_pool_class a0 w K := by kernel_rfl
theorem ok_pool_class {a0 w K} (h : s_pool_class a0 w K) : c_pool_class a0 w K :=
  fn_sound pok Try.func101 (fn := Try.f101) (c := bodyOf Try.f101) (nt := 7) (by kernel_rfl) (by kernel_rfl) (rs := [.cell 2 68]) (by kernel_rfl) [.agg [(.int .i64), (.int .i64)]] K (.seq .leaf (.seq (.seq .leaf (.cond (.seq .leaf .leaf) .leaf)) (.seq .leaf .leaf))) [(Value.int .i64 a0)] (by kernel_rfl) w ((e_pool_class a0 w K).mpr h)

/-- goosepond/pool.other -/
def s_pool_other (a0 : Int) (w : World) (K : Int → Int → World → Prop) : Prop :=
 (Al w (.cells ⟨[(Value.int .i64 0), (Value.int .i64 0)]⟩ 68) fun a3 w2 =>
 (bif (decide (a0 < 1024)) then
 c_pool_class 1024 w2 fun r4 r5 w6 =>
 StN [(Value.int .i64 r4), (Value.int .i64 r5)] w6 a3 0 fun w7 =>
 Ld (.int .i64) w7 (a3.add 0) fun y8 =>
 Ld (.int .i64) w7 (a3.add 1) fun y9 =>
 K y8 y9 w7
 else
 c_pool_class 0 w2 fun r10 r11 w12 =>
 StN [(Value.int .i64 r10), (Value.int .i64 r11)] w12 a3 0 fun w13 =>
 Ld (.int .i64) w13 (a3.add 0) fun y14 =>
 Ld (.int .i64) w13 (a3.add 1) fun y15 =>
 K y14 y15 w13))
theorem e_pool_other (a0 : Int) (w : World) (K : Int → Int → World → Prop) : den Try.prog 7 (bodyOf Try.f102) none (.seq .leaf (.seq (.seq .leaf (.cond (.seq .leaf .leaf) .leaf)) (.seq .leaf .leaf))) (argEnv 0 [(Value.int .i64 a0)]) [] w (retK Try.prog [.cell 2 68] [.agg [(.int .i64), (.int .i64)]] K) = s_pool_other a0 w K := by kernel_rfl
theorem ok_pool_other {a0 w K} (h : s_pool_other a0 w K) : c_pool_other a0 w K :=
  fn_sound pok Try.func102 (fn := Try.f102) (c := bodyOf Try.f102) (nt := 7) (by kernel_rfl) (by kernel_rfl) (rs := [.cell 2 68]) (by kernel_rfl) [.agg [(.int .i64), (.int .i64)]] K (.seq .leaf (.seq (.seq .leaf (.cond (.seq .leaf .leaf) .leaf)) (.seq .leaf .leaf))) [(Value.int .i64 a0)] (by kernel_rfl) w ((e_pool_other a0 w K).mpr h)

/-- goosepond/pool.alike -/
def s_pool_alike (a0_0 : Int) (a0_1 : Int) (a1 : Int) (w : World) (K : Int → World → Prop) : Prop :=
 (Al w (.cells ⟨[(Value.int .i64 a0_0), (Value.int .i64 a0_1)]⟩ 68) fun a4 w3 =>
 Ld (.int .i64) w3 a4 fun x5 =>
 Ld (.int .i64) w3 a4 fun x6 =>
 K (IntKind.i64.wrap (x5 + (andI .i64 (xorI .i64 x6 a1) 1))) w3)
theorem e_pool_alike (a0_0 : Int) (a0_1 : Int) (a1 : Int) (w : World) (K : Int → World → Prop) : den Try.prog 13 (bodyOf Try.f103) none (.seq .leaf (.seq .leaf .leaf)) (argEnv 0 [(Value.agg ⟨[(Value.int .i64 a0_0), (Value.int .i64 a0_1)]⟩), (Value.int .i64 a1)]) [] w (retK Try.prog [.tmp 4] [.one (.int .i64)] K) = s_pool_alike a0_0 a0_1 a1 w K := by kernel_rfl
theorem ok_pool_alike {a0_0 a0_1 a1 w K} (h : s_pool_alike a0_0 a0_1 a1 w K) : c_pool_alike a0_0 a0_1 a1 w K :=
  fn_sound pok Try.func103 (fn := Try.f103) (c := bodyOf Try.f103) (nt := 13) (by kernel_rfl) (by kernel_rfl) (rs := [.tmp 4]) (by kernel_rfl) [.one (.int .i64)] K (.seq .leaf (.seq .leaf .leaf)) [(Value.agg ⟨[(Value.int .i64 a0_0), (Value.int .i64 a0_1)]⟩), (Value.int .i64 a1)] (by kernel_rfl) w ((e_pool_alike a0_0 a0_1 a1 w K).mpr h)

/-- goosepond/pool.step$1 -/
def s_pool_step_1 (a0 : Value) (f0 : Addr) (f1 : Addr) (f2 : Addr) (w : World) (K : World → Prop) : Prop :=
 (Ld (.int .i64) w f0 fun x2 =>
 LoopP (S := Int × Unit) (fun s3 w4 next5 =>
 Ld (.int .i64) w4 (f1.add 1) fun x6 =>
 (bif (decide (s3.1 ≤ x6)) then
 CallV Try.prog [.one .bool] a0 [(Value.int .i64 s3.1)] w4 fun r7 w8 =>
 ∃ r9 : Bool, r7 = (Value.bool r9) ∧
 (bif (!r9) then
 K w8
 else
 Ld (.int .i64) w8 f2 fun x10 =>
 next5 ((IntKind.i64.wrap (s3.1 + x10)), ()) w8)
 else
 K w4)) (x2, ()) w)
theorem e_pool_step_1 (a0 : Value) (f0 : Addr) (f1 : Addr) (f2 : Addr) (w : World) (K : World → Prop) : den Try.prog 18 (bodyOf Try.f113) none (.seq .leaf (.blk (.loop [(5, (.int .i64))] (.seq (.seq .leaf (.cond .leaf .leaf)) (.seq (.blk (.seq .leaf (.cond .leaf .leaf))) .leaf))))) (argEnv 0 [a0, (Value.pointer (some f0)), (Value.pointer (some f1)), (Value.pointer (some f2))]) [] w (retK Try.prog [] [] K) = s_pool_step_1 a0 f0 f1 f2 w K := by kernel_rfl
theorem ok_pool_step_1 {a0 f0 f1 f2 w K} (h : s_pool_step_1 a0 f0 f1 f2 w K) : c_pool_step_1 a0 f0 f1 f2 w K :=
  fn_sound pok Try.func113 (fn := Try.f113) (c := bodyOf Try.f113) (nt := 18) (by kernel_rfl) (by kernel_rfl) (rs := []) (by kernel_rfl) [] K (.seq .leaf (.blk (.loop [(5, (.int .i64))] (.seq (.seq .leaf (.cond .leaf .leaf)) (.seq (.blk (.seq .leaf (.cond .leaf .leaf))) .leaf))))) [a0, (Value.pointer (some f0)), (Value.pointer (some f1)), (Value.pointer (some f2))] (by kernel_rfl) w ((e_pool_step_1 a0 f0 f1 f2 w K).mpr h)

end Go.Proofs
