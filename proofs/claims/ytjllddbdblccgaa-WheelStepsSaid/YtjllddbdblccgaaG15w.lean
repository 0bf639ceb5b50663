import Derived.Test.YtjllddbdblccgaaFn
import Derived.Test.YtjllddbdblccgaaProg
import Derived.KernelRfl
namespace Go.Proofs
open Gp
set_option maxRecDepth 100000
set_option maxHeartbeats 4000000
theorem pok : POk Try.prog := POk.of_all (by kernel_rfl) (by kernel_rfl)

/-- goosepond/goosepondlaw17.WheelOnce -/
abbrev n_law17_WheelOnce : FuncId := 7
def c_law17_WheelOnce (a0 : Int) (a1 : SliceV) (w : World) (K : Bool → World → Prop) : Prop :=
  Calls Try.prog 7 ⟨[(Value.int .u32 a0), (Value.slice a1.a a1.len a1.cap)]⟩ w fun e w' => ∃ y38 : Bool, e = .returned (Value.bool y38) ∧ K y38 w'
theorem cm_law17_WheelOnce {a0 a1 w K K'} (h : c_law17_WheelOnce a0 a1 w K) (hk : ∀ x0 w', K x0 w' → K' x0 w') : c_law17_WheelOnce a0 a1 w K' :=
  Calls.mono h fun e w' hh => by obtain ⟨x0, he, hx⟩ := hh; exact ⟨x0, he, hk _ _ hx⟩

/-- goosepond/goosepondlaw17.WheelSteps -/
abbrev n_law17_WheelSteps : FuncId := 8
def c_law17_WheelSteps (a0 : SliceV) (a1 : Int) (w : World) (K : Bool → World → Prop) : Prop :=
  Calls Try.prog 8 ⟨[(Value.slice a0.a a0.len a0.cap), (Value.int .u8 a1)]⟩ w fun e w' => ∃ y44 : Bool, e = .returned (Value.bool y44) ∧ K y44 w'
theorem cm_law17_WheelSteps {a0 a1 w K K'} (h : c_law17_WheelSteps a0 a1 w K) (hk : ∀ x0 w', K x0 w' → K' x0 w') : c_law17_WheelSteps a0 a1 w K' :=
  Calls.mono h fun e w' hh => by obtain ⟨x0, he, hx⟩ := hh; exact ⟨x0, he, hk _ _ hx⟩

/-- goosepond/goosepondlaw17.awake -/
abbrev n_law17_awake : FuncId := 27
def c_law17_awake  (w : World) (K : Bool → World → Prop) : Prop :=
  Calls Try.prog 27 ⟨[]⟩ w fun e w' => ∃ y22 : Bool, e = .returned (Value.bool y22) ∧ K y22 w'
theorem cm_law17_awake { w K K'} (h : c_law17_awake  w K) (hk : ∀ x0 w', K x0 w' → K' x0 w') : c_law17_awake  w K' :=
  Calls.mono h fun e w' hh => by obtain ⟨x0, he, hx⟩ := hh; exact ⟨x0, he, hk _ _ hx⟩

/-- goosepond/wheel.New -/
abbrev n_wheel_New : FuncId := 28
def c_wheel_New (a0 : Int) (w : World) (K : (Option Addr) → Int → World → Prop) : Prop :=
  Calls Try.prog 28 ⟨[(Value.int .i64 a0)]⟩ w fun e w' => ∃ y8 : Option Addr, ∃ y9 : Int, e = .returned (Value.tuple ⟨[(Value.pointer y8), (Value.int .i64 y9)]⟩) ∧ K y8 y9 w'
theorem cm_wheel_New {a0 w K K'} (h : c_wheel_New a0 w K) (hk : ∀ x0 x1 w', K x0 x1 w' → K' x0 x1 w') : c_wheel_New a0 w K' :=
  Calls.mono h fun e w' hh => by obtain ⟨x0, x1, he, hx⟩ := hh; exact ⟨x0, x1, he, hk _ _ _ hx⟩

/-- (*goosepond/wheel.Wheel).Arm -/
abbrev n_wheel_Wheel_Arm : FuncId := 29
def c_wheel_Wheel_Arm (a0 : Option Addr) (a1 : Int) (a2 : Int) (w : World) (K : Int → World → Prop) : Prop :=
  Calls Try.prog 29 ⟨[(Value.pointer a0), (Value.int .i64 a1), (Value.int .i64 a2)]⟩ w fun e w' => ∃ y53 : Int, e = .returned (Value.int .i64 y53) ∧ K y53 w'
theorem cm_wheel_Wheel_Arm {a0 a1 a2 w K K'} (h : c_wheel_Wheel_Arm a0 a1 a2 w K) (hk : ∀ x0 w', K x0 w' → K' x0 w') : c_wheel_Wheel_Arm a0 a1 a2 w K' :=
  Calls.mono h fun e w' hh => by obtain ⟨x0, he, hx⟩ := hh; exact ⟨x0, he, hk _ _ hx⟩

/-- (*goosepond/wheel.Wheel).Advance -/
abbrev n_wheel_Wheel_Advance : FuncId := 30
def c_wheel_Wheel_Advance (a0 : Option Addr) (a1 : Int) (w : World) (K : SliceV → World → Prop) : Prop :=
  Calls Try.prog 30 ⟨[(Value.pointer a0), (Value.int .i64 a1)]⟩ w fun e w' => ∃ y21 : SliceV, e = .returned (Value.slice y21.a y21.len y21.cap) ∧ K y21 w'
theorem cm_wheel_Wheel_Advance {a0 a1 w K K'} (h : c_wheel_Wheel_Advance a0 a1 w K) (hk : ∀ x0 w', K x0 w' → K' x0 w') : c_wheel_Wheel_Advance a0 a1 w K' :=
  Calls.mono h fun e w' hh => by obtain ⟨x0, he, hx⟩ := hh; exact ⟨x0, he, hk _ _ hx⟩

/-- slices.Equal[[]int,int] -/
abbrev n_slices_Equal_int_int : FuncId := 31
def c_slices_Equal_int_int (a0 : SliceV) (a1 : SliceV) (w : World) (K : Bool → World → Prop) : Prop :=
  Calls Try.prog 31 ⟨[(Value.slice a0.a a0.len a0.cap), (Value.slice a1.a a1.len a1.cap)]⟩ w fun e w' => ∃ y10 : Bool, e = .returned (Value.bool y10) ∧ K y10 w'
theorem cm_slices_Equal_int_int {a0 a1 w K K'} (h : c_slices_Equal_int_int a0 a1 w K) (hk : ∀ x0 w', K x0 w' → K' x0 w') : c_slices_Equal_int_int a0 a1 w K' :=
  Calls.mono h fun e w' hh => by obtain ⟨x0, he, hx⟩ := hh; exact ⟨x0, he, hk _ _ hx⟩

/-- (*goosepond/wheel.Wheel).Len -/
abbrev n_wheel_Wheel_Len : FuncId := 62
def c_wheel_Wheel_Len (a0 : Option Addr) (w : World) (K : Int → World → Prop) : Prop :=
  Calls Try.prog 62 ⟨[(Value.pointer a0)]⟩ w fun e w' => ∃ y7 : Int, e = .returned (Value.int .i64 y7) ∧ K y7 w'
theorem cm_wheel_Wheel_Len {a0 w K K'} (h : c_wheel_Wheel_Len a0 w K) (hk : ∀ x0 w', K x0 w' → K' x0 w') : c_wheel_Wheel_Len a0 w K' :=
  Calls.mono h fun e w' hh => by obtain ⟨x0, he, hx⟩ := hh; exact ⟨x0, he, hk _ _ hx⟩

/-- (*goosepond/wheel.Wheel).ready -/
abbrev n_wheel_Wheel_ready : FuncId := 63
def c_wheel_Wheel_ready (a0 : Option Addr) (w : World) (K : Bool → World → Prop) : Prop :=
  Calls Try.prog 63 ⟨[(Value.pointer a0)]⟩ w fun e w' => ∃ y6 : Bool, e = .returned (Value.bool y6) ∧ K y6 w'
theorem cm_wheel_Wheel_ready {a0 w K K'} (h : c_wheel_Wheel_ready a0 w K) (hk : ∀ x0 w', K x0 w' → K' x0 w') : c_wheel_Wheel_ready a0 w K' :=
  Calls.mono h fun e w' hh => by obtain ⟨x0, he, hx⟩ := hh; exact ⟨x0, he, hk _ _ hx⟩

/-- (*goosepond/wheel.Wheel).take -/
abbrev n_wheel_Wheel_take : FuncId := 64
def c_wheel_Wheel_take (a0 : Option Addr) (a1_0 : Int) (a1_1 : Int) (a1_2 : Int) (w : World) (K : World → Prop) : Prop :=
  Calls Try.prog 64 ⟨[(Value.pointer a0), (Value.agg ⟨[(Value.int .i64 a1_0), (Value.int .i64 a1_1), (Value.int .i64 a1_2)]⟩)]⟩ w fun e w' => e = .returned (Value.tuple ⟨[]⟩) ∧ K w'
theorem cm_wheel_Wheel_take {a0 a1_0 a1_1 a1_2 w K K'} (h : c_wheel_Wheel_take a0 a1_0 a1_1 a1_2 w K) (hk : ∀  w', K  w' → K'  w') : c_wheel_Wheel_take a0 a1_0 a1_1 a1_2 w K' :=
  Calls.mono h fun e w' hh => by obtain ⟨he, hx⟩ := hh; exact ⟨he, hk  _ hx⟩

/-- (*goosepond/wheel.Wheel).put -/
abbrev n_wheel_Wheel_put : FuncId := 65
def c_wheel_Wheel_put (a0 : Option Addr) (a1_0 : Int) (a1_1 : Int) (a1_2 : Int) (w : World) (K : World → Prop) : Prop :=
  Calls Try.prog 65 ⟨[(Value.pointer a0), (Value.agg ⟨[(Value.int .i64 a1_0), (Value.int .i64 a1_1), (Value.int .i64 a1_2)]⟩)]⟩ w fun e w' => e = .returned (Value.tuple ⟨[]⟩) ∧ K w'
theorem cm_wheel_Wheel_put {a0 a1_0 a1_1 a1_2 w K K'} (h : c_wheel_Wheel_put a0 a1_0 a1_1 a1_2 w K) (hk : ∀  w', K  w' → K'  w') : c_wheel_Wheel_put a0 a1_0 a1_1 a1_2 w K' :=
  Calls.mono h fun e w' hh => by obtain ⟨he, hx⟩ := hh; exact ⟨he, hk  _ hx⟩

/-- (*goosepond/wheel.Wheel).next -/
abbrev n_wheel_Wheel_next : FuncId := 66
def c_wheel_Wheel_next (a0 : Option Addr) (w : World) (K : Int → Bool → World → Prop) : Prop :=
  Calls Try.prog 66 ⟨[(Value.pointer a0)]⟩ w fun e w' => ∃ y16 : Int, ∃ y17 : Bool, e = .returned (Value.tuple ⟨[(Value.int .i64 y16), (Value.bool y17)]⟩) ∧ K y16 y17 w'
theorem cm_wheel_Wheel_next {a0 w K K'} (h : c_wheel_Wheel_next a0 w K) (hk : ∀ x0 x1 w', K x0 x1 w' → K' x0 x1 w') : c_wheel_Wheel_next a0 w K' :=
  Calls.mono h fun e w' hh => by obtain ⟨x0, x1, he, hx⟩ := hh; exact ⟨x0, x1, he, hk _ _ _ hx⟩

/-- (*goosepond/wheel.Wheel).turnTo -/
abbrev n_wheel_Wheel_turnTo : FuncId := 67
def c_wheel_Wheel_turnTo (a0 : Option Addr) (a1 : Int) (w : World) (K : World → Prop) : Prop :=
  Calls Try.prog 67 ⟨[(Value.pointer a0), (Value.int .i64 a1)]⟩ w fun e w' => e = .returned (Value.tuple ⟨[]⟩) ∧ K w'
theorem cm_wheel_Wheel_turnTo {a0 a1 w K K'} (h : c_wheel_Wheel_turnTo a0 a1 w K) (hk : ∀  w', K  w' → K'  w') : c_wheel_Wheel_turnTo a0 a1 w K' :=
  Calls.mono h fun e w' hh => by obtain ⟨he, hx⟩ := hh; exact ⟨he, hk  _ hx⟩

/-- (*goosepond/wheel.Wheel).due -/
abbrev n_wheel_Wheel_due : FuncId := 68
def c_wheel_Wheel_due (a0 : Option Addr) (w : World) (K : SliceV → World → Prop) : Prop :=
  Calls Try.prog 68 ⟨[(Value.pointer a0)]⟩ w fun e w' => ∃ y43 : SliceV, e = .returned (Value.slice y43.a y43.len y43.cap) ∧ K y43 w'
theorem cm_wheel_Wheel_due {a0 w K K'} (h : c_wheel_Wheel_due a0 w K) (hk : ∀ x0 w', K x0 w' → K' x0 w') : c_wheel_Wheel_due a0 w K' :=
  Calls.mono h fun e w' hh => by obtain ⟨x0, he, hx⟩ := hh; exact ⟨x0, he, hk _ _ hx⟩

/-- cmp.Compare[int] -/
abbrev n_cmp_Compare_int : FuncId := 81
def c_cmp_Compare_int (a0 : Int) (a1 : Int) (w : World) (K : Int → World → Prop) : Prop :=
  Calls Try.prog 81 ⟨[(Value.int .i64 a0), (Value.int .i64 a1)]⟩ w fun e w' => ∃ y7 : Int, e = .returned (Value.int .i64 y7) ∧ K y7 w'
theorem cm_cmp_Compare_int {a0 a1 w K K'} (h : c_cmp_Compare_int a0 a1 w K) (hk : ∀ x0 w', K x0 w' → K' x0 w') : c_cmp_Compare_int a0 a1 w K' :=
  Calls.mono h fun e w' hh => by obtain ⟨x0, he, hx⟩ := hh; exact ⟨x0, he, hk _ _ hx⟩

/-- (*goosepond/wheel.Wheel).slot -/
abbrev n_wheel_Wheel_slot : FuncId := 84
def c_wheel_Wheel_slot (a0 : Option Addr) (a1 : Int) (w : World) (K : (Option Addr) → World → Prop) : Prop :=
  Calls Try.prog 84 ⟨[(Value.pointer a0), (Value.int .i64 a1)]⟩ w fun e w' => ∃ y8 : Option Addr, e = .returned (Value.pointer y8) ∧ K y8 w'
theorem cm_wheel_Wheel_slot {a0 a1 w K K'} (h : c_wheel_Wheel_slot a0 a1 w K) (hk : ∀ x0 w', K x0 w' → K' x0 w') : c_wheel_Wheel_slot a0 a1 w K' :=
  Calls.mono h fun e w' hh => by obtain ⟨x0, he, hx⟩ := hh; exact ⟨x0, he, hk _ _ hx⟩

/-- slices.DeleteFunc[[]goosepond/wheel.timer,goosepond/wheel.timer] -/
abbrev n_slices_DeleteFunc_wheel_timer_wheel_timer : FuncId := 85
def c_slices_DeleteFunc_wheel_timer_wheel_timer (a0 : SliceV) (a1 : Value) (w : World) (K : SliceV → World → Prop) : Prop :=
  Calls Try.prog 85 ⟨[(Value.slice a0.a a0.len a0.cap), a1]⟩ w fun e w' => ∃ y32 : SliceV, e = .returned (Value.slice y32.a y32.len y32.cap) ∧ K y32 w'
theorem cm_slices_DeleteFunc_wheel_timer_wheel_timer {a0 a1 w K K'} (h : c_slices_DeleteFunc_wheel_timer_wheel_timer a0 a1 w K) (hk : ∀ x0 w', K x0 w' → K' x0 w') : c_slices_DeleteFunc_wheel_timer_wheel_timer a0 a1 w K' :=
  Calls.mono h fun e w' hh => by obtain ⟨x0, he, hx⟩ := hh; exact ⟨x0, he, hk _ _ hx⟩

/-- (*goosepond/wheel.Wheel).take$1 -/
abbrev n_wheel_Wheel_take_1 : FuncId := 86
def c_wheel_Wheel_take_1 (a0_0 : Int) (a0_1 : Int) (a0_2 : Int) (f0 : Addr) (w : World) (K : Bool → World → Prop) : Prop :=
  Calls Try.prog 86 ⟨[(Value.agg ⟨[(Value.int .i64 a0_0), (Value.int .i64 a0_1), (Value.int .i64 a0_2)]⟩), (Value.pointer (some f0))]⟩ w fun e w' => ∃ y6 : Bool, e = .returned (Value.bool y6) ∧ K y6 w'
theorem cm_wheel_Wheel_take_1 {a0_0 a0_1 a0_2 f0 w K K'} (h : c_wheel_Wheel_take_1 a0_0 a0_1 a0_2 f0 w K) (hk : ∀ x0 w', K x0 w' → K' x0 w') : c_wheel_Wheel_take_1 a0_0 a0_1 a0_2 f0 w K' :=
  Calls.mono h fun e w' hh => by obtain ⟨x0, he, hx⟩ := hh; exact ⟨x0, he, hk _ _ hx⟩

/-- slices.MinFunc[[]goosepond/wheel.timer,goosepond/wheel.timer] -/
abbrev n_slices_MinFunc_wheel_timer_wheel_timer : FuncId := 87
def c_slices_MinFunc_wheel_timer_wheel_timer (a0 : SliceV) (a1 : Value) (w : World) (K : Int → Int → Int → World → Prop) : Prop :=
  Calls Try.prog 87 ⟨[(Value.slice a0.a a0.len a0.cap), a1]⟩ w fun e w' => ∃ y39 : Int, ∃ y40 : Int, ∃ y41 : Int, e = .returned (Value.agg ⟨[(Value.int .i64 y39), (Value.int .i64 y40), (Value.int .i64 y41)]⟩) ∧ K y39 y40 y41 w'
theorem cm_slices_MinFunc_wheel_timer_wheel_timer {a0 a1 w K K'} (h : c_slices_MinFunc_wheel_timer_wheel_timer a0 a1 w K) (hk : ∀ x0 x1 x2 w', K x0 x1 x2 w' → K' x0 x1 x2 w') : c_slices_MinFunc_wheel_timer_wheel_timer a0 a1 w K' :=
  Calls.mono h fun e w' hh => by obtain ⟨x0, x1, x2, he, hx⟩ := hh; exact ⟨x0, x1, x2, he, hk _ _ _ _ hx⟩

/-- (*goosepond/wheel.Wheel).next$1 -/
abbrev n_wheel_Wheel_next_1 : FuncId := 88
def c_wheel_Wheel_next_1 (a0_0 : Int) (a0_1 : Int) (a0_2 : Int) (a1_0 : Int) (a1_1 : Int) (a1_2 : Int) (w : World) (K : Int → World → Prop) : Prop :=
  Calls Try.prog 88 ⟨[(Value.agg ⟨[(Value.int .i64 a0_0), (Value.int .i64 a0_1), (Value.int .i64 a0_2)]⟩), (Value.agg ⟨[(Value.int .i64 a1_0), (Value.int .i64 a1_1), (Value.int .i64 a1_2)]⟩)]⟩ w fun e w' => ∃ y11 : Int, e = .returned (Value.int .i64 y11) ∧ K y11 w'
theorem cm_wheel_Wheel_next_1 {a0_0 a0_1 a0_2 a1_0 a1_1 a1_2 w K K'} (h : c_wheel_Wheel_next_1 a0_0 a0_1 a0_2 a1_0 a1_1 a1_2 w K) (hk : ∀ x0 w', K x0 w' → K' x0 w') : c_wheel_Wheel_next_1 a0_0 a0_1 a0_2 a1_0 a1_1 a1_2 w K' :=
  Calls.mono h fun e w' hh => by obtain ⟨x0, he, hx⟩ := hh; exact ⟨x0, he, hk _ _ hx⟩

/-- goosepond/wheel.level -/
abbrev n_wheel_level : FuncId := 89
def c_wheel_level (a0 : Int) (a1 : Int) (w : World) (K : Int → World → Prop) : Prop :=
  Calls Try.prog 89 ⟨[(Value.int .i64 a0), (Value.int .i64 a1)]⟩ w fun e w' => ∃ y6 : Int, e = .returned (Value.int .i64 y6) ∧ K y6 w'
theorem cm_wheel_level {a0 a1 w K K'} (h : c_wheel_level a0 a1 w K) (hk : ∀ x0 w', K x0 w' → K' x0 w') : c_wheel_level a0 a1 w K' :=
  Calls.mono h fun e w' hh => by obtain ⟨x0, he, hx⟩ := hh; exact ⟨x0, he, hk _ _ hx⟩

/-- slices.Clone[[]goosepond/wheel.timer,goosepond/wheel.timer] -/
abbrev n_slices_Clone_wheel_timer_wheel_timer : FuncId := 90
def c_slices_Clone_wheel_timer_wheel_timer (a0 : SliceV) (w : World) (K : SliceV → World → Prop) : Prop :=
  Calls Try.prog 90 ⟨[(Value.slice a0.a a0.len a0.cap)]⟩ w fun e w' => ∃ y6 : SliceV, e = .returned (Value.slice y6.a y6.len y6.cap) ∧ K y6 w'
theorem cm_slices_Clone_wheel_timer_wheel_timer {a0 w K K'} (h : c_slices_Clone_wheel_timer_wheel_timer a0 w K) (hk : ∀ x0 w', K x0 w' → K' x0 w') : c_slices_Clone_wheel_timer_wheel_timer a0 w K' :=
  Calls.mono h fun e w' hh => by obtain ⟨x0, he, hx⟩ := hh; exact ⟨x0, he, hk _ _ hx⟩

/-- (*goosepond/wheel.Wheel).due$1 -/
abbrev n_wheel_Wheel_due_1 : FuncId := 91
def c_wheel_Wheel_due_1 (a0_0 : Int) (a0_1 : Int) (a0_2 : Int) (f0 : Addr) (w : World) (K : Bool → World → Prop) : Prop :=
  Calls Try.prog 91 ⟨[(Value.agg ⟨[(Value.int .i64 a0_0), (Value.int .i64 a0_1), (Value.int .i64 a0_2)]⟩), (Value.pointer (some f0))]⟩ w fun e w' => ∃ y8 : Bool, e = .returned (Value.bool y8) ∧ K y8 w'
theorem cm_wheel_Wheel_due_1 {a0_0 a0_1 a0_2 f0 w K K'} (h : c_wheel_Wheel_due_1 a0_0 a0_1 a0_2 f0 w K) (hk : ∀ x0 w', K x0 w' → K' x0 w') : c_wheel_Wheel_due_1 a0_0 a0_1 a0_2 f0 w K' :=
  Calls.mono h fun e w' hh => by obtain ⟨x0, he, hx⟩ := hh; exact ⟨x0, he, hk _ _ hx⟩

/-- (*goosepond/wheel.Wheel).due$2 -/
abbrev n_wheel_Wheel_due_2 : FuncId := 92
def c_wheel_Wheel_due_2 (a0_0 : Int) (a0_1 : Int) (a0_2 : Int) (f0 : Addr) (w : World) (K : Bool → World → Prop) : Prop :=
  Calls Try.prog 92 ⟨[(Value.agg ⟨[(Value.int .i64 a0_0), (Value.int .i64 a0_1), (Value.int .i64 a0_2)]⟩), (Value.pointer (some f0))]⟩ w fun e w' => ∃ y8 : Bool, e = .returned (Value.bool y8) ∧ K y8 w'
theorem cm_wheel_Wheel_due_2 {a0_0 a0_1 a0_2 f0 w K K'} (h : c_wheel_Wheel_due_2 a0_0 a0_1 a0_2 f0 w K) (hk : ∀ x0 w', K x0 w' → K' x0 w') : c_wheel_Wheel_due_2 a0_0 a0_1 a0_2 f0 w K' :=
  Calls.mono h fun e w' hh => by obtain ⟨x0, he, hx⟩ := hh; exact ⟨x0, he, hk _ _ hx⟩

/-- slices.SortFunc[[]goosepond/wheel.timer,goosepond/wheel.timer] -/
abbrev n_slices_SortFunc_wheel_timer_wheel_timer : FuncId := 93
def c_slices_SortFunc_wheel_timer_wheel_timer (a0 : SliceV) (a1 : Value) (w : World) (K : World → Prop) : Prop :=
  Calls Try.prog 93 ⟨[(Value.slice a0.a a0.len a0.cap), a1]⟩ w fun e w' => e = .returned (Value.tuple ⟨[]⟩) ∧ K w'
theorem cm_slices_SortFunc_wheel_timer_wheel_timer {a0 a1 w K K'} (h : c_slices_SortFunc_wheel_timer_wheel_timer a0 a1 w K) (hk : ∀  w', K  w' → K'  w') : c_slices_SortFunc_wheel_timer_wheel_timer a0 a1 w K' :=
  Calls.mono h fun e w' hh => by obtain ⟨he, hx⟩ := hh; exact ⟨he, hk  _ hx⟩

/-- (*goosepond/wheel.Wheel).due$3 -/
abbrev n_wheel_Wheel_due_3 : FuncId := 94
def c_wheel_Wheel_due_3 (a0_0 : Int) (a0_1 : Int) (a0_2 : Int) (a1_0 : Int) (a1_1 : Int) (a1_2 : Int) (w : World) (K : Int → World → Prop) : Prop :=
  Calls Try.prog 94 ⟨[(Value.agg ⟨[(Value.int .i64 a0_0), (Value.int .i64 a0_1), (Value.int .i64 a0_2)]⟩), (Value.agg ⟨[(Value.int .i64 a1_0), (Value.int .i64 a1_1), (Value.int .i64 a1_2)]⟩)]⟩ w fun e w' => ∃ y11 : Int, e = .returned (Value.int .i64 y11) ∧ K y11 w'
theorem cm_wheel_Wheel_due_3 {a0_0 a0_1 a0_2 a1_0 a1_1 a1_2 w K K'} (h : c_wheel_Wheel_due_3 a0_0 a0_1 a0_2 a1_0 a1_1 a1_2 w K) (hk : ∀ x0 w', K x0 w' → K' x0 w') : c_wheel_Wheel_due_3 a0_0 a0_1 a0_2 a1_0 a1_1 a1_2 w K' :=
  Calls.mono h fun e w' hh => by obtain ⟨x0, he, hx⟩ := hh; exact ⟨x0, he, hk _ _ hx⟩

/-- math/bits.Len -/
abbrev n_math_bits_Len : FuncId := 96
def c_math_bits_Len (a0 : Int) (w : World) (K : Int → World → Prop) : Prop :=
  Calls Try.prog 96 ⟨[(Value.int .u64 a0)]⟩ w fun e w' => ∃ y4 : Int, e = .returned (Value.int .i64 y4) ∧ K y4 w'
theorem cm_math_bits_Len {a0 w K K'} (h : c_math_bits_Len a0 w K) (hk : ∀ x0 w', K x0 w' → K' x0 w') : c_math_bits_Len a0 w K' :=
  Calls.mono h fun e w' hh => by obtain ⟨x0, he, hx⟩ := hh; exact ⟨x0, he, hk _ _ hx⟩

/-- cmp.isNaN[int] -/
abbrev n_cmp_isNaN_int : FuncId := 98
def c_cmp_isNaN_int (a0 : Int) (w : World) (K : Bool → World → Prop) : Prop :=
  Calls Try.prog 98 ⟨[(Value.int .i64 a0)]⟩ w fun e w' => ∃ y2 : Bool, e = .returned (Value.bool y2) ∧ K y2 w'
theorem cm_cmp_isNaN_int {a0 w K K'} (h : c_cmp_isNaN_int a0 w K) (hk : ∀ x0 w', K x0 w' → K' x0 w') : c_cmp_isNaN_int a0 w K' :=
  Calls.mono h fun e w' hh => by obtain ⟨x0, he, hx⟩ := hh; exact ⟨x0, he, hk _ _ hx⟩

/-- slices.IndexFunc[[]goosepond/wheel.timer,goosepond/wheel.timer] -/
abbrev n_slices_IndexFunc_wheel_timer_wheel_timer : FuncId := 100
def c_slices_IndexFunc_wheel_timer_wheel_timer (a0 : SliceV) (a1 : Value) (w : World) (K : Int → World → Prop) : Prop :=
  Calls Try.prog 100 ⟨[(Value.slice a0.a a0.len a0.cap), a1]⟩ w fun e w' => ∃ y13 : Int, e = .returned (Value.int .i64 y13) ∧ K y13 w'
theorem cm_slices_IndexFunc_wheel_timer_wheel_timer {a0 a1 w K K'} (h : c_slices_IndexFunc_wheel_timer_wheel_timer a0 a1 w K) (hk : ∀ x0 w', K x0 w' → K' x0 w') : c_slices_IndexFunc_wheel_timer_wheel_timer a0 a1 w K' :=
  Calls.mono h fun e w' hh => by obtain ⟨x0, he, hx⟩ := hh; exact ⟨x0, he, hk _ _ hx⟩

/-- slices.pdqsortCmpFunc[goosepond/wheel.timer] -/
abbrev n_slices_pdqsortCmpFunc_wheel_timer : FuncId := 101
def c_slices_pdqsortCmpFunc_wheel_timer (a0 : SliceV) (a1 : Int) (a2 : Int) (a3 : Int) (a4 : Value) (w : World) (K : World → Prop) : Prop :=
  Calls Try.prog 101 ⟨[(Value.slice a0.a a0.len a0.cap), (Value.int .i64 a1), (Value.int .i64 a2), (Value.int .i64 a3), a4]⟩ w fun e w' => e = .returned (Value.tuple ⟨[]⟩) ∧ K w'
theorem cm_slices_pdqsortCmpFunc_wheel_timer {a0 a1 a2 a3 a4 w K K'} (h : c_slices_pdqsortCmpFunc_wheel_timer a0 a1 a2 a3 a4 w K) (hk : ∀  w', K  w' → K'  w') : c_slices_pdqsortCmpFunc_wheel_timer a0 a1 a2 a3 a4 w K' :=
  Calls.mono h fun e w' hh => by obtain ⟨he, hx⟩ := hh; exact ⟨he, hk  _ hx⟩

/-- math/bits.Len64 -/
abbrev n_math_bits_Len64 : FuncId := 112
def c_math_bits_Len64 (a0 : Int) (w : World) (K : Int → World → Prop) : Prop :=
  Calls Try.prog 112 ⟨[(Value.int .u64 a0)]⟩ w fun e w' => ∃ y12 : Int, e = .returned (Value.int .i64 y12) ∧ K y12 w'
theorem cm_math_bits_Len64 {a0 w K K'} (h : c_math_bits_Len64 a0 w K) (hk : ∀ x0 w', K x0 w' → K' x0 w') : c_math_bits_Len64 a0 w K' :=
  Calls.mono h fun e w' hh => by obtain ⟨x0, he, hx⟩ := hh; exact ⟨x0, he, hk _ _ hx⟩

/-- slices.insertionSortCmpFunc[goosepond/wheel.timer] -/
abbrev n_slices_insertionSortCmpFunc_wheel_timer : FuncId := 114
def c_slices_insertionSortCmpFunc_wheel_timer (a0 : SliceV) (a1 : Int) (a2 : Int) (a3 : Value) (w : World) (K : World → Prop) : Prop :=
  Calls Try.prog 114 ⟨[(Value.slice a0.a a0.len a0.cap), (Value.int .i64 a1), (Value.int .i64 a2), a3]⟩ w fun e w' => e = .returned (Value.tuple ⟨[]⟩) ∧ K w'
theorem cm_slices_insertionSortCmpFunc_wheel_timer {a0 a1 a2 a3 w K K'} (h : c_slices_insertionSortCmpFunc_wheel_timer a0 a1 a2 a3 w K) (hk : ∀  w', K  w' → K'  w') : c_slices_insertionSortCmpFunc_wheel_timer a0 a1 a2 a3 w K' :=
  Calls.mono h fun e w' hh => by obtain ⟨he, hx⟩ := hh; exact ⟨he, hk  _ hx⟩

/-- slices.heapSortCmpFunc[goosepond/wheel.timer] -/
abbrev n_slices_heapSortCmpFunc_wheel_timer : FuncId := 115
def c_slices_heapSortCmpFunc_wheel_timer (a0 : SliceV) (a1 : Int) (a2 : Int) (a3 : Value) (w : World) (K : World → Prop) : Prop :=
  Calls Try.prog 115 ⟨[(Value.slice a0.a a0.len a0.cap), (Value.int .i64 a1), (Value.int .i64 a2), a3]⟩ w fun e w' => e = .returned (Value.tuple ⟨[]⟩) ∧ K w'
theorem cm_slices_heapSortCmpFunc_wheel_timer {a0 a1 a2 a3 w K K'} (h : c_slices_heapSortCmpFunc_wheel_timer a0 a1 a2 a3 w K) (hk : ∀  w', K  w' → K'  w') : c_slices_heapSortCmpFunc_wheel_timer a0 a1 a2 a3 w K' :=
  Calls.mono h fun e w' hh => by obtain ⟨he, hx⟩ := hh; exact ⟨he, hk  _ hx⟩

/-- slices.breakPatternsCmpFunc[goosepond/wheel.timer] -/
abbrev n_slices_breakPatternsCmpFunc_wheel_timer : FuncId := 116
def c_slices_breakPatternsCmpFunc_wheel_timer (a0 : SliceV) (a1 : Int) (a2 : Int) (a3 : Value) (w : World) (K : World → Prop) : Prop :=
  Calls Try.prog 116 ⟨[(Value.slice a0.a a0.len a0.cap), (Value.int .i64 a1), (Value.int .i64 a2), a3]⟩ w fun e w' => e = .returned (Value.tuple ⟨[]⟩) ∧ K w'
theorem cm_slices_breakPatternsCmpFunc_wheel_timer {a0 a1 a2 a3 w K K'} (h : c_slices_breakPatternsCmpFunc_wheel_timer a0 a1 a2 a3 w K) (hk : ∀  w', K  w' → K'  w') : c_slices_breakPatternsCmpFunc_wheel_timer a0 a1 a2 a3 w K' :=
  Calls.mono h fun e w' hh => by obtain ⟨he, hx⟩ := hh; exact ⟨he, hk  _ hx⟩

/-- slices.choosePivotCmpFunc[goosepond/wheel.timer] -/
abbrev n_slices_choosePivotCmpFunc_wheel_timer : FuncId := 117
def c_slices_choosePivotCmpFunc_wheel_timer (a0 : SliceV) (a1 : Int) (a2 : Int) (a3 : Value) (w : World) (K : Int → Int → World → Prop) : Prop :=
  Calls Try.prog 117 ⟨[(Value.slice a0.a a0.len a0.cap), (Value.int .i64 a1), (Value.int .i64 a2), a3]⟩ w fun e w' => ∃ y24 : Int, ∃ y25 : Int, e = .returned (Value.tuple ⟨[(Value.int .i64 y24), (Value.int .i64 y25)]⟩) ∧ K y24 y25 w'
theorem cm_slices_choosePivotCmpFunc_wheel_timer {a0 a1 a2 a3 w K K'} (h : c_slices_choosePivotCmpFunc_wheel_timer a0 a1 a2 a3 w K) (hk : ∀ x0 x1 w', K x0 x1 w' → K' x0 x1 w') : c_slices_choosePivotCmpFunc_wheel_timer a0 a1 a2 a3 w K' :=
  Calls.mono h fun e w' hh => by obtain ⟨x0, x1, he, hx⟩ := hh; exact ⟨x0, x1, he, hk _ _ _ hx⟩

/-- slices.reverseRangeCmpFunc[goosepond/wheel.timer] -/
abbrev n_slices_reverseRangeCmpFunc_wheel_timer : FuncId := 118
def c_slices_reverseRangeCmpFunc_wheel_timer (a0 : SliceV) (a1 : Int) (a2 : Int) (a3 : Value) (w : World) (K : World → Prop) : Prop :=
  Calls Try.prog 118 ⟨[(Value.slice a0.a a0.len a0.cap), (Value.int .i64 a1), (Value.int .i64 a2), a3]⟩ w fun e w' => e = .returned (Value.tuple ⟨[]⟩) ∧ K w'
theorem cm_slices_reverseRangeCmpFunc_wheel_timer {a0 a1 a2 a3 w K K'} (h : c_slices_reverseRangeCmpFunc_wheel_timer a0 a1 a2 a3 w K) (hk : ∀  w', K  w' → K'  w') : c_slices_reverseRangeCmpFunc_wheel_timer a0 a1 a2 a3 w K' :=
  Calls.mono h fun e w' hh => by obtain ⟨he, hx⟩ := hh; exact ⟨he, hk  _ hx⟩

/-- slices.partialInsertionSortCmpFunc[goosepond/wheel.timer] -/
abbrev n_slices_partialInsertionSortCmpFunc_wheel_timer : FuncId := 119
def c_slices_partialInsertionSortCmpFunc_wheel_timer (a0 : SliceV) (a1 : Int) (a2 : Int) (a3 : Value) (w : World) (K : Bool → World → Prop) : Prop :=
  Calls Try.prog 119 ⟨[(Value.slice a0.a a0.len a0.cap), (Value.int .i64 a1), (Value.int .i64 a2), a3]⟩ w fun e w' => ∃ y94 : Bool, e = .returned (Value.bool y94) ∧ K y94 w'
theorem cm_slices_partialInsertionSortCmpFunc_wheel_timer {a0 a1 a2 a3 w K K'} (h : c_slices_partialInsertionSortCmpFunc_wheel_timer a0 a1 a2 a3 w K) (hk : ∀ x0 w', K x0 w' → K' x0 w') : c_slices_partialInsertionSortCmpFunc_wheel_timer a0 a1 a2 a3 w K' :=
  Calls.mono h fun e w' hh => by obtain ⟨x0, he, hx⟩ := hh; exact ⟨x0, he, hk _ _ hx⟩

/-- slices.partitionEqualCmpFunc[goosepond/wheel.timer] -/
abbrev n_slices_partitionEqualCmpFunc_wheel_timer : FuncId := 120
def c_slices_partitionEqualCmpFunc_wheel_timer (a0 : SliceV) (a1 : Int) (a2 : Int) (a3 : Int) (a4 : Value) (w : World) (K : Int → World → Prop) : Prop :=
  Calls Try.prog 120 ⟨[(Value.slice a0.a a0.len a0.cap), (Value.int .i64 a1), (Value.int .i64 a2), (Value.int .i64 a3), a4]⟩ w fun e w' => ∃ y67 : Int, e = .returned (Value.int .i64 y67) ∧ K y67 w'
theorem cm_slices_partitionEqualCmpFunc_wheel_timer {a0 a1 a2 a3 a4 w K K'} (h : c_slices_partitionEqualCmpFunc_wheel_timer a0 a1 a2 a3 a4 w K) (hk : ∀ x0 w', K x0 w' → K' x0 w') : c_slices_partitionEqualCmpFunc_wheel_timer a0 a1 a2 a3 a4 w K' :=
  Calls.mono h fun e w' hh => by obtain ⟨x0, he, hx⟩ := hh; exact ⟨x0, he, hk _ _ hx⟩

/-- slices.partitionCmpFunc[goosepond/wheel.timer] -/
abbrev n_slices_partitionCmpFunc_wheel_timer : FuncId := 121
def c_slices_partitionCmpFunc_wheel_timer (a0 : SliceV) (a1 : Int) (a2 : Int) (a3 : Int) (a4 : Value) (w : World) (K : Int → Bool → World → Prop) : Prop :=
  Calls Try.prog 121 ⟨[(Value.slice a0.a a0.len a0.cap), (Value.int .i64 a1), (Value.int .i64 a2), (Value.int .i64 a3), a4]⟩ w fun e w' => ∃ y137 : Int, ∃ y138 : Bool, e = .returned (Value.tuple ⟨[(Value.int .i64 y137), (Value.bool y138)]⟩) ∧ K y137 y138 w'
theorem cm_slices_partitionCmpFunc_wheel_timer {a0 a1 a2 a3 a4 w K K'} (h : c_slices_partitionCmpFunc_wheel_timer a0 a1 a2 a3 a4 w K) (hk : ∀ x0 x1 w', K x0 x1 w' → K' x0 x1 w') : c_slices_partitionCmpFunc_wheel_timer a0 a1 a2 a3 a4 w K' :=
  Calls.mono h fun e w' hh => by obtain ⟨x0, x1, he, hx⟩ := hh; exact ⟨x0, x1, he, hk _ _ _ hx⟩

/-- slices.nextPowerOfTwo -/
abbrev n_slices_nextPowerOfTwo : FuncId := 123
def c_slices_nextPowerOfTwo (a0 : Int) (w : World) (K : Int → World → Prop) : Prop :=
  Calls Try.prog 123 ⟨[(Value.int .i64 a0)]⟩ w fun e w' => ∃ y4 : Int, e = .returned (Value.int .u64 y4) ∧ K y4 w'
theorem cm_slices_nextPowerOfTwo {a0 w K K'} (h : c_slices_nextPowerOfTwo a0 w K) (hk : ∀ x0 w', K x0 w' → K' x0 w') : c_slices_nextPowerOfTwo a0 w K' :=
  Calls.mono h fun e w' hh => by obtain ⟨x0, he, hx⟩ := hh; exact ⟨x0, he, hk _ _ hx⟩

/-- (*slices.xorshift).Next -/
abbrev n_slices_xorshift_Next : FuncId := 124
def c_slices_xorshift_Next (a0 : Option Addr) (w : World) (K : Int → World → Prop) : Prop :=
  Calls Try.prog 124 ⟨[(Value.pointer a0)]⟩ w fun e w' => ∃ y22 : Int, e = .returned (Value.int .u64 y22) ∧ K y22 w'
theorem cm_slices_xorshift_Next {a0 w K K'} (h : c_slices_xorshift_Next a0 w K) (hk : ∀ x0 w', K x0 w' → K' x0 w') : c_slices_xorshift_Next a0 w K' :=
  Calls.mono h fun e w' hh => by obtain ⟨x0, he, hx⟩ := hh; exact ⟨x0, he, hk _ _ hx⟩

/-- slices.siftDownCmpFunc[goosepond/wheel.timer] -/
abbrev n_slices_siftDownCmpFunc_wheel_timer : FuncId := 128
def c_slices_siftDownCmpFunc_wheel_timer (a0 : SliceV) (a1 : Int) (a2 : Int) (a3 : Int) (a4 : Value) (w : World) (K : World → Prop) : Prop :=
  Calls Try.prog 128 ⟨[(Value.slice a0.a a0.len a0.cap), (Value.int .i64 a1), (Value.int .i64 a2), (Value.int .i64 a3), a4]⟩ w fun e w' => e = .returned (Value.tuple ⟨[]⟩) ∧ K w'
theorem cm_slices_siftDownCmpFunc_wheel_timer {a0 a1 a2 a3 a4 w K K'} (h : c_slices_siftDownCmpFunc_wheel_timer a0 a1 a2 a3 a4 w K) (hk : ∀  w', K  w' → K'  w') : c_slices_siftDownCmpFunc_wheel_timer a0 a1 a2 a3 a4 w K' :=
  Calls.mono h fun e w' hh => by obtain ⟨he, hx⟩ := hh; exact ⟨he, hk  _ hx⟩

/-- slices.medianAdjacentCmpFunc[goosepond/wheel.timer] -/
abbrev n_slices_medianAdjacentCmpFunc_wheel_timer : FuncId := 129
def c_slices_medianAdjacentCmpFunc_wheel_timer (a0 : SliceV) (a1 : Int) (a2 : Option Addr) (a3 : Value) (w : World) (K : Int → World → Prop) : Prop :=
  Calls Try.prog 129 ⟨[(Value.slice a0.a a0.len a0.cap), (Value.int .i64 a1), (Value.pointer a2), a3]⟩ w fun e w' => ∃ y7 : Int, e = .returned (Value.int .i64 y7) ∧ K y7 w'
theorem cm_slices_medianAdjacentCmpFunc_wheel_timer {a0 a1 a2 a3 w K K'} (h : c_slices_medianAdjacentCmpFunc_wheel_timer a0 a1 a2 a3 w K) (hk : ∀ x0 w', K x0 w' → K' x0 w') : c_slices_medianAdjacentCmpFunc_wheel_timer a0 a1 a2 a3 w K' :=
  Calls.mono h fun e w' hh => by obtain ⟨x0, he, hx⟩ := hh; exact ⟨x0, he, hk _ _ hx⟩

/-- slices.medianCmpFunc[goosepond/wheel.timer] -/
abbrev n_slices_medianCmpFunc_wheel_timer : FuncId := 130
def c_slices_medianCmpFunc_wheel_timer (a0 : SliceV) (a1 : Int) (a2 : Int) (a3 : Int) (a4 : Option Addr) (a5 : Value) (w : World) (K : Int → World → Prop) : Prop :=
  Calls Try.prog 130 ⟨[(Value.slice a0.a a0.len a0.cap), (Value.int .i64 a1), (Value.int .i64 a2), (Value.int .i64 a3), (Value.pointer a4), a5]⟩ w fun e w' => ∃ y16 : Int, e = .returned (Value.int .i64 y16) ∧ K y16 w'
theorem cm_slices_medianCmpFunc_wheel_timer {a0 a1 a2 a3 a4 a5 w K K'} (h : c_slices_medianCmpFunc_wheel_timer a0 a1 a2 a3 a4 a5 w K) (hk : ∀ x0 w', K x0 w' → K' x0 w') : c_slices_medianCmpFunc_wheel_timer a0 a1 a2 a3 a4 a5 w K' :=
  Calls.mono h fun e w' hh => by obtain ⟨x0, he, hx⟩ := hh; exact ⟨x0, he, hk _ _ hx⟩

/-- slices.order2CmpFunc[goosepond/wheel.timer] -/
abbrev n_slices_order2CmpFunc_wheel_timer : FuncId := 132
def c_slices_order2CmpFunc_wheel_timer (a0 : SliceV) (a1 : Int) (a2 : Int) (a3 : Option Addr) (a4 : Value) (w : World) (K : Int → Int → World → Prop) : Prop :=
  Calls Try.prog 132 ⟨[(Value.slice a0.a a0.len a0.cap), (Value.int .i64 a1), (Value.int .i64 a2), (Value.pointer a3), a4]⟩ w fun e w' => ∃ y21 : Int, ∃ y22 : Int, e = .returned (Value.tuple ⟨[(Value.int .i64 y21), (Value.int .i64 y22)]⟩) ∧ K y21 y22 w'
theorem cm_slices_order2CmpFunc_wheel_timer {a0 a1 a2 a3 a4 w K K'} (h : c_slices_order2CmpFunc_wheel_timer a0 a1 a2 a3 a4 w K) (hk : ∀ x0 x1 w', K x0 x1 w' → K' x0 x1 w') : c_slices_order2CmpFunc_wheel_timer a0 a1 a2 a3 a4 w K' :=
  Calls.mono h fun e w' hh => by obtain ⟨x0, x1, he, hx⟩ := hh; exact ⟨x0, x1, he, hk _ _ _ hx⟩

/-- goosepond/goosepondlaw17.WheelOnce -/
def s_law17_WheelOnce (a0 : Int) (a1 : SliceV) (w : World) (K : Bool → World → Prop) : Prop :=
 (c_law17_awake  w fun r3 w4 =>
 (bif (!r3) then
 K false w4
 else
 (bif (decide ((a1.len : Int) > 100)) then
 c_law17_awake  w4 fun r5 w6 =>
 K r5 w6
 else
 c_wheel_New 3 w4 fun r7 r8 w9 =>
 let J10 : Bool → World → Prop := fun j11 w12 =>
 ((bif j11 then
 K false w12
 else
 LoopP (S := Int × Int × Int × Unit) (fun s13 w14 next15 =>
 (bif (decide (s13.2.2.1 < (a1.len : Int))) then
 AtIx a1 1 s13.2.2.1 fun a16 =>
 Ld (.int .u32) w14 a16 fun x17 =>
 c_wheel_Wheel_Advance r7 (IntKind.i64.wrap (s13.1 + (IntKind.i64.wrap x17))) w14 fun r18 w19 =>
 let J20 : Int → World → Prop := fun j21 w22 =>
 (let J23 : Bool → Prop := fun j24 =>
 ((bif j24 then
 K false w22
 else
 next15 ((IntKind.i64.wrap (s13.1 + (IntKind.i64.wrap x17))), j21, (IntKind.i64.wrap (s13.2.2.1 + 1)), ()) w22))
 (bif (!(((j21 == 1) : Bool) == (decide ((IntKind.i64.wrap (s13.1 + (IntKind.i64.wrap x17))) ≥ (IntKind.i64.wrap a0))))) then
 J23 true
 else
 J23 (decide (j21 > 1))))
 (bif (decide ((r18.len : Int) > 0)) then
 let J25 : Bool → World → Prop := fun j26 w27 =>
 ((bif j26 then
 K false w27
 else
 J20 (IntKind.i64.wrap (s13.2.1 + 1)) w27))
 Al w19 (.cells ⟨[(Value.int .i64 7)]⟩ 3) fun a29 w28 =>
 c_slices_Equal_int_int r18 ⟨(some a29), 1, 1⟩ w28 fun r30 w31 =>
 (bif (!r30) then
 J25 true w31
 else
 J25 (decide ((IntKind.i64.wrap (s13.1 + (IntKind.i64.wrap x17))) < (IntKind.i64.wrap a0))) w31)
 else
 J20 s13.2.1 w19)
 else
 c_law17_awake  w14 fun r32 w33 =>
 K r32 w33)) (0, 0, 0, ()) w12))
 (bif (Option.isNone r7) then
 J10 true w9
 else
 (bif (r8 != 0) then
 J10 true w9
 else
 c_wheel_Wheel_Arm r7 7 (IntKind.i64.wrap a0) w9 fun r34 w35 =>
 (bif (r34 != 0) then
 J10 true w35
 else
 c_wheel_Wheel_Arm r7 8 1099511627776 w35 fun r36 w37 =>
 J10 (r36 != 0) w37))))))
theorem e_law17_WheelOnce (a0 : Int) (a1 : SliceV) (w : World) (K : Bool → World → Prop) : den Try.prog 81 (bodyOf Try.f7) none (.seq .leaf (.seq (.seq .leaf (.cond (.seq .leaf .leaf) .leaf)) (.seq (.seq .leaf (.cond (.seq .leaf .leaf) .leaf)) (.seq .leaf (.seq (.seq .leaf (.cond (.seq .leaf .leaf) .leaf)) (.seq .leaf (.seq (.seq .leaf (.blk (.loop [(7, (.int .i64)), (8, (.int .i64)), (42, (.int .i64))] (.seq .leaf (.seq (.cond .leaf .leaf) (.seq (.blk (.seq .leaf (.seq .leaf (.seq .leaf (.seq (.seq .leaf (.cond (.seq .leaf (.seq .leaf (.cond (.seq .leaf .leaf) .leaf))) .leaf)) (.seq .leaf (.cond (.seq .leaf .leaf) .leaf))))))) .leaf)))))) (.seq .leaf .leaf)))))))) (argEnv 0 [(Value.int .u32 a0), (Value.slice a1.a a1.len a1.cap)]) [] w (retK Try.prog [.tmp 4] [.one .bool] K) = s_law17_WheelOnce a0 a1 w K := by kernel_rfl
theorem ok_law17_WheelOnce {a0 a1 w K} (h : s_law17_WheelOnce a0 a1 w K) : c_law17_WheelOnce a0 a1 w K :=
  fn_sound pok Try.func7 (fn := Try.f7) (c := bodyOf Try.f7) (nt := 81) (by kernel_rfl) (by kernel_rfl) (rs := [.tmp 4]) (by kernel_rfl) [.one .bool] K (.seq .leaf (.seq (.seq .leaf (.cond (.seq .leaf .leaf) .leaf)) (.seq (.seq .leaf (.cond (.seq .leaf .leaf) .leaf)) (.seq .leaf (.seq (.seq .leaf (.cond (.seq .leaf .leaf) .leaf)) (.seq .leaf (.seq (.seq .leaf (.blk (.loop [(7, (.int .i64)), (8, (.int .i64)), (42, (.int .i64))] (.seq .leaf (.seq (.cond .leaf .leaf) (.seq (.blk (.seq .leaf (.seq .leaf (.seq .leaf (.seq (.seq .leaf (.cond (.seq .leaf (.seq .leaf (.cond (.seq .leaf .leaf) .leaf))) .leaf)) (.seq .leaf (.cond (.seq .leaf .leaf) .leaf))))))) .leaf)))))) (.seq .leaf .leaf)))))))) [(Value.int .u32 a0), (Value.slice a1.a a1.len a1.cap)] (by kernel_rfl) w ((e_law17_WheelOnce a0 a1 w K).mpr h)

/-- goosepond/goosepondlaw17.WheelSteps -/
def s_law17_WheelSteps (a0 : SliceV) (a1 : Int) (w : World) (K : Bool → World → Prop) : Prop :=
 (c_law17_awake  w fun r3 w4 =>
 (bif (!r3) then
 K false w4
 else
 (bif (decide ((a0.len : Int) > 60)) then
 c_law17_awake  w4 fun r5 w6 =>
 K r5 w6
 else
 c_wheel_New 100 w4 fun r7 r8 w9 =>
 c_wheel_New 100 w9 fun r10 r11 w12 =>
 let J13 : Bool → Prop := fun j14 =>
 ((bif j14 then
 K false w12
 else
 LoopP (S := Int × Unit) (fun s15 w16 next17 =>
 (bif (decide (s15.1 < (a0.len : Int))) then
 AtIx a0 1 s15.1 fun a18 =>
 Ld (.int .u16) w16 a18 fun x19 =>
 c_wheel_Wheel_Arm r7 s15.1 (IntKind.i64.wrap x19) w16 fun r20 w21 =>
 c_wheel_Wheel_Arm r10 s15.1 (IntKind.i64.wrap x19) w21 fun r22 w23 =>
 next17 ((IntKind.i64.wrap (s15.1 + 1)), ()) w23
 else
 c_wheel_Wheel_Advance r7 131072 w16 fun r24 w25 =>
 LoopP (S := SliceV × Int × Unit) (fun s26 w27 next28 =>
 (bif (decide (s26.2.1 ≤ 65536)) then
 c_wheel_Wheel_Advance r10 s26.2.1 w27 fun r29 w30 =>
 AppSl 3 1 8 [(Value.int .i64 0)] s26.1 r29 w30 fun s31 w32 =>
 next28 (s31, (IntKind.i64.wrap (s26.2.1 + (IntKind.i64.wrap (97 + (IntKind.i64.wrap (40 * (IntKind.i64.wrap a1))))))), ()) w32
 else
 c_wheel_Wheel_Advance r10 131072 w27 fun r33 w34 =>
 AppSl 3 1 8 [(Value.int .i64 0)] s26.1 r33 w34 fun s35 w36 =>
 let J37 : Bool → World → Prop := fun j38 w39 =>
 (K j38 w39)
 (bif ((r24.len : Int) == (a0.len : Int)) then
 c_slices_Equal_int_int r24 s35 w36 fun r40 w41 =>
 (bif r40 then
 c_law17_awake  w41 fun r42 w43 =>
 J37 r42 w43
 else
 J37 false w41)
 else
 J37 false w36))) (⟨none, 0, 0⟩, 0, ()) w25)) (0, ()) w12))
 (bif (Option.isNone r7) then
 J13 true
 else
 (bif (Option.isNone r10) then
 J13 true
 else
 (bif (r8 != 0) then
 J13 true
 else
 J13 (r11 != 0)))))))
theorem e_law17_WheelSteps (a0 : SliceV) (a1 : Int) (w : World) (K : Bool → World → Prop) : den Try.prog 92 (bodyOf Try.f8) none (.seq .leaf (.seq (.seq .leaf (.cond (.seq .leaf .leaf) .leaf)) (.seq (.seq .leaf (.cond (.seq .leaf .leaf) .leaf)) (.seq .leaf (.seq .leaf (.seq (.seq .leaf (.cond (.seq .leaf .leaf) .leaf)) (.seq (.seq .leaf (.blk (.loop [(44, (.int .i64))] (.seq .leaf (.seq (.cond .leaf .leaf) (.seq (.blk (.seq .leaf (.seq .leaf .leaf))) .leaf)))))) (.seq .leaf (.seq .leaf (.seq (.seq .leaf (.blk (.loop [(12, .slice), (13, (.int .i64))] (.seq (.seq .leaf (.cond .leaf .leaf)) (.seq (.blk .leaf) .leaf))))) (.seq .leaf (.seq .leaf .leaf)))))))))))) (argEnv 0 [(Value.slice a0.a a0.len a0.cap), (Value.int .u8 a1)]) [] w (retK Try.prog [.tmp 4] [.one .bool] K) = s_law17_WheelSteps a0 a1 w K := by kernel_rfl
theorem ok_law17_WheelSteps {a0 a1 w K} (h : s_law17_WheelSteps a0 a1 w K) : c_law17_WheelSteps a0 a1 w K :=
  fn_sound pok Try.func8 (fn := Try.f8) (c := bodyOf Try.f8) (nt := 92) (by kernel_rfl) (by kernel_rfl) (rs := [.tmp 4]) (by kernel_rfl) [.one .bool] K (.seq .leaf (.seq (.seq .leaf (.cond (.seq .leaf .leaf) .leaf)) (.seq (.seq .leaf (.cond (.seq .leaf .leaf) .leaf)) (.seq .leaf (.seq .leaf (.seq (.seq .leaf (.cond (.seq .leaf .leaf) .leaf)) (.seq (.seq .leaf (.blk (.loop [(44, (.int .i64))] (.seq .leaf (.seq (.cond .leaf .leaf) (.seq (.blk (.seq .leaf (.seq .leaf .leaf))) .leaf)))))) (.seq .leaf (.seq .leaf (.seq (.seq .leaf (.blk (.loop [(12, .slice), (13, (.int .i64))] (.seq (.seq .leaf (.cond .leaf .leaf)) (.seq (.blk .leaf) .leaf))))) (.seq .leaf (.seq .leaf .leaf)))))))))))) [(Value.slice a0.a a0.len a0.cap), (Value.int .u8 a1)] (by kernel_rfl) w ((e_law17_WheelSteps a0 a1 w K).mpr h)

/-- goosepond/goosepondlaw17.awake -/
def s_law17_awake  (w : World) (K : Bool → World → Prop) : Prop :=
 (c_wheel_New 9 w fun r1 r2 w3 =>
 let J4 : Bool → World → Prop := fun j5 w6 =>
 ((bif j5 then
 K false w6
 else
 let J7 : Bool → World → Prop := fun j8 w9 =>
 (K j8 w9)
 c_wheel_Wheel_Advance r1 5 w6 fun r10 w11 =>
 Al w11 (.cells ⟨[(Value.int .i64 2), (Value.int .i64 1)]⟩ 3) fun a13 w12 =>
 c_slices_Equal_int_int r10 ⟨(some a13), 2, 2⟩ w12 fun r14 w15 =>
 (bif r14 then
 c_wheel_Wheel_Len r1 w15 fun r16 w17 =>
 J7 (r16 == 0) w17
 else
 J7 false w15)))
 (bif (Option.isNone r1) then
 J4 true w3
 else
 (bif (r2 != 0) then
 J4 true w3
 else
 c_wheel_Wheel_Arm r1 1 5 w3 fun r18 w19 =>
 (bif (r18 != 0) then
 J4 true w19
 else
 c_wheel_Wheel_Arm r1 2 3 w19 fun r20 w21 =>
 J4 (r20 != 0) w21))))
theorem e_law17_awake  (w : World) (K : Bool → World → Prop) : den Try.prog 32 (bodyOf Try.f27) none (.seq .leaf (.seq .leaf (.seq (.seq .leaf (.cond (.seq .leaf .leaf) .leaf)) (.seq .leaf .leaf)))) (argEnv 0 []) [] w (retK Try.prog [.tmp 0] [.one .bool] K) = s_law17_awake  w K := by kernel_rfl
theorem ok_law17_awake { w K} (h : s_law17_awake  w K) : c_law17_awake  w K :=
  fn_sound pok Try.func27 (fn := Try.f27) (c := bodyOf Try.f27) (nt := 32) (by kernel_rfl) (by kernel_rfl) (rs := [.tmp 0]) (by kernel_rfl) [.one .bool] K (.seq .leaf (.seq .leaf (.seq (.seq .leaf (.cond (.seq .leaf .leaf) .leaf)) (.seq .leaf .leaf)))) [] (by kernel_rfl) w ((e_law17_awake  w K).mpr h)

/-- goosepond/wheel.New -/
def s_wheel_New (a0 : Int) (w : World) (K : (Option Addr) → Int → World → Prop) : Prop :=
 (let J2 : Bool → Prop := fun j3 =>
 ((bif j3 then
 K none 1 w
 else
 Al w (.map #[] 0) fun a5 w4 =>
 Al w4 (.cells ⟨(List.replicate 448 (Value.slice none 0 0) ++ ([(Value.map (some w.heap.size)), (Value.int .i64 0), (Value.int .i64 0), (Value.int .i64 a0)]))⟩ 106) fun a7 w6 =>
 K (some a7) 0 w6))
 (bif (decide (a0 < 0)) then
 J2 true
 else
 J2 (decide (a0 > 1048576))))
theorem e_wheel_New (a0 : Int) (w : World) (K : (Option Addr) → Int → World → Prop) : den Try.prog 14 (bodyOf Try.f28) none (.seq .leaf (.seq (.seq .leaf (.cond (.seq .leaf .leaf) .leaf)) (.seq .leaf .leaf))) (argEnv 0 [(Value.int .i64 a0)]) [] w (retK Try.prog [.tmp 2, .tmp 3] [.one .ptr, .one (.int .i64)] K) = s_wheel_New a0 w K := by kernel_rfl
theorem ok_wheel_New {a0 w K} (h : s_wheel_New a0 w K) : c_wheel_New a0 w K :=
  fn_sound pok Try.func28 (fn := Try.f28) (c := bodyOf Try.f28) (nt := 14) (by kernel_rfl) (by kernel_rfl) (rs := [.tmp 2, .tmp 3]) (by kernel_rfl) [.one .ptr, .one (.int .i64)] K (.seq .leaf (.seq (.seq .leaf (.cond (.seq .leaf .leaf) .leaf)) (.seq .leaf .leaf))) [(Value.int .i64 a0)] (by kernel_rfl) w ((e_wheel_New a0 w K).mpr h)

/-- (*goosepond/wheel.Wheel).Arm -/
def s_wheel_Wheel_Arm (a0 : Option Addr) (a1 : Int) (a2 : Int) (w : World) (K : Int → World → Prop) : Prop :=
 (c_wheel_Wheel_ready a0 w fun r4 w5 =>
 (bif (!r4) then
 K 2 w5
 else
 let J6 : Bool → Prop := fun j7 =>
 ((bif j7 then
 K 1 w5
 else
 ∃ a8 : Addr, a0 = some a8 ∧
 Ld .map w5 (a8.add 448) fun x9 =>
 MapGetV Try.prog 3 x9 (Value.int .i64 a1) (Value.agg ⟨[(Value.int .i64 0), (Value.int .i64 0), (Value.int .i64 0)]⟩) w5 fun v10 b11 =>
 ∃ r12 : Int, ∃ r13 : Int, ∃ r14 : Int, v10 = (Value.agg ⟨[(Value.int .i64 r12), (Value.int .i64 r13), (Value.int .i64 r14)]⟩) ∧
 Al w5 (.cells ⟨[(Value.int .i64 0), (Value.int .i64 0), (Value.int .i64 0)]⟩ 108) fun a16 w15 =>
 StN [(Value.int .i64 r12), (Value.int .i64 r13), (Value.int .i64 r14)] w15 a16 0 fun w17 =>
 let J18 : Bool → World → Prop := fun j19 w20 =>
 ((bif j19 then
 K 7 w20
 else
 let J21 : World → Prop := fun w22 =>
 (∃ a23 : Addr, a0 = some a23 ∧
 Ld (.int .i64) w22 (a23.add 450) fun x24 =>
 ∃ a25 : Addr, a0 = some a25 ∧
 St w22 (a25.add 450) (Value.int .i64 (IntKind.i64.wrap (x24 + 1))) fun w26 =>
 ∃ a27 : Addr, a0 = some a27 ∧
 Ld (.int .i64) w26.drew (a27.add 449) fun x28 =>
 ∃ a29 : Addr, a0 = some a29 ∧
 Ld (.int .i64) w26.drew (a29.add 450) fun x30 =>
 Al w26.drew (.cells ⟨[(Value.int .i64 0), (Value.int .i64 0), (Value.int .i64 0)]⟩ 108) fun a32 w31 =>
 w31.cell? (a29.add 450) = some (Value.int .i64 x30) ∧
 w31.cell? (a27.add 449) = some (Value.int .i64 x28) ∧
 StN [(Value.int .i64 a1), (Value.int .i64 (if x28 > a2 then x28 else a2)), (Value.int .i64 x30)] w31 a32 0 fun w33 =>
 ∃ a34 : Addr, a0 = some a34 ∧
 Ld .map w33.drew (a34.add 448) fun x35 =>
 Ld (.int .i64) w33.drew (a32.add 0) fun x36 =>
 Ld (.int .i64) w33.drew (a32.add 1) fun x37 =>
 Ld (.int .i64) w33.drew (a32.add 2) fun x38 =>
 MapSet Try.prog 3 x35 (Value.int .i64 a1) (Value.agg ⟨[(Value.int .i64 x36), (Value.int .i64 x37), (Value.int .i64 x38)]⟩) w33.drew fun w39 =>
 Ld (.int .i64) w39 (a32.add 0) fun x40 =>
 Ld (.int .i64) w39 (a32.add 1) fun x41 =>
 Ld (.int .i64) w39 (a32.add 2) fun x42 =>
 c_wheel_Wheel_put a0 x40 x41 x42 w39 fun w43 =>
 K 0 w43)
 (bif b11 then
 Ld (.int .i64) w20 (a16.add 0) fun x44 =>
 Ld (.int .i64) w20 (a16.add 1) fun x45 =>
 Ld (.int .i64) w20 (a16.add 2) fun x46 =>
 c_wheel_Wheel_take a0 x44 x45 x46 w20 fun w47 =>
 J21 w47
 else
 J21 w20)))
 (bif (!b11) then
 ∃ a48 : Addr, a0 = some a48 ∧
 Ld .map w17.drew (a48.add 448) fun x49 =>
 ∃ a50 : Addr, a0 = some a50 ∧
 Ld (.int .i64) w17.drew (a50.add 451) fun x51 =>
 MapLen w17.drew x49 fun n52 =>
 w17.drew.cell? (a50.add 451) = some (Value.int .i64 x51) ∧
 J18 (decide (n52 ≥ x51)) w17.drew
 else
 J18 false w17.drew)))
 (bif (decide (a1 < 0)) then
 J6 (decide (a1 < 0))
 else
 (bif (decide (a1 > 2147483648)) then
 J6 (decide (a1 > 2147483648))
 else
 (bif (decide (a2 < 0)) then
 J6 (decide (a2 < 0))
 else
 J6 (decide (a2 > 1099511627776)))))))
theorem e_wheel_Wheel_Arm (a0 : Option Addr) (a1 : Int) (a2 : Int) (w : World) (K : Int → World → Prop) : den Try.prog 78 (bodyOf Try.f29) none (.seq .leaf (.seq (.blk (.seq .leaf (.cond (.seq .leaf .leaf) (.seq (.seq .leaf (.cond .leaf (.seq .leaf (.cond .leaf (.seq .leaf (.cond .leaf .leaf)))))) (.cond (.seq .leaf .leaf) .leaf))))) (.seq .leaf (.seq (.seq .leaf (.cond (.seq .leaf .leaf) .leaf)) (.seq (.seq .leaf (.cond .leaf .leaf)) (.seq .leaf (.seq .leaf (.seq .leaf (.seq .leaf (.seq .leaf .leaf)))))))))) (argEnv 0 [(Value.pointer a0), (Value.int .i64 a1), (Value.int .i64 a2)]) [] w (retK Try.prog [.tmp 6] [.one (.int .i64)] K) = s_wheel_Wheel_Arm a0 a1 a2 w K := by kernel_rfl
theorem ok_wheel_Wheel_Arm {a0 a1 a2 w K} (h : s_wheel_Wheel_Arm a0 a1 a2 w K) : c_wheel_Wheel_Arm a0 a1 a2 w K :=
  fn_sound pok Try.func29 (fn := Try.f29) (c := bodyOf Try.f29) (nt := 78) (by kernel_rfl) (by kernel_rfl) (rs := [.tmp 6]) (by kernel_rfl) [.one (.int .i64)] K (.seq .leaf (.seq (.blk (.seq .leaf (.cond (.seq .leaf .leaf) (.seq (.seq .leaf (.cond .leaf (.seq .leaf (.cond .leaf (.seq .leaf (.cond .leaf .leaf)))))) (.cond (.seq .leaf .leaf) .leaf))))) (.seq .leaf (.seq (.seq .leaf (.cond (.seq .leaf .leaf) .leaf)) (.seq (.seq .leaf (.cond .leaf .leaf)) (.seq .leaf (.seq .leaf (.seq .leaf (.seq .leaf (.seq .leaf .leaf)))))))))) [(Value.pointer a0), (Value.int .i64 a1), (Value.int .i64 a2)] (by kernel_rfl) w ((e_wheel_Wheel_Arm a0 a1 a2 w K).mpr h)

/-- (*goosepond/wheel.Wheel).Advance -/
def s_wheel_Wheel_Advance (a0 : Option Addr) (a1 : Int) (w : World) (K : SliceV → World → Prop) : Prop :=
 (c_wheel_Wheel_ready a0 w fun r3 w4 =>
 (bif (!r3) then
 K ⟨none, 0, 0⟩ w4
 else
 ∃ a5 : Addr, a0 = some a5 ∧
 Ld (.int .i64) w4 (a5.add 449) fun x6 =>
 LoopP (S := SliceV × Unit) (fun s7 w8 next9 =>
 c_wheel_Wheel_next a0 w8 fun r10 r11 w12 =>
 let J13 : Bool → Prop := fun j14 =>
 ((bif j14 then
 c_wheel_Wheel_turnTo a0 (if (if (1099511627776 : Int) < a1 then 1099511627776 else a1) > x6 then (if (1099511627776 : Int) < a1 then 1099511627776 else a1) else x6) w12 fun w15 =>
 K s7.1 w15
 else
 c_wheel_Wheel_turnTo a0 r10 w12 fun w16 =>
 c_wheel_Wheel_due a0 w16 fun r17 w18 =>
 AppSl 3 1 8 [(Value.int .i64 0)] s7.1 r17 w18 fun s19 w20 =>
 next9 (s19, ()) w20))
 (bif (!r11) then
 J13 true
 else
 J13 (decide (r10 > (if (if (1099511627776 : Int) < a1 then 1099511627776 else a1) > x6 then (if (1099511627776 : Int) < a1 then 1099511627776 else a1) else x6))))) (⟨none, 0, 0⟩, ()) w4))
theorem e_wheel_Wheel_Advance (a0 : Option Addr) (a1 : Int) (w : World) (K : SliceV → World → Prop) : den Try.prog 41 (bodyOf Try.f30) none (.seq .leaf (.seq (.seq .leaf (.cond (.seq .leaf .leaf) .leaf)) (.seq .leaf (.seq .leaf (.seq .leaf (.seq (.blk (.loop [(5, .slice)] (.blk (.seq .leaf (.seq (.seq .leaf (.cond .leaf .leaf)) (.seq .leaf .leaf)))))) (.seq .leaf (.seq .leaf .leaf)))))))) (argEnv 0 [(Value.pointer a0), (Value.int .i64 a1)]) [] w (retK Try.prog [.tmp 4] [.one .slice] K) = s_wheel_Wheel_Advance a0 a1 w K := by kernel_rfl
theorem ok_wheel_Wheel_Advance {a0 a1 w K} (h : s_wheel_Wheel_Advance a0 a1 w K) : c_wheel_Wheel_Advance a0 a1 w K :=
  fn_sound pok Try.func30 (fn := Try.f30) (c := bodyOf Try.f30) (nt := 41) (by kernel_rfl) (by kernel_rfl) (rs := [.tmp 4]) (by kernel_rfl) [.one .slice] K (.seq .leaf (.seq (.seq .leaf (.cond (.seq .leaf .leaf) .leaf)) (.seq .leaf (.seq .leaf (.seq .leaf (.seq (.blk (.loop [(5, .slice)] (.blk (.seq .leaf (.seq (.seq .leaf (.cond .leaf .leaf)) (.seq .leaf .leaf)))))) (.seq .leaf (.seq .leaf .leaf)))))))) [(Value.pointer a0), (Value.int .i64 a1)] (by kernel_rfl) w ((e_wheel_Wheel_Advance a0 a1 w K).mpr h)

/-- slices.Equal[[]int,int] -/
def s_slices_Equal_int_int (a0 : SliceV) (a1 : SliceV) (w : World) (K : Bool → World → Prop) : Prop :=
 ((bif ((a0.len : Int) != (a1.len : Int)) then
 K false w
 else
 LoopP (S := Int × Unit) (fun s3 w4 next5 =>
 (bif (decide (s3.1 < (a0.len : Int))) then
 AtIx a0 1 s3.1 fun a6 =>
 Ld (.int .i64) w4.drew a6 fun x7 =>
 AtIx a1 1 s3.1 fun a8 =>
 Ld (.int .i64) w4.drew a8 fun x9 =>
 (bif (x7 != x9) then
 K false w4.drew
 else
 next5 ((IntKind.i64.wrap (s3.1 + 1)), ()) w4.drew)
 else
 K true w4)) (0, ()) w))
theorem e_slices_Equal_int_int (a0 : SliceV) (a1 : SliceV) (w : World) (K : Bool → World → Prop) : den Try.prog 26 (bodyOf Try.f31) none (.seq .leaf (.seq (.seq .leaf (.cond (.seq .leaf .leaf) .leaf)) (.seq (.seq .leaf (.blk (.loop [(13, (.int .i64))] (.seq .leaf (.seq (.cond .leaf .leaf) (.seq (.blk (.seq .leaf (.seq .leaf (.cond (.seq .leaf .leaf) .leaf)))) .leaf)))))) (.seq .leaf .leaf)))) (argEnv 0 [(Value.slice a0.a a0.len a0.cap), (Value.slice a1.a a1.len a1.cap)]) [] w (retK Try.prog [.tmp 4] [.one .bool] K) = s_slices_Equal_int_int a0 a1 w K := by kernel_rfl
theorem ok_slices_Equal_int_int {a0 a1 w K} (h : s_slices_Equal_int_int a0 a1 w K) : c_slices_Equal_int_int a0 a1 w K :=
  fn_sound pok Try.func31 (fn := Try.f31) (c := bodyOf Try.f31) (nt := 26) (by kernel_rfl) (by kernel_rfl) (rs := [.tmp 4]) (by kernel_rfl) [.one .bool] K (.seq .leaf (.seq (.seq .leaf (.cond (.seq .leaf .leaf) .leaf)) (.seq (.seq .leaf (.blk (.loop [(13, (.int .i64))] (.seq .leaf (.seq (.cond .leaf .leaf) (.seq (.blk (.seq .leaf (.seq .leaf (.cond (.seq .leaf .leaf) .leaf)))) .leaf)))))) (.seq .leaf .leaf)))) [(Value.slice a0.a a0.len a0.cap), (Value.slice a1.a a1.len a1.cap)] (by kernel_rfl) w ((e_slices_Equal_int_int a0 a1 w K).mpr h)

/-- (*goosepond/wheel.Wheel).Len -/
def s_wheel_Wheel_Len (a0 : Option Addr) (w : World) (K : Int → World → Prop) : Prop :=
 (c_wheel_Wheel_ready a0 w fun r2 w3 =>
 (bif (!r2) then
 K 0 w3
 else
 ∃ a4 : Addr, a0 = some a4 ∧
 Ld .map w3 (a4.add 448) fun x5 =>
 MapLen w3 x5 fun n6 =>
 K n6 w3))
theorem e_wheel_Wheel_Len (a0 : Option Addr) (w : World) (K : Int → World → Prop) : den Try.prog 11 (bodyOf Try.f62) none (.seq .leaf (.seq (.seq .leaf (.cond (.seq .leaf .leaf) .leaf)) (.seq .leaf .leaf))) (argEnv 0 [(Value.pointer a0)]) [] w (retK Try.prog [.tmp 2] [.one (.int .i64)] K) = s_wheel_Wheel_Len a0 w K := by kernel_rfl
theorem ok_wheel_Wheel_Len {a0 w K} (h : s_wheel_Wheel_Len a0 w K) : c_wheel_Wheel_Len a0 w K :=
  fn_sound pok Try.func62 (fn := Try.f62) (c := bodyOf Try.f62) (nt := 11) (by kernel_rfl) (by kernel_rfl) (rs := [.tmp 2]) (by kernel_rfl) [.one (.int .i64)] K (.seq .leaf (.seq (.seq .leaf (.cond (.seq .leaf .leaf) .leaf)) (.seq .leaf .leaf))) [(Value.pointer a0)] (by kernel_rfl) w ((e_wheel_Wheel_Len a0 w K).mpr h)

/-- (*goosepond/wheel.Wheel).ready -/
def s_wheel_Wheel_ready (a0 : Option Addr) (w : World) (K : Bool → World → Prop) : Prop :=
 (let J2 : Bool → Prop := fun j3 =>
 (K j3 w)
 (bif (!(Option.isNone a0)) then
 ∃ a4 : Addr, a0 = some a4 ∧
 Ld .map w (a4.add 448) fun x5 =>
 J2 (!(Option.isNone x5))
 else
 J2 false))
theorem e_wheel_Wheel_ready (a0 : Option Addr) (w : World) (K : Bool → World → Prop) : den Try.prog 12 (bodyOf Try.f63) none (.seq .leaf (.seq .leaf .leaf)) (argEnv 0 [(Value.pointer a0)]) [] w (retK Try.prog [.tmp 2] [.one .bool] K) = s_wheel_Wheel_ready a0 w K := by kernel_rfl
theorem ok_wheel_Wheel_ready {a0 w K} (h : s_wheel_Wheel_ready a0 w K) : c_wheel_Wheel_ready a0 w K :=
  fn_sound pok Try.func63 (fn := Try.f63) (c := bodyOf Try.f63) (nt := 12) (by kernel_rfl) (by kernel_rfl) (rs := [.tmp 2]) (by kernel_rfl) [.one .bool] K (.seq .leaf (.seq .leaf .leaf)) [(Value.pointer a0)] (by kernel_rfl) w ((e_wheel_Wheel_ready a0 w K).mpr h)

/-- (*goosepond/wheel.Wheel).take -/
def s_wheel_Wheel_take (a0 : Option Addr) (a1_0 : Int) (a1_1 : Int) (a1_2 : Int) (w : World) (K : World → Prop) : Prop :=
 (Al w (.cells ⟨[(Value.int .i64 a1_0), (Value.int .i64 a1_1), (Value.int .i64 a1_2)]⟩ 108) fun a4 w3 =>
 Ld (.int .i64) w3 (a4.add 1) fun x5 =>
 c_wheel_Wheel_slot a0 x5 w3 fun r6 w7 =>
 ∃ a8 : Addr, r6 = some a8 ∧
 Ld .slice w7 a8 fun x9 =>
 c_slices_DeleteFunc_wheel_timer_wheel_timer x9 (Value.func (.func 86) #[] #[(Value.pointer (some a4))]) w7 fun r10 w11 =>
 ∃ a12 : Addr, r6 = some a12 ∧
 St w11 a12 (Value.slice r10.a r10.len r10.cap) fun w13 =>
 K w13)
theorem e_wheel_Wheel_take (a0 : Option Addr) (a1_0 : Int) (a1_1 : Int) (a1_2 : Int) (w : World) (K : World → Prop) : den Try.prog 16 (bodyOf Try.f64) none (.seq .leaf (.seq .leaf .leaf)) (argEnv 0 [(Value.pointer a0), (Value.agg ⟨[(Value.int .i64 a1_0), (Value.int .i64 a1_1), (Value.int .i64 a1_2)]⟩)]) [] w (retK Try.prog [] [] K) = s_wheel_Wheel_take a0 a1_0 a1_1 a1_2 w K := by kernel_rfl
theorem ok_wheel_Wheel_take {a0 a1_0 a1_1 a1_2 w K} (h : s_wheel_Wheel_take a0 a1_0 a1_1 a1_2 w K) : c_wheel_Wheel_take a0 a1_0 a1_1 a1_2 w K :=
  fn_sound pok Try.func64 (fn := Try.f64) (c := bodyOf Try.f64) (nt := 16) (by kernel_rfl) (by kernel_rfl) (rs := []) (by kernel_rfl) [] K (.seq .leaf (.seq .leaf .leaf)) [(Value.pointer a0), (Value.agg ⟨[(Value.int .i64 a1_0), (Value.int .i64 a1_1), (Value.int .i64 a1_2)]⟩)] (by kernel_rfl) w ((e_wheel_Wheel_take a0 a1_0 a1_1 a1_2 w K).mpr h)

/-- (*goosepond/wheel.Wheel).put -/
def s_wheel_Wheel_put (a0 : Option Addr) (a1_0 : Int) (a1_1 : Int) (a1_2 : Int) (w : World) (K : World → Prop) : Prop :=
 (Al w (.cells ⟨[(Value.int .i64 a1_0), (Value.int .i64 a1_1), (Value.int .i64 a1_2)]⟩ 108) fun a4 w3 =>
 Ld (.int .i64) w3 (a4.add 1) fun x5 =>
 c_wheel_Wheel_slot a0 x5 w3 fun r6 w7 =>
 ∃ a8 : Addr, r6 = some a8 ∧
 Ld .slice w7.drew a8 fun x9 =>
 Ld (.int .i64) w7.drew (a4.add 0) fun x10 =>
 Ld (.int .i64) w7.drew (a4.add 1) fun x11 =>
 Ld (.int .i64) w7.drew (a4.add 2) fun x12 =>
 Al w7.drew (.cells ⟨[(Value.int .i64 x10), (Value.int .i64 x11), (Value.int .i64 x12)]⟩ 108) fun a14 w13 =>
 w13.cell? a8 = some (Value.slice x9.a x9.len x9.cap) ∧
 AppSl 108 3 24 [(Value.int .i64 0), (Value.int .i64 0), (Value.int .i64 0)] x9 ⟨(some a14), 1, 1⟩ w13 fun s15 w16 =>
 ∃ a17 : Addr, r6 = some a17 ∧
 St w16 a17 (Value.slice s15.a s15.len s15.cap) fun w18 =>
 K w18)
theorem e_wheel_Wheel_put (a0 : Option Addr) (a1_0 : Int) (a1_1 : Int) (a1_2 : Int) (w : World) (K : World → Prop) : den Try.prog 17 (bodyOf Try.f65) none (.seq .leaf (.seq .leaf .leaf)) (argEnv 0 [(Value.pointer a0), (Value.agg ⟨[(Value.int .i64 a1_0), (Value.int .i64 a1_1), (Value.int .i64 a1_2)]⟩)]) [] w (retK Try.prog [] [] K) = s_wheel_Wheel_put a0 a1_0 a1_1 a1_2 w K := by kernel_rfl
theorem ok_wheel_Wheel_put {a0 a1_0 a1_1 a1_2 w K} (h : s_wheel_Wheel_put a0 a1_0 a1_1 a1_2 w K) : c_wheel_Wheel_put a0 a1_0 a1_1 a1_2 w K :=
  fn_sound pok Try.func65 (fn := Try.f65) (c := bodyOf Try.f65) (nt := 17) (by kernel_rfl) (by kernel_rfl) (rs := []) (by kernel_rfl) [] K (.seq .leaf (.seq .leaf .leaf)) [(Value.pointer a0), (Value.agg ⟨[(Value.int .i64 a1_0), (Value.int .i64 a1_1), (Value.int .i64 a1_2)]⟩)] (by kernel_rfl) w ((e_wheel_Wheel_put a0 a1_0 a1_1 a1_2 w K).mpr h)

/-- (*goosepond/wheel.Wheel).next -/
def s_wheel_Wheel_next (a0 : Option Addr) (w : World) (K : Int → Bool → World → Prop) : Prop :=
 (LoopP (S := Int × Unit) (fun s2 w3 next4 =>
 (bif (decide (s2.1 < 7)) then
 ∃ a5 : Addr, a0 = some a5 ∧
 Ld (.int .i64) w3 (a5.add 449) fun x6 =>
 0 ≤ (IntKind.i64.wrap (6 * s2.1)) ∧
 LoopP (S := Int × Unit) (fun s7 w8 next9 =>
 (bif (decide (s7.1 < 64)) then
 ∃ a10 : Addr, a0 = some a10 ∧
 (0 : Int) ≤ s2.1 ∧ s2.1 < (7 : Int) ∧
 (0 : Int) ≤ s7.1 ∧ s7.1 < (64 : Int) ∧
 Ld .slice w8 ((a10.add (Int.toNat s2.1 * 64)).add (Int.toNat s7.1 * 1)) fun x11 =>
 (bif (decide ((x11.len : Int) > 0)) then
 c_slices_MinFunc_wheel_timer_wheel_timer x11 (Value.func (.func 88) #[] #[]) w8 fun r12 r13 r14 w15 =>
 K r13 true w15
 else
 next9 ((IntKind.i64.wrap (s7.1 + 1)), ()) w8)
 else
 next4 ((IntKind.i64.wrap (s2.1 + 1)), ()) w8)) ((andI .i64 (shrI .i64 x6 (IntKind.i64.wrap (6 * s2.1))) 63), ()) w3
 else
 K 0 false w3)) (0, ()) w)
theorem e_wheel_Wheel_next (a0 : Option Addr) (w : World) (K : Int → Bool → World → Prop) : den Try.prog 39 (bodyOf Try.f66) none (.seq .leaf (.seq (.seq .leaf (.blk (.loop [(8, (.int .i64))] (.seq .leaf (.seq (.cond .leaf .leaf) (.seq (.blk (.seq .leaf (.seq .leaf (.seq .leaf (.blk (.loop [(6, (.int .i64))] (.seq (.seq .leaf (.cond .leaf .leaf)) (.seq (.blk (.seq .leaf (.seq .leaf (.cond (.seq .leaf .leaf) .leaf)))) .leaf)))))))) .leaf)))))) (.seq .leaf .leaf))) (argEnv 0 [(Value.pointer a0)]) [] w (retK Try.prog [.tmp 2, .tmp 3] [.one (.int .i64), .one .bool] K) = s_wheel_Wheel_next a0 w K := by kernel_rfl
theorem ok_wheel_Wheel_next {a0 w K} (h : s_wheel_Wheel_next a0 w K) : c_wheel_Wheel_next a0 w K :=
  fn_sound pok Try.func66 (fn := Try.f66) (c := bodyOf Try.f66) (nt := 39) (by kernel_rfl) (by kernel_rfl) (rs := [.tmp 2, .tmp 3]) (by kernel_rfl) [.one (.int .i64), .one .bool] K (.seq .leaf (.seq (.seq .leaf (.blk (.loop [(8, (.int .i64))] (.seq .leaf (.seq (.cond .leaf .leaf) (.seq (.blk (.seq .leaf (.seq .leaf (.seq .leaf (.blk (.loop [(6, (.int .i64))] (.seq (.seq .leaf (.cond .leaf .leaf)) (.seq (.blk (.seq .leaf (.seq .leaf (.cond (.seq .leaf .leaf) .leaf)))) .leaf)))))))) .leaf)))))) (.seq .leaf .leaf))) [(Value.pointer a0)] (by kernel_rfl) w ((e_wheel_Wheel_next a0 w K).mpr h)

/-- (*goosepond/wheel.Wheel).turnTo -/
def s_wheel_Wheel_turnTo (a0 : Option Addr) (a1 : Int) (w : World) (K : World → Prop) : Prop :=
 (∃ a3 : Addr, a0 = some a3 ∧
 Ld (.int .i64) w (a3.add 449) fun x4 =>
 c_wheel_level x4 a1 w fun r5 w6 =>
 LoopP (S := SliceV × Int × Unit) (fun s7 w8 next9 =>
 (bif (decide (s7.2.1 > 0)) then
 0 ≤ (IntKind.i64.wrap (6 * s7.2.1)) ∧
 ∃ a10 : Addr, a0 = some a10 ∧
 (0 : Int) ≤ s7.2.1 ∧ s7.2.1 < (7 : Int) ∧
 (0 : Int) ≤ (andI .i64 (shrI .i64 a1 (IntKind.i64.wrap (6 * s7.2.1))) 63) ∧ (andI .i64 (shrI .i64 a1 (IntKind.i64.wrap (6 * s7.2.1))) 63) < (64 : Int) ∧
 ∃ a11 : Addr, (some ((a10.add (Int.toNat s7.2.1 * 64)).add (Int.toNat (andI .i64 (shrI .i64 a1 (IntKind.i64.wrap (6 * s7.2.1))) 63) * 1))) = some a11 ∧
 Ld .slice w8.drew a11 fun x12 =>
 AppSl 108 3 24 [(Value.int .i64 0), (Value.int .i64 0), (Value.int .i64 0)] s7.1 x12 w8.drew fun s13 w14 =>
 ∃ a15 : Addr, (some ((a10.add (Int.toNat s7.2.1 * 64)).add (Int.toNat (andI .i64 (shrI .i64 a1 (IntKind.i64.wrap (6 * s7.2.1))) 63) * 1))) = some a15 ∧
 St w14 a15 (Value.slice none 0 0) fun w16 =>
 next9 (s13, (IntKind.i64.wrap (s7.2.1 - 1)), ()) w16
 else
 ∃ a17 : Addr, a0 = some a17 ∧
 St w8 (a17.add 449) (Value.int .i64 a1) fun w18 =>
 LoopP (S := Int × Unit) (fun s19 w20 next21 =>
 (bif (decide (s19.1 < (s7.1.len : Int))) then
 AtIx s7.1 3 s19.1 fun a22 =>
 Ld (.int .i64) w20 (a22.add 0) fun x23 =>
 Ld (.int .i64) w20 (a22.add 1) fun x24 =>
 Ld (.int .i64) w20 (a22.add 2) fun x25 =>
 Al w20 (.cells ⟨[(Value.int .i64 0), (Value.int .i64 0), (Value.int .i64 0)]⟩ 108) fun a27 w26 =>
 StN [(Value.int .i64 x23), (Value.int .i64 x24), (Value.int .i64 x25)] w26 a27 0 fun w28 =>
 Ld (.int .i64) w28 (a27.add 0) fun x29 =>
 Ld (.int .i64) w28 (a27.add 1) fun x30 =>
 Ld (.int .i64) w28 (a27.add 2) fun x31 =>
 c_wheel_Wheel_put a0 x29 x30 x31 w28 fun w32 =>
 next21 ((IntKind.i64.wrap (s19.1 + 1)), ()) w32
 else
 K w20)) (0, ()) w18)) (⟨none, 0, 0⟩, r5, ()) w6)
theorem e_wheel_Wheel_turnTo (a0 : Option Addr) (a1 : Int) (w : World) (K : World → Prop) : den Try.prog 51 (bodyOf Try.f67) none (.seq .leaf (.seq (.seq .leaf (.blk (.loop [(4, .slice), (5, (.int .i64))] (.seq (.seq .leaf (.cond .leaf .leaf)) (.seq (.blk (.seq .leaf (.seq .leaf .leaf))) .leaf))))) (.seq .leaf (.seq .leaf (.blk (.loop [(43, (.int .i64))] (.seq .leaf (.seq (.cond .leaf .leaf) (.seq (.blk (.seq .leaf .leaf)) .leaf))))))))) (argEnv 0 [(Value.pointer a0), (Value.int .i64 a1)]) [] w (retK Try.prog [] [] K) = s_wheel_Wheel_turnTo a0 a1 w K := by kernel_rfl
theorem ok_wheel_Wheel_turnTo {a0 a1 w K} (h : s_wheel_Wheel_turnTo a0 a1 w K) : c_wheel_Wheel_turnTo a0 a1 w K :=
  fn_sound pok Try.func67 (fn := Try.f67) (c := bodyOf Try.f67) (nt := 51) (by kernel_rfl) (by kernel_rfl) (rs := []) (by kernel_rfl) [] K (.seq .leaf (.seq (.seq .leaf (.blk (.loop [(4, .slice), (5, (.int .i64))] (.seq (.seq .leaf (.cond .leaf .leaf)) (.seq (.blk (.seq .leaf (.seq .leaf .leaf))) .leaf))))) (.seq .leaf (.seq .leaf (.blk (.loop [(43, (.int .i64))] (.seq .leaf (.seq (.cond .leaf .leaf) (.seq (.blk (.seq .leaf .leaf)) .leaf))))))))) [(Value.pointer a0), (Value.int .i64 a1)] (by kernel_rfl) w ((e_wheel_Wheel_turnTo a0 a1 w K).mpr h)

/-- (*goosepond/wheel.Wheel).due -/
def s_wheel_Wheel_due (a0 : Option Addr) (w : World) (K : SliceV → World → Prop) : Prop :=
 (isOne (Value.pointer a0) = true ∧
 Al w (.cells ⟨[(Value.pointer a0)]⟩ 48) fun a3 w2 =>
 Ld .ptr w2.drew a3 fun x4 =>
 Ld .ptr w2.drew a3 fun x5 =>
 ∃ a6 : Addr, x5 = some a6 ∧
 Ld (.int .i64) w2.drew (a6.add 449) fun x7 =>
 c_wheel_Wheel_slot x4 x7 w2.drew fun r8 w9 =>
 ∃ a10 : Addr, r8 = some a10 ∧
 Ld .slice w9 a10 fun x11 =>
 c_slices_Clone_wheel_timer_wheel_timer x11 w9 fun r12 w13 =>
 c_slices_DeleteFunc_wheel_timer_wheel_timer r12 (Value.func (.func 91) #[] #[(Value.pointer (some a3))]) w13 fun r14 w15 =>
 ∃ a16 : Addr, r8 = some a16 ∧
 Ld .slice w15 a16 fun x17 =>
 c_slices_DeleteFunc_wheel_timer_wheel_timer x17 (Value.func (.func 92) #[] #[(Value.pointer (some a3))]) w15 fun r18 w19 =>
 ∃ a20 : Addr, r8 = some a20 ∧
 St w19 a20 (Value.slice r18.a r18.len r18.cap) fun w21 =>
 c_slices_SortFunc_wheel_timer_wheel_timer r14 (Value.func (.func 94) #[] #[]) w21 fun w22 =>
 LoopP (S := SliceV × Int × Unit) (fun s23 w24 next25 =>
 (bif (decide (s23.2.1 < (r14.len : Int))) then
 AtIx r14 3 s23.2.1 fun a26 =>
 Ld (.int .i64) w24 (a26.add 0) fun x27 =>
 Ld (.int .i64) w24 (a26.add 1) fun x28 =>
 Ld (.int .i64) w24 (a26.add 2) fun x29 =>
 Al w24 (.cells ⟨[(Value.int .i64 0), (Value.int .i64 0), (Value.int .i64 0)]⟩ 108) fun a31 w30 =>
 StN [(Value.int .i64 x27), (Value.int .i64 x28), (Value.int .i64 x29)] w30 a31 0 fun w32 =>
 Ld .ptr w32.drew a3 fun x33 =>
 ∃ a34 : Addr, x33 = some a34 ∧
 Ld .map w32.drew (a34.add 448) fun x35 =>
 Ld (.int .i64) w32.drew a31 fun x36 =>
 MapDel Try.prog 3 x35 (Value.int .i64 x36) w32.drew fun w37 =>
 Ld (.int .i64) w37 a31 fun x38 =>
 Al w37 (.cells ⟨[(Value.int .i64 x38)]⟩ 3) fun a40 w39 =>
 AppSl 3 1 8 [(Value.int .i64 0)] s23.1 ⟨(some a40), 1, 1⟩ w39 fun s41 w42 =>
 next25 (s41, (IntKind.i64.wrap (s23.2.1 + 1)), ()) w42
 else
 K s23.1 w24)) (⟨none, 0, 0⟩, 0, ()) w22)
theorem e_wheel_Wheel_due (a0 : Option Addr) (w : World) (K : SliceV → World → Prop) : den Try.prog 48 (bodyOf Try.f68) none (.seq .leaf (.seq .leaf (.seq .leaf (.seq .leaf (.seq .leaf (.seq .leaf (.seq (.seq .leaf (.blk (.loop [(5, .slice), (31, (.int .i64))] (.seq .leaf (.seq (.cond .leaf .leaf) (.seq (.blk (.seq .leaf (.seq .leaf .leaf))) .leaf)))))) (.seq .leaf .leaf)))))))) (argEnv 0 [(Value.pointer a0)]) [] w (retK Try.prog [.tmp 2] [.one .slice] K) = s_wheel_Wheel_due a0 w K := by kernel_rfl
theorem ok_wheel_Wheel_due {a0 w K} (h : s_wheel_Wheel_due a0 w K) : c_wheel_Wheel_due a0 w K :=
  fn_sound pok Try.func68 (fn := Try.f68) (c := bodyOf Try.f68) (nt := 48) (by kernel_rfl) (by kernel_rfl) (rs := [.tmp 2]) (by kernel_rfl) [.one .slice] K (.seq .leaf (.seq .leaf (.seq .leaf (.seq .leaf (.seq .leaf (.seq .leaf (.seq (.seq .leaf (.blk (.loop [(5, .slice), (31, (.int .i64))] (.seq .leaf (.seq (.cond .leaf .leaf) (.seq (.blk (.seq .leaf (.seq .leaf .leaf))) .leaf)))))) (.seq .leaf .leaf)))))))) [(Value.pointer a0)] (by kernel_rfl) w ((e_wheel_Wheel_due a0 w K).mpr h)

/-- cmp.Compare[int] -/
def s_cmp_Compare_int (a0 : Int) (a1 : Int) (w : World) (K : Int → World → Prop) : Prop :=
 (c_cmp_isNaN_int a0 w fun r3 w4 =>
 c_cmp_isNaN_int a1 w4 fun r5 w6 =>
 (bif r3 then
 (bif r5 then
 K 0 w6
 else
 K (-1) w6)
 else
 (bif r5 then
 K 1 w6
 else
 (bif (decide (a0 < a1)) then
 K (-1) w6
 else
 (bif (decide (a0 > a1)) then
 K 1 w6
 else
 K 0 w6)))))
theorem e_cmp_Compare_int (a0 : Int) (a1 : Int) (w : World) (K : Int → World → Prop) : den Try.prog 20 (bodyOf Try.f81) none (.seq .leaf (.seq .leaf (.seq .leaf (.seq (.seq .leaf (.cond (.seq (.seq .leaf (.cond (.seq .leaf .leaf) .leaf)) (.seq .leaf .leaf)) .leaf)) (.seq (.seq .leaf (.cond (.seq .leaf .leaf) .leaf)) (.seq (.seq .leaf (.cond (.seq .leaf .leaf) .leaf)) (.seq (.seq .leaf (.cond (.seq .leaf .leaf) .leaf)) (.seq .leaf .leaf)))))))) (argEnv 0 [(Value.int .i64 a0), (Value.int .i64 a1)]) [] w (retK Try.prog [.tmp 4] [.one (.int .i64)] K) = s_cmp_Compare_int a0 a1 w K := by kernel_rfl
theorem ok_cmp_Compare_int {a0 a1 w K} (h : s_cmp_Compare_int a0 a1 w K) : c_cmp_Compare_int a0 a1 w K :=
  fn_sound pok Try.func81 (fn := Try.f81) (c := bodyOf Try.f81) (nt := 20) (by kernel_rfl) (by kernel_rfl) (rs := [.tmp 4]) (by kernel_rfl) [.one (.int .i64)] K (.seq .leaf (.seq .leaf (.seq .leaf (.seq (.seq .leaf (.cond (.seq (.seq .leaf (.cond (.seq .leaf .leaf) .leaf)) (.seq .leaf .leaf)) .leaf)) (.seq (.seq .leaf (.cond (.seq .leaf .leaf) .leaf)) (.seq (.seq .leaf (.cond (.seq .leaf .leaf) .leaf)) (.seq (.seq .leaf (.cond (.seq .leaf .leaf) .leaf)) (.seq .leaf .leaf)))))))) [(Value.int .i64 a0), (Value.int .i64 a1)] (by kernel_rfl) w ((e_cmp_Compare_int a0 a1 w K).mpr h)

/-- (*goosepond/wheel.Wheel).slot -/
def s_wheel_Wheel_slot (a0 : Option Addr) (a1 : Int) (w : World) (K : (Option Addr) → World → Prop) : Prop :=
 (∃ a3 : Addr, a0 = some a3 ∧
 Ld (.int .i64) w (a3.add 449) fun x4 =>
 c_wheel_level x4 a1 w fun r5 w6 =>
 0 ≤ (IntKind.i64.wrap (6 * r5)) ∧
 ∃ a7 : Addr, a0 = some a7 ∧
 (0 : Int) ≤ r5 ∧ r5 < (7 : Int) ∧
 (0 : Int) ≤ (andI .i64 (shrI .i64 a1 (IntKind.i64.wrap (6 * r5))) 63) ∧ (andI .i64 (shrI .i64 a1 (IntKind.i64.wrap (6 * r5))) 63) < (64 : Int) ∧
 K (some ((a7.add (Int.toNat r5 * 64)).add (Int.toNat (andI .i64 (shrI .i64 a1 (IntKind.i64.wrap (6 * r5))) 63) * 1))) w6.drew)
theorem e_wheel_Wheel_slot (a0 : Option Addr) (a1 : Int) (w : World) (K : (Option Addr) → World → Prop) : den Try.prog 23 (bodyOf Try.f84) none (.seq .leaf (.seq .leaf (.seq .leaf .leaf))) (argEnv 0 [(Value.pointer a0), (Value.int .i64 a1)]) [] w (retK Try.prog [.tmp 4] [.one .ptr] K) = s_wheel_Wheel_slot a0 a1 w K := by kernel_rfl
theorem ok_wheel_Wheel_slot {a0 a1 w K} (h : s_wheel_Wheel_slot a0 a1 w K) : c_wheel_Wheel_slot a0 a1 w K :=
  fn_sound pok Try.func84 (fn := Try.f84) (c := bodyOf Try.f84) (nt := 23) (by kernel_rfl) (by kernel_rfl) (rs := [.tmp 4]) (by kernel_rfl) [.one .ptr] K (.seq .leaf (.seq .leaf (.seq .leaf .leaf))) [(Value.pointer a0), (Value.int .i64 a1)] (by kernel_rfl) w ((e_wheel_Wheel_slot a0 a1 w K).mpr h)

/-- slices.DeleteFunc[[]goosepond/wheel.timer,goosepond/wheel.timer] -/
def s_slices_DeleteFunc_wheel_timer_wheel_timer (a0 : SliceV) (a1 : Value) (w : World) (K : SliceV → World → Prop) : Prop :=
 (c_slices_IndexFunc_wheel_timer_wheel_timer a0 a1 w fun r3 w4 =>
 (bif (r3 == (-1)) then
 K a0 w4
 else
 LoopP (S := Int × Int × Unit) (fun s5 w6 next7 =>
 (bif (decide (s5.2.1 < (a0.len : Int))) then
 let J8 : Int → World → Prop := fun j9 w10 =>
 (next7 (j9, (IntKind.i64.wrap (s5.2.1 + 1)), ()) w10)
 AtIx a0 3 s5.2.1 fun a11 =>
 Ld (.int .i64) w6 (a11.add 0) fun x12 =>
 Ld (.int .i64) w6 (a11.add 1) fun x13 =>
 Ld (.int .i64) w6 (a11.add 2) fun x14 =>
 Al w6 (.cells ⟨[(Value.int .i64 0), (Value.int .i64 0), (Value.int .i64 0)]⟩ 108) fun a16 w15 =>
 StN [(Value.int .i64 x12), (Value.int .i64 x13), (Value.int .i64 x14)] w15 a16 0 fun w17 =>
 Ld (.int .i64) w17 (a16.add 0) fun x18 =>
 Ld (.int .i64) w17 (a16.add 1) fun x19 =>
 Ld (.int .i64) w17 (a16.add 2) fun x20 =>
 CallV Try.prog [.one .bool] a1 [(Value.agg ⟨[(Value.int .i64 x18), (Value.int .i64 x19), (Value.int .i64 x20)]⟩)] w17 fun r21 w22 =>
 ∃ r23 : Bool, r21 = (Value.bool r23) ∧
 (bif (!r23) then
 Ld (.int .i64) w22 (a16.add 0) fun x24 =>
 Ld (.int .i64) w22 (a16.add 1) fun x25 =>
 Ld (.int .i64) w22 (a16.add 2) fun x26 =>
 AtIx a0 3 s5.1 fun a27 =>
 StN [(Value.int .i64 x24), (Value.int .i64 x25), (Value.int .i64 x26)] w22 a27 0 fun w28 =>
 J8 (IntKind.i64.wrap (s5.1 + 1)) w28
 else
 J8 s5.1 w22)
 else
 SubSl a0 3 s5.1 (a0.len : Int) fun s29 =>
 ClearSl [(Value.int .i64 0), (Value.int .i64 0), (Value.int .i64 0)] s29 w6 fun w30 =>
 SubSl a0 3 0 s5.1 fun s31 =>
 K s31 w30)) (r3, (IntKind.i64.wrap (r3 + 1)), ()) w4))
theorem e_slices_DeleteFunc_wheel_timer_wheel_timer (a0 : SliceV) (a1 : Value) (w : World) (K : SliceV → World → Prop) : den Try.prog 42 (bodyOf Try.f85) none (.seq .leaf (.seq .leaf (.seq (.seq .leaf (.cond (.seq .leaf .leaf) .leaf)) (.seq (.seq .leaf (.blk (.loop [(5, (.int .i64)), (6, (.int .i64))] (.seq (.seq .leaf (.cond .leaf .leaf)) (.seq (.blk (.seq .leaf (.seq .leaf (.cond (.seq .leaf .leaf) .leaf)))) .leaf))))) (.seq .leaf (.seq .leaf .leaf)))))) (argEnv 0 [(Value.slice a0.a a0.len a0.cap), a1]) [] w (retK Try.prog [.tmp 4] [.one .slice] K) = s_slices_DeleteFunc_wheel_timer_wheel_timer a0 a1 w K := by kernel_rfl
theorem ok_slices_DeleteFunc_wheel_timer_wheel_timer {a0 a1 w K} (h : s_slices_DeleteFunc_wheel_timer_wheel_timer a0 a1 w K) : c_slices_DeleteFunc_wheel_timer_wheel_timer a0 a1 w K :=
  fn_sound pok Try.func85 (fn := Try.f85) (c := bodyOf Try.f85) (nt := 42) (by kernel_rfl) (by kernel_rfl) (rs := [.tmp 4]) (by kernel_rfl) [.one .slice] K (.seq .leaf (.seq .leaf (.seq (.seq .leaf (.cond (.seq .leaf .leaf) .leaf)) (.seq (.seq .leaf (.blk (.loop [(5, (.int .i64)), (6, (.int .i64))] (.seq (.seq .leaf (.cond .leaf .leaf)) (.seq (.blk (.seq .leaf (.seq .leaf (.cond (.seq .leaf .leaf) .leaf)))) .leaf))))) (.seq .leaf (.seq .leaf .leaf)))))) [(Value.slice a0.a a0.len a0.cap), a1] (by kernel_rfl) w ((e_slices_DeleteFunc_wheel_timer_wheel_timer a0 a1 w K).mpr h)

/-- (*goosepond/wheel.Wheel).take$1 -/
def s_wheel_Wheel_take_1 (a0_0 : Int) (a0_1 : Int) (a0_2 : Int) (f0 : Addr) (w : World) (K : Bool → World → Prop) : Prop :=
 (Al w (.cells ⟨[(Value.int .i64 a0_0), (Value.int .i64 a0_1), (Value.int .i64 a0_2)]⟩ 108) fun a3 w2 =>
 Ld (.int .i64) w2 a3 fun x4 =>
 Ld (.int .i64) w2 f0 fun x5 =>
 K (x4 == x5) w2)
theorem e_wheel_Wheel_take_1 (a0_0 : Int) (a0_1 : Int) (a0_2 : Int) (f0 : Addr) (w : World) (K : Bool → World → Prop) : den Try.prog 9 (bodyOf Try.f86) none (.seq .leaf (.seq .leaf .leaf)) (argEnv 0 [(Value.agg ⟨[(Value.int .i64 a0_0), (Value.int .i64 a0_1), (Value.int .i64 a0_2)]⟩), (Value.pointer (some f0))]) [] w (retK Try.prog [.tmp 3] [.one .bool] K) = s_wheel_Wheel_take_1 a0_0 a0_1 a0_2 f0 w K := by kernel_rfl
theorem ok_wheel_Wheel_take_1 {a0_0 a0_1 a0_2 f0 w K} (h : s_wheel_Wheel_take_1 a0_0 a0_1 a0_2 f0 w K) : c_wheel_Wheel_take_1 a0_0 a0_1 a0_2 f0 w K :=
  fn_sound pok Try.func86 (fn := Try.f86) (c := bodyOf Try.f86) (nt := 9) (by kernel_rfl) (by kernel_rfl) (rs := [.tmp 3]) (by kernel_rfl) [.one .bool] K (.seq .leaf (.seq .leaf .leaf)) [(Value.agg ⟨[(Value.int .i64 a0_0), (Value.int .i64 a0_1), (Value.int .i64 a0_2)]⟩), (Value.pointer (some f0))] (by kernel_rfl) w ((e_wheel_Wheel_take_1 a0_0 a0_1 a0_2 f0 w K).mpr h)

/-- slices.MinFunc[[]goosepond/wheel.timer,goosepond/wheel.timer] -/
def s_slices_MinFunc_wheel_timer_wheel_timer (a0 : SliceV) (a1 : Value) (w : World) (K : Int → Int → Int → World → Prop) : Prop :=
 (Al w (.cells ⟨[(Value.int .i64 0), (Value.int .i64 0), (Value.int .i64 0)]⟩ 108) fun a4 w3 =>
 (bif (decide ((a0.len : Int) < 1)) then
 False
 else
 AtIx a0 3 0 fun a5 =>
 Ld (.int .i64) w3 (a5.add 0) fun x6 =>
 Ld (.int .i64) w3 (a5.add 1) fun x7 =>
 Ld (.int .i64) w3 (a5.add 2) fun x8 =>
 Al w3 (.cells ⟨[(Value.int .i64 0), (Value.int .i64 0), (Value.int .i64 0)]⟩ 108) fun a10 w9 =>
 StN [(Value.int .i64 x6), (Value.int .i64 x7), (Value.int .i64 x8)] w9 a10 0 fun w11 =>
 LoopP (S := Int × Unit) (fun s12 w13 next14 =>
 (bif (decide (s12.1 < (a0.len : Int))) then
 let J15 : World → Prop := fun w16 =>
 (next14 ((IntKind.i64.wrap (s12.1 + 1)), ()) w16)
 AtIx a0 3 s12.1 fun a17 =>
 Ld (.int .i64) w13.drew (a17.add 0) fun x18 =>
 Ld (.int .i64) w13.drew (a17.add 1) fun x19 =>
 Ld (.int .i64) w13.drew (a17.add 2) fun x20 =>
 Ld (.int .i64) w13.drew (a10.add 0) fun x21 =>
 Ld (.int .i64) w13.drew (a10.add 1) fun x22 =>
 Ld (.int .i64) w13.drew (a10.add 2) fun x23 =>
 CallV Try.prog [.one (.int .i64)] a1 [(Value.agg ⟨[(Value.int .i64 x18), (Value.int .i64 x19), (Value.int .i64 x20)]⟩), (Value.agg ⟨[(Value.int .i64 x21), (Value.int .i64 x22), (Value.int .i64 x23)]⟩)] w13.drew fun r24 w25 =>
 ∃ r26 : Int, r24 = (Value.int .i64 r26) ∧
 (bif (decide (r26 < 0)) then
 AtIx a0 3 s12.1 fun a27 =>
 Ld (.int .i64) w25 (a27.add 0) fun x28 =>
 Ld (.int .i64) w25 (a27.add 1) fun x29 =>
 Ld (.int .i64) w25 (a27.add 2) fun x30 =>
 StN [(Value.int .i64 x28), (Value.int .i64 x29), (Value.int .i64 x30)] w25 a10 0 fun w31 =>
 J15 w31
 else
 J15 w25)
 else
 Ld (.int .i64) w13 (a10.add 0) fun x32 =>
 Ld (.int .i64) w13 (a10.add 1) fun x33 =>
 Ld (.int .i64) w13 (a10.add 2) fun x34 =>
 StN [(Value.int .i64 x32), (Value.int .i64 x33), (Value.int .i64 x34)] w13 a4 0 fun w35 =>
 Ld (.int .i64) w35 (a4.add 0) fun y36 =>
 Ld (.int .i64) w35 (a4.add 1) fun y37 =>
 Ld (.int .i64) w35 (a4.add 2) fun y38 =>
 K y36 y37 y38 w35)) (1, ()) w11))
theorem e_slices_MinFunc_wheel_timer_wheel_timer (a0 : SliceV) (a1 : Value) (w : World) (K : Int → Int → Int → World → Prop) : den Try.prog 33 (bodyOf Try.f87) none (.seq .leaf (.seq (.seq .leaf (.cond .leaf .leaf)) (.seq .leaf (.seq (.seq .leaf (.blk (.loop [(6, (.int .i64))] (.seq (.seq .leaf (.cond .leaf .leaf)) (.seq (.blk (.seq .leaf (.cond .leaf .leaf))) .leaf))))) (.seq .leaf .leaf))))) (argEnv 0 [(Value.slice a0.a a0.len a0.cap), a1]) [] w (retK Try.prog [.cell 4 108] [.agg [(.int .i64), (.int .i64), (.int .i64)]] K) = s_slices_MinFunc_wheel_timer_wheel_timer a0 a1 w K := by kernel_rfl
theorem ok_slices_MinFunc_wheel_timer_wheel_timer {a0 a1 w K} (h : s_slices_MinFunc_wheel_timer_wheel_timer a0 a1 w K) : c_slices_MinFunc_wheel_timer_wheel_timer a0 a1 w K :=
  fn_sound pok Try.func87 (fn := Try.f87) (c := bodyOf Try.f87) (nt := 33) (by kernel_rfl) (by kernel_rfl) (rs := [.cell 4 108]) (by kernel_rfl) [.agg [(.int .i64), (.int .i64), (.int .i64)]] K (.seq .leaf (.seq (.seq .leaf (.cond .leaf .leaf)) (.seq .leaf (.seq (.seq .leaf (.blk (.loop [(6, (.int .i64))] (.seq (.seq .leaf (.cond .leaf .leaf)) (.seq (.blk (.seq .leaf (.cond .leaf .leaf))) .leaf))))) (.seq .leaf .leaf))))) [(Value.slice a0.a a0.len a0.cap), a1] (by kernel_rfl) w ((e_slices_MinFunc_wheel_timer_wheel_timer a0 a1 w K).mpr h)

/-- (*goosepond/wheel.Wheel).next$1 -/
def s_wheel_Wheel_next_1 (a0_0 : Int) (a0_1 : Int) (a0_2 : Int) (a1_0 : Int) (a1_1 : Int) (a1_2 : Int) (w : World) (K : Int → World → Prop) : Prop :=
 (Al w (.cells ⟨[(Value.int .i64 a0_0), (Value.int .i64 a0_1), (Value.int .i64 a0_2)]⟩ 108) fun a4 w3 =>
 Al w3 (.cells ⟨[(Value.int .i64 a1_0), (Value.int .i64 a1_1), (Value.int .i64 a1_2)]⟩ 108) fun a6 w5 =>
 Ld (.int .i64) w5 (a4.add 1) fun x7 =>
 Ld (.int .i64) w5 (a6.add 1) fun x8 =>
 c_cmp_Compare_int x7 x8 w5 fun r9 w10 =>
 K r9 w10)
theorem e_wheel_Wheel_next_1 (a0_0 : Int) (a0_1 : Int) (a0_2 : Int) (a1_0 : Int) (a1_1 : Int) (a1_2 : Int) (w : World) (K : Int → World → Prop) : den Try.prog 10 (bodyOf Try.f88) none (.seq .leaf (.seq .leaf .leaf)) (argEnv 0 [(Value.agg ⟨[(Value.int .i64 a0_0), (Value.int .i64 a0_1), (Value.int .i64 a0_2)]⟩), (Value.agg ⟨[(Value.int .i64 a1_0), (Value.int .i64 a1_1), (Value.int .i64 a1_2)]⟩)]) [] w (retK Try.prog [.tmp 4] [.one (.int .i64)] K) = s_wheel_Wheel_next_1 a0_0 a0_1 a0_2 a1_0 a1_1 a1_2 w K := by kernel_rfl
theorem ok_wheel_Wheel_next_1 {a0_0 a0_1 a0_2 a1_0 a1_1 a1_2 w K} (h : s_wheel_Wheel_next_1 a0_0 a0_1 a0_2 a1_0 a1_1 a1_2 w K) : c_wheel_Wheel_next_1 a0_0 a0_1 a0_2 a1_0 a1_1 a1_2 w K :=
  fn_sound pok Try.func88 (fn := Try.f88) (c := bodyOf Try.f88) (nt := 10) (by kernel_rfl) (by kernel_rfl) (rs := [.tmp 4]) (by kernel_rfl) [.one (.int .i64)] K (.seq .leaf (.seq .leaf .leaf)) [(Value.agg ⟨[(Value.int .i64 a0_0), (Value.int .i64 a0_1), (Value.int .i64 a0_2)]⟩), (Value.agg ⟨[(Value.int .i64 a1_0), (Value.int .i64 a1_1), (Value.int .i64 a1_2)]⟩)] (by kernel_rfl) w ((e_wheel_Wheel_next_1 a0_0 a0_1 a0_2 a1_0 a1_1 a1_2 w K).mpr h)

/-- goosepond/wheel.level -/
def s_wheel_level (a0 : Int) (a1 : Int) (w : World) (K : Int → World → Prop) : Prop :=
 (LoopP (S := Int × Int × Unit) (fun s3 w4 next5 =>
 (bif (decide (s3.2.1 ≥ 64)) then
 0 ≤ (6 : Int) ∧
 next5 ((IntKind.i64.wrap (s3.1 + 1)), (shrI .i64 s3.2.1 6), ()) w4
 else
 K s3.1 w4)) (0, (xorI .i64 a0 a1), ()) w)
theorem e_wheel_level (a0 : Int) (a1 : Int) (w : World) (K : Int → World → Prop) : den Try.prog 17 (bodyOf Try.f89) none (.seq .leaf (.seq .leaf (.seq (.seq .leaf (.blk (.loop [(5, (.int .i64)), (6, (.int .i64))] (.seq (.seq .leaf (.cond .leaf .leaf)) (.seq (.blk .leaf) .leaf))))) (.seq .leaf .leaf)))) (argEnv 0 [(Value.int .i64 a0), (Value.int .i64 a1)]) [] w (retK Try.prog [.tmp 4] [.one (.int .i64)] K) = s_wheel_level a0 a1 w K := by kernel_rfl
theorem ok_wheel_level {a0 a1 w K} (h : s_wheel_level a0 a1 w K) : c_wheel_level a0 a1 w K :=
  fn_sound pok Try.func89 (fn := Try.f89) (c := bodyOf Try.f89) (nt := 17) (by kernel_rfl) (by kernel_rfl) (rs := [.tmp 4]) (by kernel_rfl) [.one (.int .i64)] K (.seq .leaf (.seq .leaf (.seq (.seq .leaf (.blk (.loop [(5, (.int .i64)), (6, (.int .i64))] (.seq (.seq .leaf (.cond .leaf .leaf)) (.seq (.blk .leaf) .leaf))))) (.seq .leaf .leaf)))) [(Value.int .i64 a0), (Value.int .i64 a1)] (by kernel_rfl) w ((e_wheel_level a0 a1 w K).mpr h)

/-- slices.Clone[[]goosepond/wheel.timer,goosepond/wheel.timer] -/
def s_slices_Clone_wheel_timer_wheel_timer (a0 : SliceV) (w : World) (K : SliceV → World → Prop) : Prop :=
 ((bif (Option.isNone a0.a) then
 K ⟨none, 0, 0⟩ w
 else
 Al w (.cells ⟨[]⟩ 108) fun a3 w2 =>
 AppSl 108 3 24 [(Value.int .i64 0), (Value.int .i64 0), (Value.int .i64 0)] ⟨(some a3), 0, 0⟩ a0 w2 fun s4 w5 =>
 K s4 w5))
theorem e_slices_Clone_wheel_timer_wheel_timer (a0 : SliceV) (w : World) (K : SliceV → World → Prop) : den Try.prog 8 (bodyOf Try.f90) none (.seq .leaf (.seq (.seq .leaf (.cond (.seq .leaf .leaf) .leaf)) (.seq .leaf .leaf))) (argEnv 0 [(Value.slice a0.a a0.len a0.cap)]) [] w (retK Try.prog [.tmp 2] [.one .slice] K) = s_slices_Clone_wheel_timer_wheel_timer a0 w K := by kernel_rfl
theorem ok_slices_Clone_wheel_timer_wheel_timer {a0 w K} (h : s_slices_Clone_wheel_timer_wheel_timer a0 w K) : c_slices_Clone_wheel_timer_wheel_timer a0 w K :=
  fn_sound pok Try.func90 (fn := Try.f90) (c := bodyOf Try.f90) (nt := 8) (by kernel_rfl) (by kernel_rfl) (rs := [.tmp 2]) (by kernel_rfl) [.one .slice] K (.seq .leaf (.seq (.seq .leaf (.cond (.seq .leaf .leaf) .leaf)) (.seq .leaf .leaf))) [(Value.slice a0.a a0.len a0.cap)] (by kernel_rfl) w ((e_slices_Clone_wheel_timer_wheel_timer a0 w K).mpr h)

/-- (*goosepond/wheel.Wheel).due$1 -/
def s_wheel_Wheel_due_1 (a0_0 : Int) (a0_1 : Int) (a0_2 : Int) (f0 : Addr) (w : World) (K : Bool → World → Prop) : Prop :=
 (Al w (.cells ⟨[(Value.int .i64 a0_0), (Value.int .i64 a0_1), (Value.int .i64 a0_2)]⟩ 108) fun a3 w2 =>
 Ld (.int .i64) w2.drew (a3.add 1) fun x4 =>
 Ld .ptr w2.drew f0 fun x5 =>
 ∃ a6 : Addr, x5 = some a6 ∧
 Ld (.int .i64) w2.drew (a6.add 449) fun x7 =>
 K (x4 != x7) w2.drew)
theorem e_wheel_Wheel_due_1 (a0_0 : Int) (a0_1 : Int) (a0_2 : Int) (f0 : Addr) (w : World) (K : Bool → World → Prop) : den Try.prog 11 (bodyOf Try.f91) none (.seq .leaf (.seq .leaf .leaf)) (argEnv 0 [(Value.agg ⟨[(Value.int .i64 a0_0), (Value.int .i64 a0_1), (Value.int .i64 a0_2)]⟩), (Value.pointer (some f0))]) [] w (retK Try.prog [.tmp 3] [.one .bool] K) = s_wheel_Wheel_due_1 a0_0 a0_1 a0_2 f0 w K := by kernel_rfl
theorem ok_wheel_Wheel_due_1 {a0_0 a0_1 a0_2 f0 w K} (h : s_wheel_Wheel_due_1 a0_0 a0_1 a0_2 f0 w K) : c_wheel_Wheel_due_1 a0_0 a0_1 a0_2 f0 w K :=
  fn_sound pok Try.func91 (fn := Try.f91) (c := bodyOf Try.f91) (nt := 11) (by kernel_rfl) (by kernel_rfl) (rs := [.tmp 3]) (by kernel_rfl) [.one .bool] K (.seq .leaf (.seq .leaf .leaf)) [(Value.agg ⟨[(Value.int .i64 a0_0), (Value.int .i64 a0_1), (Value.int .i64 a0_2)]⟩), (Value.pointer (some f0))] (by kernel_rfl) w ((e_wheel_Wheel_due_1 a0_0 a0_1 a0_2 f0 w K).mpr h)

/-- (*goosepond/wheel.Wheel).due$2 -/
def s_wheel_Wheel_due_2 (a0_0 : Int) (a0_1 : Int) (a0_2 : Int) (f0 : Addr) (w : World) (K : Bool → World → Prop) : Prop :=
 (Al w (.cells ⟨[(Value.int .i64 a0_0), (Value.int .i64 a0_1), (Value.int .i64 a0_2)]⟩ 108) fun a3 w2 =>
 Ld (.int .i64) w2.drew (a3.add 1) fun x4 =>
 Ld .ptr w2.drew f0 fun x5 =>
 ∃ a6 : Addr, x5 = some a6 ∧
 Ld (.int .i64) w2.drew (a6.add 449) fun x7 =>
 K (x4 == x7) w2.drew)
theorem e_wheel_Wheel_due_2 (a0_0 : Int) (a0_1 : Int) (a0_2 : Int) (f0 : Addr) (w : World) (K : Bool → World → Prop) : den Try.prog 11 (bodyOf Try.f92) none (.seq .leaf (.seq .leaf .leaf)) (argEnv 0 [(Value.agg ⟨[(Value.int .i64 a0_0), (Value.int .i64 a0_1), (Value.int .i64 a0_2)]⟩), (Value.pointer (some f0))]) [] w (retK Try.prog [.tmp 3] [.one .bool] K) = s_wheel_Wheel_due_2 a0_0 a0_1 a0_2 f0 w K := by kernel_rfl
theorem ok_wheel_Wheel_due_2 {a0_0 a0_1 a0_2 f0 w K} (h : s_wheel_Wheel_due_2 a0_0 a0_1 a0_2 f0 w K) : c_wheel_Wheel_due_2 a0_0 a0_1 a0_2 f0 w K :=
  fn_sound pok Try.func92 (fn := Try.f92) (c := bodyOf Try.f92) (nt := 11) (by kernel_rfl) (by kernel_rfl) (rs := [.tmp 3]) (by kernel_rfl) [.one .bool] K (.seq .leaf (.seq .leaf .leaf)) [(Value.agg ⟨[(Value.int .i64 a0_0), (Value.int .i64 a0_1), (Value.int .i64 a0_2)]⟩), (Value.pointer (some f0))] (by kernel_rfl) w ((e_wheel_Wheel_due_2 a0_0 a0_1 a0_2 f0 w K).mpr h)

/-- slices.SortFunc[[]goosepond/wheel.timer,goosepond/wheel.timer] -/
def s_slices_SortFunc_wheel_timer_wheel_timer (a0 : SliceV) (a1 : Value) (w : World) (K : World → Prop) : Prop :=
 (c_math_bits_Len (IntKind.u64.wrap (a0.len : Int)) w fun r3 w4 =>
 c_slices_pdqsortCmpFunc_wheel_timer a0 0 (a0.len : Int) r3 a1 w4 fun w5 =>
 K w5)
theorem e_slices_SortFunc_wheel_timer_wheel_timer (a0 : SliceV) (a1 : Value) (w : World) (K : World → Prop) : den Try.prog 14 (bodyOf Try.f93) none (.seq .leaf .leaf) (argEnv 0 [(Value.slice a0.a a0.len a0.cap), a1]) [] w (retK Try.prog [] [] K) = s_slices_SortFunc_wheel_timer_wheel_timer a0 a1 w K := by kernel_rfl
theorem ok_slices_SortFunc_wheel_timer_wheel_timer {a0 a1 w K} (h : s_slices_SortFunc_wheel_timer_wheel_timer a0 a1 w K) : c_slices_SortFunc_wheel_timer_wheel_timer a0 a1 w K :=
  fn_sound pok Try.func93 (fn := Try.f93) (c := bodyOf Try.f93) (nt := 14) (by kernel_rfl) (by kernel_rfl) (rs := []) (by kernel_rfl) [] K (.seq .leaf .leaf) [(Value.slice a0.a a0.len a0.cap), a1] (by kernel_rfl) w ((e_slices_SortFunc_wheel_timer_wheel_timer a0 a1 w K).mpr h)

/-- (*goosepond/wheel.Wheel).due$3 -/
def s_wheel_Wheel_due_3 (a0_0 : Int) (a0_1 : Int) (a0_2 : Int) (a1_0 : Int) (a1_1 : Int) (a1_2 : Int) (w : World) (K : Int → World → Prop) : Prop :=
 (Al w (.cells ⟨[(Value.int .i64 a0_0), (Value.int .i64 a0_1), (Value.int .i64 a0_2)]⟩ 108) fun a4 w3 =>
 Al w3 (.cells ⟨[(Value.int .i64 a1_0), (Value.int .i64 a1_1), (Value.int .i64 a1_2)]⟩ 108) fun a6 w5 =>
 Ld (.int .i64) w5 (a4.add 2) fun x7 =>
 Ld (.int .i64) w5 (a6.add 2) fun x8 =>
 c_cmp_Compare_int x7 x8 w5 fun r9 w10 =>
 K r9 w10)
theorem e_wheel_Wheel_due_3 (a0_0 : Int) (a0_1 : Int) (a0_2 : Int) (a1_0 : Int) (a1_1 : Int) (a1_2 : Int) (w : World) (K : Int → World → Prop) : den Try.prog 10 (bodyOf Try.f94) none (.seq .leaf (.seq .leaf .leaf)) (argEnv 0 [(Value.agg ⟨[(Value.int .i64 a0_0), (Value.int .i64 a0_1), (Value.int .i64 a0_2)]⟩), (Value.agg ⟨[(Value.int .i64 a1_0), (Value.int .i64 a1_1), (Value.int .i64 a1_2)]⟩)]) [] w (retK Try.prog [.tmp 4] [.one (.int .i64)] K) = s_wheel_Wheel_due_3 a0_0 a0_1 a0_2 a1_0 a1_1 a1_2 w K := by kernel_rfl
theorem ok_wheel_Wheel_due_3 {a0_0 a0_1 a0_2 a1_0 a1_1 a1_2 w K} (h : s_wheel_Wheel_due_3 a0_0 a0_1 a0_2 a1_0 a1_1 a1_2 w K) : c_wheel_Wheel_due_3 a0_0 a0_1 a0_2 a1_0 a1_1 a1_2 w K :=
  fn_sound pok Try.func94 (fn := Try.f94) (c := bodyOf Try.f94) (nt := 10) (by kernel_rfl) (by kernel_rfl) (rs := [.tmp 4]) (by kernel_rfl) [.one (.int .i64)] K (.seq .leaf (.seq .leaf .leaf)) [(Value.agg ⟨[(Value.int .i64 a0_0), (Value.int .i64 a0_1), (Value.int .i64 a0_2)]⟩), (Value.agg ⟨[(Value.int .i64 a1_0), (Value.int .i64 a1_1), (Value.int .i64 a1_2)]⟩)] (by kernel_rfl) w ((e_wheel_Wheel_due_3 a0_0 a0_1 a0_2 a1_0 a1_1 a1_2 w K).mpr h)

/-- math/bits.Len -/
def s_math_bits_Len (a0 : Int) (w : World) (K : Int → World → Prop) : Prop :=
 (c_math_bits_Len64 a0 w fun r2 w3 =>
 K r2 w3)
theorem e_math_bits_Len (a0 : Int) (w : World) (K : Int → World → Prop) : den Try.prog 8 (bodyOf Try.f96) none (.seq .leaf (.seq (.cond .leaf .leaf) (.seq .leaf .leaf))) (argEnv 0 [(Value.int .u64 a0)]) [] w (retK Try.prog [.tmp 2] [.one (.int .i64)] K) = s_math_bits_Len a0 w K := by kernel_rfl
theorem ok_math_bits_Len {a0 w K} (h : s_math_bits_Len a0 w K) : c_math_bits_Len a0 w K :=
  fn_sound pok Try.func96 (fn := Try.f96) (c := bodyOf Try.f96) (nt := 8) (by kernel_rfl) (by kernel_rfl) (rs := [.tmp 2]) (by kernel_rfl) [.one (.int .i64)] K (.seq .leaf (.seq (.cond .leaf .leaf) (.seq .leaf .leaf))) [(Value.int .u64 a0)] (by kernel_rfl) w ((e_math_bits_Len a0 w K).mpr h)

/-- cmp.isNaN[int] -/
def s_cmp_isNaN_int (a0 : Int) (w : World) (K : Bool → World → Prop) : Prop :=
 (K (a0 != a0) w)
theorem e_cmp_isNaN_int (a0 : Int) (w : World) (K : Bool → World → Prop) : den Try.prog 6 (bodyOf Try.f98) none (.seq .leaf (.seq .leaf .leaf)) (argEnv 0 [(Value.int .i64 a0)]) [] w (retK Try.prog [.tmp 2] [.one .bool] K) = s_cmp_isNaN_int a0 w K := by kernel_rfl
theorem ok_cmp_isNaN_int {a0 w K} (h : s_cmp_isNaN_int a0 w K) : c_cmp_isNaN_int a0 w K :=
  fn_sound pok Try.func98 (fn := Try.f98) (c := bodyOf Try.f98) (nt := 6) (by kernel_rfl) (by kernel_rfl) (rs := [.tmp 2]) (by kernel_rfl) [.one .bool] K (.seq .leaf (.seq .leaf .leaf)) [(Value.int .i64 a0)] (by kernel_rfl) w ((e_cmp_isNaN_int a0 w K).mpr h)

/-- slices.IndexFunc[[]goosepond/wheel.timer,goosepond/wheel.timer] -/
def s_slices_IndexFunc_wheel_timer_wheel_timer (a0 : SliceV) (a1 : Value) (w : World) (K : Int → World → Prop) : Prop :=
 (LoopP (S := Int × Unit) (fun s3 w4 next5 =>
 (bif (decide (s3.1 < (a0.len : Int))) then
 AtIx a0 3 s3.1 fun a6 =>
 Ld (.int .i64) w4 (a6.add 0) fun x7 =>
 Ld (.int .i64) w4 (a6.add 1) fun x8 =>
 Ld (.int .i64) w4 (a6.add 2) fun x9 =>
 CallV Try.prog [.one .bool] a1 [(Value.agg ⟨[(Value.int .i64 x7), (Value.int .i64 x8), (Value.int .i64 x9)]⟩)] w4 fun r10 w11 =>
 ∃ r12 : Bool, r10 = (Value.bool r12) ∧
 (bif r12 then
 K s3.1 w11
 else
 next5 ((IntKind.i64.wrap (s3.1 + 1)), ()) w11)
 else
 K (-1) w4)) (0, ()) w)
theorem e_slices_IndexFunc_wheel_timer_wheel_timer (a0 : SliceV) (a1 : Value) (w : World) (K : Int → World → Prop) : den Try.prog 19 (bodyOf Try.f100) none (.seq .leaf (.seq (.seq .leaf (.blk (.loop [(8, (.int .i64))] (.seq .leaf (.seq (.cond .leaf .leaf) (.seq (.blk (.seq .leaf (.seq .leaf (.cond (.seq .leaf .leaf) .leaf)))) .leaf)))))) (.seq .leaf .leaf))) (argEnv 0 [(Value.slice a0.a a0.len a0.cap), a1]) [] w (retK Try.prog [.tmp 4] [.one (.int .i64)] K) = s_slices_IndexFunc_wheel_timer_wheel_timer a0 a1 w K := by kernel_rfl
theorem ok_slices_IndexFunc_wheel_timer_wheel_timer {a0 a1 w K} (h : s_slices_IndexFunc_wheel_timer_wheel_timer a0 a1 w K) : c_slices_IndexFunc_wheel_timer_wheel_timer a0 a1 w K :=
  fn_sound pok Try.func100 (fn := Try.f100) (c := bodyOf Try.f100) (nt := 19) (by kernel_rfl) (by kernel_rfl) (rs := [.tmp 4]) (by kernel_rfl) [.one (.int .i64)] K (.seq .leaf (.seq (.seq .leaf (.blk (.loop [(8, (.int .i64))] (.seq .leaf (.seq (.cond .leaf .leaf) (.seq (.blk (.seq .leaf (.seq .leaf (.cond (.seq .leaf .leaf) .leaf)))) .leaf)))))) (.seq .leaf .leaf))) [(Value.slice a0.a a0.len a0.cap), a1] (by kernel_rfl) w ((e_slices_IndexFunc_wheel_timer_wheel_timer a0 a1 w K).mpr h)

/-- slices.pdqsortCmpFunc[goosepond/wheel.timer] -/
def s_slices_pdqsortCmpFunc_wheel_timer (a0 : SliceV) (a1 : Int) (a2 : Int) (a3 : Int) (a4 : Value) (w : World) (K : World → Prop) : Prop :=
 (LoopP (S := Int × Int × Int × Bool × Bool × Unit) (fun s6 w7 next8 =>
 (bif (decide ((IntKind.i64.wrap (s6.2.1 - s6.1)) ≤ 12)) then
 c_slices_insertionSortCmpFunc_wheel_timer a0 s6.1 s6.2.1 a4 w7 fun w9 =>
 K w9
 else
 (bif (s6.2.2.1 == 0) then
 c_slices_heapSortCmpFunc_wheel_timer a0 s6.1 s6.2.1 a4 w7 fun w10 =>
 K w10
 else
 let J11 : Int → World → Prop := fun j12 w13 =>
 (c_slices_choosePivotCmpFunc_wheel_timer a0 s6.1 s6.2.1 a4 w13 fun r14 r15 w16 =>
 let J17 : Int → Int → World → Prop := fun j18 j19 w20 =>
 (let J21 : World → Prop := fun w22 =>
 (let J23 : Bool → World → Prop := fun j24 w25 =>
 ((bif j24 then
 c_slices_partitionEqualCmpFunc_wheel_timer a0 s6.1 s6.2.1 j18 a4 w25 fun r26 w27 =>
 next8 (r26, s6.2.1, j12, s6.2.2.2.1, s6.2.2.2.2.1, ()) w27
 else
 c_slices_partitionCmpFunc_wheel_timer a0 s6.1 s6.2.1 j18 a4 w25 fun r28 r29 w30 =>
 (8 : Int) ≠ 0 ∧
 (bif (decide ((IntKind.i64.wrap (r28 - s6.1)) < (IntKind.i64.wrap (s6.2.1 - r28)))) then
 c_slices_pdqsortCmpFunc_wheel_timer a0 s6.1 r28 j12 a4 w30 fun w31 =>
 next8 ((IntKind.i64.wrap (r28 + 1)), s6.2.1, j12, (decide ((IntKind.i64.wrap (r28 - s6.1)) ≥ (IntKind.i64.wrap (Int.tdiv (IntKind.i64.wrap (s6.2.1 - s6.1)) 8)))), r29, ()) w31
 else
 c_slices_pdqsortCmpFunc_wheel_timer a0 (IntKind.i64.wrap (r28 + 1)) s6.2.1 j12 a4 w30 fun w32 =>
 next8 (s6.1, r28, j12, (decide ((IntKind.i64.wrap (s6.2.1 - r28)) ≥ (IntKind.i64.wrap (Int.tdiv (IntKind.i64.wrap (s6.2.1 - s6.1)) 8)))), r29, ()) w32)))
 (bif (decide (s6.1 > 0)) then
 AtIx a0 3 (IntKind.i64.wrap (s6.1 - 1)) fun a33 =>
 Ld (.int .i64) w22.drew (a33.add 0) fun x34 =>
 Ld (.int .i64) w22.drew (a33.add 1) fun x35 =>
 Ld (.int .i64) w22.drew (a33.add 2) fun x36 =>
 AtIx a0 3 j18 fun a37 =>
 Ld (.int .i64) w22.drew (a37.add 0) fun x38 =>
 Ld (.int .i64) w22.drew (a37.add 1) fun x39 =>
 Ld (.int .i64) w22.drew (a37.add 2) fun x40 =>
 CallV Try.prog [.one (.int .i64)] a4 [(Value.agg ⟨[(Value.int .i64 x34), (Value.int .i64 x35), (Value.int .i64 x36)]⟩), (Value.agg ⟨[(Value.int .i64 x38), (Value.int .i64 x39), (Value.int .i64 x40)]⟩)] w22.drew fun r41 w42 =>
 ∃ r43 : Int, r41 = (Value.int .i64 r43) ∧
 J23 (!(decide (r43 < 0))) w42
 else
 J23 false w22.drew))
 let J44 : Bool → Prop := fun j45 =>
 ((bif j45 then
 c_slices_partialInsertionSortCmpFunc_wheel_timer a0 s6.1 s6.2.1 a4 w20 fun r46 w47 =>
 (bif r46 then
 K w47
 else
 J21 w47)
 else
 J21 w20))
 (bif s6.2.2.2.1 then
 (bif s6.2.2.2.2.1 then
 J44 (j19 == 1)
 else
 J44 false)
 else
 J44 false))
 (bif (r15 == 2) then
 c_slices_reverseRangeCmpFunc_wheel_timer a0 s6.1 s6.2.1 a4 w16 fun w48 =>
 J17 (IntKind.i64.wrap ((IntKind.i64.wrap (s6.2.1 - 1)) - (IntKind.i64.wrap (r14 - s6.1)))) 1 w48
 else
 J17 r14 r15 w16))
 (bif (!s6.2.2.2.1) then
 c_slices_breakPatternsCmpFunc_wheel_timer a0 s6.1 s6.2.1 a4 w7 fun w49 =>
 J11 (IntKind.i64.wrap (s6.2.2.1 - 1)) w49
 else
 J11 s6.2.2.1 w7)))) (a1, a2, a3, true, true, ()) w)
theorem e_slices_pdqsortCmpFunc_wheel_timer (a0 : SliceV) (a1 : Int) (a2 : Int) (a3 : Int) (a4 : Value) (w : World) (K : World → Prop) : den Try.prog 148 (bodyOf Try.f101) none (.seq .leaf (.seq .leaf (.blk (.loop [(1, (.int .i64)), (2, (.int .i64)), (3, (.int .i64)), (10, .bool), (11, .bool)] (.blk (.seq .leaf (.seq (.seq .leaf (.cond (.seq .leaf .leaf) .leaf)) (.seq (.seq .leaf (.cond (.seq .leaf .leaf) .leaf)) (.seq (.seq .leaf (.cond (.seq .leaf .leaf) .leaf)) (.seq .leaf (.seq (.seq .leaf (.cond (.seq .leaf (.seq .leaf .leaf)) .leaf)) (.seq (.seq .leaf (.cond (.seq .leaf (.cond .leaf .leaf)) .leaf)) (.seq (.seq .leaf (.cond (.seq .leaf (.seq .leaf .leaf)) .leaf)) (.seq .leaf (.seq .leaf (.seq .leaf (.seq .leaf (.seq .leaf (.cond (.seq .leaf (.seq .leaf .leaf)) (.seq .leaf (.seq .leaf .leaf))))))))))))))))))))) (argEnv 0 [(Value.slice a0.a a0.len a0.cap), (Value.int .i64 a1), (Value.int .i64 a2), (Value.int .i64 a3), a4]) [] w (retK Try.prog [] [] K) = s_slices_pdqsortCmpFunc_wheel_timer a0 a1 a2 a3 a4 w K := by kernel_rfl
theorem ok_slices_pdqsortCmpFunc_wheel_timer {a0 a1 a2 a3 a4 w K} (h : s_slices_pdqsortCmpFunc_wheel_timer a0 a1 a2 a3 a4 w K) : c_slices_pdqsortCmpFunc_wheel_timer a0 a1 a2 a3 a4 w K :=
  fn_sound pok Try.func101 (fn := Try.f101) (c := bodyOf Try.f101) (nt := 148) (by kernel_rfl) (by kernel_rfl) (rs := []) (by kernel_rfl) [] K (.seq .leaf (.seq .leaf (.blk (.loop [(1, (.int .i64)), (2, (.int .i64)), (3, (.int .i64)), (10, .bool), (11, .bool)] (.blk (.seq .leaf (.seq (.seq .leaf (.cond (.seq .leaf .leaf) .leaf)) (.seq (.seq .leaf (.cond (.seq .leaf .leaf) .leaf)) (.seq (.seq .leaf (.cond (.seq .leaf .leaf) .leaf)) (.seq .leaf (.seq (.seq .leaf (.cond (.seq .leaf (.seq .leaf .leaf)) .leaf)) (.seq (.seq .leaf (.cond (.seq .leaf (.cond .leaf .leaf)) .leaf)) (.seq (.seq .leaf (.cond (.seq .leaf (.seq .leaf .leaf)) .leaf)) (.seq .leaf (.seq .leaf (.seq .leaf (.seq .leaf (.seq .leaf (.cond (.seq .leaf (.seq .leaf .leaf)) (.seq .leaf (.seq .leaf .leaf))))))))))))))))))))) [(Value.slice a0.a a0.len a0.cap), (Value.int .i64 a1), (Value.int .i64 a2), (Value.int .i64 a3), a4] (by kernel_rfl) w ((e_slices_pdqsortCmpFunc_wheel_timer a0 a1 a2 a3 a4 w K).mpr h)

/-- math/bits.Len64 -/
def s_math_bits_Len64 (a0 : Int) (w : World) (K : Int → World → Prop) : Prop :=
 (let J2 : Int → Int → Prop := fun j3 j4 =>
 (let J5 : Int → Int → Prop := fun j6 j7 =>
 (let J8 : Int → Int → Prop := fun j9 j10 =>
 (StrIx (bs [0, 1, 2, 2, 3, 3, 3, 3, 4, 4, 4, 4, 4, 4, 4, 4, 5, 5, 5, 5, 5, 5, 5, 5, 5, 5, 5, 5, 5, 5, 5, 5, 6, 6, 6, 6, 6, 6, 6, 6, 6, 6, 6, 6, 6, 6, 6, 6, 6, 6, 6, 6, 6, 6, 6, 6, 6, 6, 6, 6, 6, 6, 6, 6, 7, 7, 7, 7, 7, 7, 7, 7, 7, 7, 7, 7, 7, 7, 7, 7, 7, 7, 7, 7, 7, 7, 7, 7, 7, 7, 7, 7, 7, 7, 7, 7, 7, 7, 7, 7, 7, 7, 7, 7, 7, 7, 7, 7, 7, 7, 7, 7, 7, 7, 7, 7, 7, 7, 7, 7, 7, 7, 7, 7, 7, 7, 7, 7, 8, 8, 8, 8, 8, 8, 8, 8, 8, 8, 8, 8, 8, 8, 8, 8, 8, 8, 8, 8, 8, 8, 8, 8, 8, 8, 8, 8, 8, 8, 8, 8, 8, 8, 8, 8, 8, 8, 8, 8, 8, 8, 8, 8, 8, 8, 8, 8, 8, 8, 8, 8, 8, 8, 8, 8, 8, 8, 8, 8, 8, 8, 8, 8, 8, 8, 8, 8, 8, 8, 8, 8, 8, 8, 8, 8, 8, 8, 8, 8, 8, 8, 8, 8, 8, 8, 8, 8, 8, 8, 8, 8, 8, 8, 8, 8, 8, 8, 8, 8, 8, 8, 8, 8, 8, 8, 8, 8, 8, 8, 8, 8, 8, 8, 8, 8, 8, 8, 8, 8, 8, 8, 8, 8, 8, 8, 8, 8]) (IntKind.u8.wrap j9) fun x11 =>
 K (IntKind.i64.wrap (j10 + (IntKind.i64.wrap x11))) w)
 (bif (decide (j6 ≥ 256)) then
 0 ≤ (8 : Int) ∧
 J8 (shrI .u64 j6 8) (IntKind.i64.wrap (j7 + 8))
 else
 J8 j6 j7))
 (bif (decide (j3 ≥ 65536)) then
 0 ≤ (16 : Int) ∧
 J5 (shrI .u64 j3 16) (IntKind.i64.wrap (j4 + 16))
 else
 J5 j3 j4))
 (bif (decide (a0 ≥ 4294967296)) then
 0 ≤ (32 : Int) ∧
 J2 (shrI .u64 a0 32) 32
 else
 J2 a0 0))
theorem e_math_bits_Len64 (a0 : Int) (w : World) (K : Int → World → Prop) : den Try.prog 25 (bodyOf Try.f112) none (.seq .leaf (.seq (.seq .leaf (.cond (.seq .leaf .leaf) .leaf)) (.seq (.seq .leaf (.cond (.seq .leaf .leaf) .leaf)) (.seq (.seq .leaf (.cond (.seq .leaf .leaf) .leaf)) (.seq .leaf .leaf))))) (argEnv 0 [(Value.int .u64 a0)]) [] w (retK Try.prog [.tmp 2] [.one (.int .i64)] K) = s_math_bits_Len64 a0 w K := by kernel_rfl
theorem ok_math_bits_Len64 {a0 w K} (h : s_math_bits_Len64 a0 w K) : c_math_bits_Len64 a0 w K :=
  fn_sound pok Try.func112 (fn := Try.f112) (c := bodyOf Try.f112) (nt := 25) (by kernel_rfl) (by kernel_rfl) (rs := [.tmp 2]) (by kernel_rfl) [.one (.int .i64)] K (.seq .leaf (.seq (.seq .leaf (.cond (.seq .leaf .leaf) .leaf)) (.seq (.seq .leaf (.cond (.seq .leaf .leaf) .leaf)) (.seq (.seq .leaf (.cond (.seq .leaf .leaf) .leaf)) (.seq .leaf .leaf))))) [(Value.int .u64 a0)] (by kernel_rfl) w ((e_math_bits_Len64 a0 w K).mpr h)

/-- slices.insertionSortCmpFunc[goosepond/wheel.timer] -/
def s_slices_insertionSortCmpFunc_wheel_timer (a0 : SliceV) (a1 : Int) (a2 : Int) (a3 : Value) (w : World) (K : World → Prop) : Prop :=
 (LoopP (S := Int × Unit) (fun s5 w6 next7 =>
 (bif (decide (s5.1 < a2)) then
 LoopP (S := Int × Unit) (fun s8 w9 next10 =>
 let J11 : Bool → World → Prop := fun j12 w13 =>
 ((bif j12 then
 AtIx a0 3 (IntKind.i64.wrap (s8.1 - 1)) fun a14 =>
 Ld (.int .i64) w13.drew (a14.add 0) fun x15 =>
 Ld (.int .i64) w13.drew (a14.add 1) fun x16 =>
 Ld (.int .i64) w13.drew (a14.add 2) fun x17 =>
 AtIx a0 3 s8.1 fun a18 =>
 Ld (.int .i64) w13.drew (a18.add 0) fun x19 =>
 Ld (.int .i64) w13.drew (a18.add 1) fun x20 =>
 Ld (.int .i64) w13.drew (a18.add 2) fun x21 =>
 AtIx a0 3 s8.1 fun a22 =>
 StN [(Value.int .i64 x15), (Value.int .i64 x16), (Value.int .i64 x17)] w13.drew a22 0 fun w23 =>
 AtIx a0 3 (IntKind.i64.wrap (s8.1 - 1)) fun a24 =>
 StN [(Value.int .i64 x19), (Value.int .i64 x20), (Value.int .i64 x21)] w23 a24 0 fun w25 =>
 next10 ((IntKind.i64.wrap (s8.1 - 1)), ()) w25
 else
 next7 ((IntKind.i64.wrap (s5.1 + 1)), ()) w13))
 (bif (decide (s8.1 > a1)) then
 AtIx a0 3 s8.1 fun a26 =>
 Ld (.int .i64) w9.drew (a26.add 0) fun x27 =>
 Ld (.int .i64) w9.drew (a26.add 1) fun x28 =>
 Ld (.int .i64) w9.drew (a26.add 2) fun x29 =>
 AtIx a0 3 (IntKind.i64.wrap (s8.1 - 1)) fun a30 =>
 Ld (.int .i64) w9.drew (a30.add 0) fun x31 =>
 Ld (.int .i64) w9.drew (a30.add 1) fun x32 =>
 Ld (.int .i64) w9.drew (a30.add 2) fun x33 =>
 CallV Try.prog [.one (.int .i64)] a3 [(Value.agg ⟨[(Value.int .i64 x27), (Value.int .i64 x28), (Value.int .i64 x29)]⟩), (Value.agg ⟨[(Value.int .i64 x31), (Value.int .i64 x32), (Value.int .i64 x33)]⟩)] w9.drew fun r34 w35 =>
 ∃ r36 : Int, r34 = (Value.int .i64 r36) ∧
 J11 (decide (r36 < 0)) w35
 else
 J11 false w9.drew)) (s5.1, ()) w6
 else
 K w6)) ((IntKind.i64.wrap (a1 + 1)), ()) w)
theorem e_slices_insertionSortCmpFunc_wheel_timer (a0 : SliceV) (a1 : Int) (a2 : Int) (a3 : Value) (w : World) (K : World → Prop) : den Try.prog 53 (bodyOf Try.f114) none (.seq .leaf (.blk (.loop [(8, (.int .i64))] (.seq (.seq .leaf (.cond .leaf .leaf)) (.seq (.blk (.seq .leaf (.blk (.loop [(9, (.int .i64))] (.seq (.seq .leaf (.cond .leaf .leaf)) (.seq (.blk .leaf) .leaf)))))) .leaf))))) (argEnv 0 [(Value.slice a0.a a0.len a0.cap), (Value.int .i64 a1), (Value.int .i64 a2), a3]) [] w (retK Try.prog [] [] K) = s_slices_insertionSortCmpFunc_wheel_timer a0 a1 a2 a3 w K := by kernel_rfl
theorem ok_slices_insertionSortCmpFunc_wheel_timer {a0 a1 a2 a3 w K} (h : s_slices_insertionSortCmpFunc_wheel_timer a0 a1 a2 a3 w K) : c_slices_insertionSortCmpFunc_wheel_timer a0 a1 a2 a3 w K :=
  fn_sound pok Try.func114 (fn := Try.f114) (c := bodyOf Try.f114) (nt := 53) (by kernel_rfl) (by kernel_rfl) (rs := []) (by kernel_rfl) [] K (.seq .leaf (.blk (.loop [(8, (.int .i64))] (.seq (.seq .leaf (.cond .leaf .leaf)) (.seq (.blk (.seq .leaf (.blk (.loop [(9, (.int .i64))] (.seq (.seq .leaf (.cond .leaf .leaf)) (.seq (.blk .leaf) .leaf)))))) .leaf))))) [(Value.slice a0.a a0.len a0.cap), (Value.int .i64 a1), (Value.int .i64 a2), a3] (by kernel_rfl) w ((e_slices_insertionSortCmpFunc_wheel_timer a0 a1 a2 a3 w K).mpr h)

/-- slices.heapSortCmpFunc[goosepond/wheel.timer] -/
def s_slices_heapSortCmpFunc_wheel_timer (a0 : SliceV) (a1 : Int) (a2 : Int) (a3 : Value) (w : World) (K : World → Prop) : Prop :=
 ((2 : Int) ≠ 0 ∧
 LoopP (S := Int × Unit) (fun s5 w6 next7 =>
 (bif (decide (s5.1 ≥ 0)) then
 c_slices_siftDownCmpFunc_wheel_timer a0 s5.1 (IntKind.i64.wrap (a2 - a1)) a1 a3 w6 fun w8 =>
 next7 ((IntKind.i64.wrap (s5.1 - 1)), ()) w8
 else
 LoopP (S := Int × Unit) (fun s9 w10 next11 =>
 (bif (decide (s9.1 ≥ 0)) then
 AtIx a0 3 (IntKind.i64.wrap (a1 + s9.1)) fun a12 =>
 Ld (.int .i64) w10.drew (a12.add 0) fun x13 =>
 Ld (.int .i64) w10.drew (a12.add 1) fun x14 =>
 Ld (.int .i64) w10.drew (a12.add 2) fun x15 =>
 AtIx a0 3 a1 fun a16 =>
 Ld (.int .i64) w10.drew (a16.add 0) fun x17 =>
 Ld (.int .i64) w10.drew (a16.add 1) fun x18 =>
 Ld (.int .i64) w10.drew (a16.add 2) fun x19 =>
 AtIx a0 3 a1 fun a20 =>
 StN [(Value.int .i64 x13), (Value.int .i64 x14), (Value.int .i64 x15)] w10.drew a20 0 fun w21 =>
 AtIx a0 3 (IntKind.i64.wrap (a1 + s9.1)) fun a22 =>
 StN [(Value.int .i64 x17), (Value.int .i64 x18), (Value.int .i64 x19)] w21 a22 0 fun w23 =>
 c_slices_siftDownCmpFunc_wheel_timer a0 0 s9.1 a1 a3 w23 fun w24 =>
 next11 ((IntKind.i64.wrap (s9.1 - 1)), ()) w24
 else
 K w10)) ((IntKind.i64.wrap ((IntKind.i64.wrap (a2 - a1)) - 1)), ()) w6)) ((IntKind.i64.wrap (Int.tdiv (IntKind.i64.wrap ((IntKind.i64.wrap (a2 - a1)) - 1)) 2)), ()) w)
theorem e_slices_heapSortCmpFunc_wheel_timer (a0 : SliceV) (a1 : Int) (a2 : Int) (a3 : Value) (w : World) (K : World → Prop) : den Try.prog 60 (bodyOf Try.f115) none (.seq .leaf (.seq .leaf (.seq .leaf (.seq (.seq .leaf (.blk (.loop [(11, (.int .i64))] (.seq (.seq .leaf (.cond .leaf .leaf)) (.seq (.blk .leaf) .leaf))))) (.seq .leaf (.blk (.loop [(12, (.int .i64))] (.seq (.seq .leaf (.cond .leaf .leaf)) (.seq (.blk (.seq .leaf .leaf)) .leaf))))))))) (argEnv 0 [(Value.slice a0.a a0.len a0.cap), (Value.int .i64 a1), (Value.int .i64 a2), a3]) [] w (retK Try.prog [] [] K) = s_slices_heapSortCmpFunc_wheel_timer a0 a1 a2 a3 w K := by kernel_rfl
theorem ok_slices_heapSortCmpFunc_wheel_timer {a0 a1 a2 a3 w K} (h : s_slices_heapSortCmpFunc_wheel_timer a0 a1 a2 a3 w K) : c_slices_heapSortCmpFunc_wheel_timer a0 a1 a2 a3 w K :=
  fn_sound pok Try.func115 (fn := Try.f115) (c := bodyOf Try.f115) (nt := 60) (by kernel_rfl) (by kernel_rfl) (rs := []) (by kernel_rfl) [] K (.seq .leaf (.seq .leaf (.seq .leaf (.seq (.seq .leaf (.blk (.loop [(11, (.int .i64))] (.seq (.seq .leaf (.cond .leaf .leaf)) (.seq (.blk .leaf) .leaf))))) (.seq .leaf (.blk (.loop [(12, (.int .i64))] (.seq (.seq .leaf (.cond .leaf .leaf)) (.seq (.blk (.seq .leaf .leaf)) .leaf))))))))) [(Value.slice a0.a a0.len a0.cap), (Value.int .i64 a1), (Value.int .i64 a2), a3] (by kernel_rfl) w ((e_slices_heapSortCmpFunc_wheel_timer a0 a1 a2 a3 w K).mpr h)

/-- slices.breakPatternsCmpFunc[goosepond/wheel.timer] -/
def s_slices_breakPatternsCmpFunc_wheel_timer (a0 : SliceV) (a1 : Int) (a2 : Int) (a3 : Value) (w : World) (K : World → Prop) : Prop :=
 ((bif (decide ((IntKind.i64.wrap (a2 - a1)) ≥ 8)) then
 Al w (.cells ⟨[(Value.int .u64 0)]⟩ 162) fun a6 w5 =>
 St w5 a6 (Value.int .u64 (IntKind.u64.wrap (IntKind.i64.wrap (a2 - a1)))) fun w7 =>
 c_slices_nextPowerOfTwo (IntKind.i64.wrap (a2 - a1)) w7 fun r8 w9 =>
 (4 : Int) ≠ 0 ∧
 LoopP (S := Int × Unit) (fun s10 w11 next12 =>
 (4 : Int) ≠ 0 ∧
 (bif (decide (s10.1 ≤ (IntKind.i64.wrap ((IntKind.i64.wrap (a1 + (IntKind.i64.wrap ((IntKind.i64.wrap (Int.tdiv (IntKind.i64.wrap (a2 - a1)) 4)) * 2)))) + 1)))) then
 c_slices_xorshift_Next (some a6) w11 fun r13 w14 =>
 let J15 : Int → Prop := fun j16 =>
 (AtIx a0 3 (IntKind.i64.wrap (a1 + j16)) fun a17 =>
 Ld (.int .i64) w14.drew (a17.add 0) fun x18 =>
 Ld (.int .i64) w14.drew (a17.add 1) fun x19 =>
 Ld (.int .i64) w14.drew (a17.add 2) fun x20 =>
 AtIx a0 3 s10.1 fun a21 =>
 Ld (.int .i64) w14.drew (a21.add 0) fun x22 =>
 Ld (.int .i64) w14.drew (a21.add 1) fun x23 =>
 Ld (.int .i64) w14.drew (a21.add 2) fun x24 =>
 AtIx a0 3 s10.1 fun a25 =>
 StN [(Value.int .i64 x18), (Value.int .i64 x19), (Value.int .i64 x20)] w14.drew a25 0 fun w26 =>
 AtIx a0 3 (IntKind.i64.wrap (a1 + j16)) fun a27 =>
 StN [(Value.int .i64 x22), (Value.int .i64 x23), (Value.int .i64 x24)] w26 a27 0 fun w28 =>
 next12 ((IntKind.i64.wrap (s10.1 + 1)), ()) w28)
 (bif (decide ((IntKind.i64.wrap (andI .u64 r13 (IntKind.u64.wrap (r8 - 1)))) ≥ (IntKind.i64.wrap (a2 - a1)))) then
 J15 (IntKind.i64.wrap ((IntKind.i64.wrap (andI .u64 r13 (IntKind.u64.wrap (r8 - 1)))) - (IntKind.i64.wrap (a2 - a1))))
 else
 J15 (IntKind.i64.wrap (andI .u64 r13 (IntKind.u64.wrap (r8 - 1)))))
 else
 K w11)) ((IntKind.i64.wrap ((IntKind.i64.wrap (a1 + (IntKind.i64.wrap ((IntKind.i64.wrap (Int.tdiv (IntKind.i64.wrap (a2 - a1)) 4)) * 2)))) - 1)), ()) w9
 else
 K w))
theorem e_slices_breakPatternsCmpFunc_wheel_timer (a0 : SliceV) (a1 : Int) (a2 : Int) (a3 : Value) (w : World) (K : World → Prop) : den Try.prog 67 (bodyOf Try.f116) none (.seq .leaf (.seq .leaf (.cond (.seq .leaf (.seq .leaf (.seq .leaf (.blk (.loop [(11, (.int .i64))] (.seq (.seq .leaf (.cond .leaf .leaf)) (.seq (.blk (.seq .leaf (.seq (.seq .leaf (.cond .leaf .leaf)) .leaf))) .leaf))))))) .leaf))) (argEnv 0 [(Value.slice a0.a a0.len a0.cap), (Value.int .i64 a1), (Value.int .i64 a2), a3]) [] w (retK Try.prog [] [] K) = s_slices_breakPatternsCmpFunc_wheel_timer a0 a1 a2 a3 w K := by kernel_rfl
theorem ok_slices_breakPatternsCmpFunc_wheel_timer {a0 a1 a2 a3 w K} (h : s_slices_breakPatternsCmpFunc_wheel_timer a0 a1 a2 a3 w K) : c_slices_breakPatternsCmpFunc_wheel_timer a0 a1 a2 a3 w K :=
  fn_sound pok Try.func116 (fn := Try.f116) (c := bodyOf Try.f116) (nt := 67) (by kernel_rfl) (by kernel_rfl) (rs := []) (by kernel_rfl) [] K (.seq .leaf (.seq .leaf (.cond (.seq .leaf (.seq .leaf (.seq .leaf (.blk (.loop [(11, (.int .i64))] (.seq (.seq .leaf (.cond .leaf .leaf)) (.seq (.blk (.seq .leaf (.seq (.seq .leaf (.cond .leaf .leaf)) .leaf))) .leaf))))))) .leaf))) [(Value.slice a0.a a0.len a0.cap), (Value.int .i64 a1), (Value.int .i64 a2), a3] (by kernel_rfl) w ((e_slices_breakPatternsCmpFunc_wheel_timer a0 a1 a2 a3 w K).mpr h)

/-- slices.choosePivotCmpFunc[goosepond/wheel.timer] -/
def s_slices_choosePivotCmpFunc_wheel_timer (a0 : SliceV) (a1 : Int) (a2 : Int) (a3 : Value) (w : World) (K : Int → Int → World → Prop) : Prop :=
 (Al w (.cells ⟨[(Value.int .i64 0)]⟩ 3) fun a6 w5 =>
 (4 : Int) ≠ 0 ∧
 (4 : Int) ≠ 0 ∧
 (4 : Int) ≠ 0 ∧
 let J7 : Int → World → Prop := fun j8 w9 =>
 (Ld (.int .i64) w9 a6 fun x10 =>
 (bif (x10 == 0) then
 K j8 1 w9
 else
 (bif (x10 == 12) then
 K j8 2 w9
 else
 K j8 0 w9)))
 (bif (decide ((IntKind.i64.wrap (a2 - a1)) ≥ 8)) then
 let J11 : Int → Int → Int → World → Prop := fun j12 j13 j14 w15 =>
 (c_slices_medianCmpFunc_wheel_timer a0 j12 j13 j14 (some a6) a3 w15 fun r16 w17 =>
 J7 r16 w17)
 (bif (decide ((IntKind.i64.wrap (a2 - a1)) ≥ 50)) then
 c_slices_medianAdjacentCmpFunc_wheel_timer a0 (IntKind.i64.wrap (a1 + (IntKind.i64.wrap ((IntKind.i64.wrap (Int.tdiv (IntKind.i64.wrap (a2 - a1)) 4)) * 1)))) (some a6) a3 w5 fun r18 w19 =>
 c_slices_medianAdjacentCmpFunc_wheel_timer a0 (IntKind.i64.wrap (a1 + (IntKind.i64.wrap ((IntKind.i64.wrap (Int.tdiv (IntKind.i64.wrap (a2 - a1)) 4)) * 2)))) (some a6) a3 w19 fun r20 w21 =>
 c_slices_medianAdjacentCmpFunc_wheel_timer a0 (IntKind.i64.wrap (a1 + (IntKind.i64.wrap ((IntKind.i64.wrap (Int.tdiv (IntKind.i64.wrap (a2 - a1)) 4)) * 3)))) (some a6) a3 w21 fun r22 w23 =>
 J11 r18 r20 r22 w23
 else
 J11 (IntKind.i64.wrap (a1 + (IntKind.i64.wrap ((IntKind.i64.wrap (Int.tdiv (IntKind.i64.wrap (a2 - a1)) 4)) * 1)))) (IntKind.i64.wrap (a1 + (IntKind.i64.wrap ((IntKind.i64.wrap (Int.tdiv (IntKind.i64.wrap (a2 - a1)) 4)) * 2)))) (IntKind.i64.wrap (a1 + (IntKind.i64.wrap ((IntKind.i64.wrap (Int.tdiv (IntKind.i64.wrap (a2 - a1)) 4)) * 3)))) w5)
 else
 J7 (IntKind.i64.wrap (a1 + (IntKind.i64.wrap ((IntKind.i64.wrap (Int.tdiv (IntKind.i64.wrap (a2 - a1)) 4)) * 2)))) w5))
theorem e_slices_choosePivotCmpFunc_wheel_timer (a0 : SliceV) (a1 : Int) (a2 : Int) (a3 : Value) (w : World) (K : Int → Int → World → Prop) : den Try.prog 63 (bodyOf Try.f117) none (.seq .leaf (.seq .leaf (.seq .leaf (.seq .leaf (.seq .leaf (.seq .leaf (.seq (.seq .leaf (.cond (.seq (.seq .leaf (.cond (.seq .leaf (.seq .leaf .leaf)) .leaf)) .leaf) .leaf)) (.seq .leaf (.blk (.seq .leaf (.cond (.seq .leaf .leaf) (.seq .leaf (.cond (.seq .leaf .leaf) (.seq .leaf .leaf)))))))))))))) (argEnv 0 [(Value.slice a0.a a0.len a0.cap), (Value.int .i64 a1), (Value.int .i64 a2), a3]) [] w (retK Try.prog [.tmp 8, .tmp 9] [.one (.int .i64), .one (.int .i64)] K) = s_slices_choosePivotCmpFunc_wheel_timer a0 a1 a2 a3 w K := by kernel_rfl
theorem ok_slices_choosePivotCmpFunc_wheel_timer {a0 a1 a2 a3 w K} (h : s_slices_choosePivotCmpFunc_wheel_timer a0 a1 a2 a3 w K) : c_slices_choosePivotCmpFunc_wheel_timer a0 a1 a2 a3 w K :=
  fn_sound pok Try.func117 (fn := Try.f117) (c := bodyOf Try.f117) (nt := 63) (by kernel_rfl) (by kernel_rfl) (rs := [.tmp 8, .tmp 9]) (by kernel_rfl) [.one (.int .i64), .one (.int .i64)] K (.seq .leaf (.seq .leaf (.seq .leaf (.seq .leaf (.seq .leaf (.seq .leaf (.seq (.seq .leaf (.cond (.seq (.seq .leaf (.cond (.seq .leaf (.seq .leaf .leaf)) .leaf)) .leaf) .leaf)) (.seq .leaf (.blk (.seq .leaf (.cond (.seq .leaf .leaf) (.seq .leaf (.cond (.seq .leaf .leaf) (.seq .leaf .leaf)))))))))))))) [(Value.slice a0.a a0.len a0.cap), (Value.int .i64 a1), (Value.int .i64 a2), a3] (by kernel_rfl) w ((e_slices_choosePivotCmpFunc_wheel_timer a0 a1 a2 a3 w K).mpr h)

/-- slices.reverseRangeCmpFunc[goosepond/wheel.timer] -/
def s_slices_reverseRangeCmpFunc_wheel_timer (a0 : SliceV) (a1 : Int) (a2 : Int) (a3 : Value) (w : World) (K : World → Prop) : Prop :=
 (LoopP (S := Int × Int × Unit) (fun s5 w6 next7 =>
 (bif (decide (s5.1 < s5.2.1)) then
 AtIx a0 3 s5.2.1 fun a8 =>
 Ld (.int .i64) w6.drew (a8.add 0) fun x9 =>
 Ld (.int .i64) w6.drew (a8.add 1) fun x10 =>
 Ld (.int .i64) w6.drew (a8.add 2) fun x11 =>
 AtIx a0 3 s5.1 fun a12 =>
 Ld (.int .i64) w6.drew (a12.add 0) fun x13 =>
 Ld (.int .i64) w6.drew (a12.add 1) fun x14 =>
 Ld (.int .i64) w6.drew (a12.add 2) fun x15 =>
 AtIx a0 3 s5.1 fun a16 =>
 StN [(Value.int .i64 x9), (Value.int .i64 x10), (Value.int .i64 x11)] w6.drew a16 0 fun w17 =>
 AtIx a0 3 s5.2.1 fun a18 =>
 StN [(Value.int .i64 x13), (Value.int .i64 x14), (Value.int .i64 x15)] w17 a18 0 fun w19 =>
 next7 ((IntKind.i64.wrap (s5.1 + 1)), (IntKind.i64.wrap (s5.2.1 - 1)), ()) w19
 else
 K w6)) (a1, (IntKind.i64.wrap (a2 - 1)), ()) w)
theorem e_slices_reverseRangeCmpFunc_wheel_timer (a0 : SliceV) (a1 : Int) (a2 : Int) (a3 : Value) (w : World) (K : World → Prop) : den Try.prog 34 (bodyOf Try.f118) none (.seq .leaf (.seq .leaf (.blk (.loop [(8, (.int .i64)), (9, (.int .i64))] (.seq (.seq .leaf (.cond .leaf .leaf)) (.blk (.seq .leaf (.seq .leaf .leaf)))))))) (argEnv 0 [(Value.slice a0.a a0.len a0.cap), (Value.int .i64 a1), (Value.int .i64 a2), a3]) [] w (retK Try.prog [] [] K) = s_slices_reverseRangeCmpFunc_wheel_timer a0 a1 a2 a3 w K := by kernel_rfl
theorem ok_slices_reverseRangeCmpFunc_wheel_timer {a0 a1 a2 a3 w K} (h : s_slices_reverseRangeCmpFunc_wheel_timer a0 a1 a2 a3 w K) : c_slices_reverseRangeCmpFunc_wheel_timer a0 a1 a2 a3 w K :=
  fn_sound pok Try.func118 (fn := Try.f118) (c := bodyOf Try.f118) (nt := 34) (by kernel_rfl) (by kernel_rfl) (rs := []) (by kernel_rfl) [] K (.seq .leaf (.seq .leaf (.blk (.loop [(8, (.int .i64)), (9, (.int .i64))] (.seq (.seq .leaf (.cond .leaf .leaf)) (.blk (.seq .leaf (.seq .leaf .leaf)))))))) [(Value.slice a0.a a0.len a0.cap), (Value.int .i64 a1), (Value.int .i64 a2), a3] (by kernel_rfl) w ((e_slices_reverseRangeCmpFunc_wheel_timer a0 a1 a2 a3 w K).mpr h)

/-- slices.partialInsertionSortCmpFunc[goosepond/wheel.timer] -/
def s_slices_partialInsertionSortCmpFunc_wheel_timer (a0 : SliceV) (a1 : Int) (a2 : Int) (a3 : Value) (w : World) (K : Bool → World → Prop) : Prop :=
 (LoopP (S := Int × Int × Unit) (fun s5 w6 next7 =>
 (bif (decide (s5.2.1 < 5)) then
 let J8 : Int → World → Prop := fun j9 w10 =>
 (next7 (j9, (IntKind.i64.wrap (s5.2.1 + 1)), ()) w10)
 LoopP (S := Int × Unit) (fun s11 w12 next13 =>
 let J14 : Bool → World → Prop := fun j15 w16 =>
 ((bif j15 then
 next13 ((IntKind.i64.wrap (s11.1 + 1)), ()) w16
 else
 (bif (s11.1 == a2) then
 K true w16
 else
 (bif (decide ((IntKind.i64.wrap (a2 - a1)) < 50)) then
 K false w16
 else
 AtIx a0 3 (IntKind.i64.wrap (s11.1 - 1)) fun a17 =>
 Ld (.int .i64) w16.drew (a17.add 0) fun x18 =>
 Ld (.int .i64) w16.drew (a17.add 1) fun x19 =>
 Ld (.int .i64) w16.drew (a17.add 2) fun x20 =>
 AtIx a0 3 s11.1 fun a21 =>
 Ld (.int .i64) w16.drew (a21.add 0) fun x22 =>
 Ld (.int .i64) w16.drew (a21.add 1) fun x23 =>
 Ld (.int .i64) w16.drew (a21.add 2) fun x24 =>
 AtIx a0 3 s11.1 fun a25 =>
 StN [(Value.int .i64 x18), (Value.int .i64 x19), (Value.int .i64 x20)] w16.drew a25 0 fun w26 =>
 AtIx a0 3 (IntKind.i64.wrap (s11.1 - 1)) fun a27 =>
 StN [(Value.int .i64 x22), (Value.int .i64 x23), (Value.int .i64 x24)] w26 a27 0 fun w28 =>
 let J29 : World → Prop := fun w30 =>
 ((bif (decide ((IntKind.i64.wrap (a2 - s11.1)) ≥ 2)) then
 LoopP (S := Int × Unit) (fun s31 w32 next33 =>
 (bif (decide (s31.1 < a2)) then
 AtIx a0 3 s31.1 fun a34 =>
 Ld (.int .i64) w32.drew (a34.add 0) fun x35 =>
 Ld (.int .i64) w32.drew (a34.add 1) fun x36 =>
 Ld (.int .i64) w32.drew (a34.add 2) fun x37 =>
 AtIx a0 3 (IntKind.i64.wrap (s31.1 - 1)) fun a38 =>
 Ld (.int .i64) w32.drew (a38.add 0) fun x39 =>
 Ld (.int .i64) w32.drew (a38.add 1) fun x40 =>
 Ld (.int .i64) w32.drew (a38.add 2) fun x41 =>
 CallV Try.prog [.one (.int .i64)] a3 [(Value.agg ⟨[(Value.int .i64 x35), (Value.int .i64 x36), (Value.int .i64 x37)]⟩), (Value.agg ⟨[(Value.int .i64 x39), (Value.int .i64 x40), (Value.int .i64 x41)]⟩)] w32.drew fun r42 w43 =>
 ∃ r44 : Int, r42 = (Value.int .i64 r44) ∧
 (bif (!(decide (r44 < 0))) then
 J8 s11.1 w43
 else
 AtIx a0 3 (IntKind.i64.wrap (s31.1 - 1)) fun a45 =>
 Ld (.int .i64) w43.drew (a45.add 0) fun x46 =>
 Ld (.int .i64) w43.drew (a45.add 1) fun x47 =>
 Ld (.int .i64) w43.drew (a45.add 2) fun x48 =>
 AtIx a0 3 s31.1 fun a49 =>
 Ld (.int .i64) w43.drew (a49.add 0) fun x50 =>
 Ld (.int .i64) w43.drew (a49.add 1) fun x51 =>
 Ld (.int .i64) w43.drew (a49.add 2) fun x52 =>
 AtIx a0 3 s31.1 fun a53 =>
 StN [(Value.int .i64 x46), (Value.int .i64 x47), (Value.int .i64 x48)] w43.drew a53 0 fun w54 =>
 AtIx a0 3 (IntKind.i64.wrap (s31.1 - 1)) fun a55 =>
 StN [(Value.int .i64 x50), (Value.int .i64 x51), (Value.int .i64 x52)] w54 a55 0 fun w56 =>
 next33 ((IntKind.i64.wrap (s31.1 + 1)), ()) w56)
 else
 J8 s11.1 w32)) ((IntKind.i64.wrap (s11.1 + 1)), ()) w30
 else
 J8 s11.1 w30))
 (bif (decide ((IntKind.i64.wrap (s11.1 - a1)) ≥ 2)) then
 LoopP (S := Int × Unit) (fun s57 w58 next59 =>
 (bif (decide (s57.1 ≥ 1)) then
 AtIx a0 3 s57.1 fun a60 =>
 Ld (.int .i64) w58.drew (a60.add 0) fun x61 =>
 Ld (.int .i64) w58.drew (a60.add 1) fun x62 =>
 Ld (.int .i64) w58.drew (a60.add 2) fun x63 =>
 AtIx a0 3 (IntKind.i64.wrap (s57.1 - 1)) fun a64 =>
 Ld (.int .i64) w58.drew (a64.add 0) fun x65 =>
 Ld (.int .i64) w58.drew (a64.add 1) fun x66 =>
 Ld (.int .i64) w58.drew (a64.add 2) fun x67 =>
 CallV Try.prog [.one (.int .i64)] a3 [(Value.agg ⟨[(Value.int .i64 x61), (Value.int .i64 x62), (Value.int .i64 x63)]⟩), (Value.agg ⟨[(Value.int .i64 x65), (Value.int .i64 x66), (Value.int .i64 x67)]⟩)] w58.drew fun r68 w69 =>
 ∃ r70 : Int, r68 = (Value.int .i64 r70) ∧
 (bif (!(decide (r70 < 0))) then
 J29 w69
 else
 AtIx a0 3 (IntKind.i64.wrap (s57.1 - 1)) fun a71 =>
 Ld (.int .i64) w69.drew (a71.add 0) fun x72 =>
 Ld (.int .i64) w69.drew (a71.add 1) fun x73 =>
 Ld (.int .i64) w69.drew (a71.add 2) fun x74 =>
 AtIx a0 3 s57.1 fun a75 =>
 Ld (.int .i64) w69.drew (a75.add 0) fun x76 =>
 Ld (.int .i64) w69.drew (a75.add 1) fun x77 =>
 Ld (.int .i64) w69.drew (a75.add 2) fun x78 =>
 AtIx a0 3 s57.1 fun a79 =>
 StN [(Value.int .i64 x72), (Value.int .i64 x73), (Value.int .i64 x74)] w69.drew a79 0 fun w80 =>
 AtIx a0 3 (IntKind.i64.wrap (s57.1 - 1)) fun a81 =>
 StN [(Value.int .i64 x76), (Value.int .i64 x77), (Value.int .i64 x78)] w80 a81 0 fun w82 =>
 next59 ((IntKind.i64.wrap (s57.1 - 1)), ()) w82)
 else
 J29 w58)) ((IntKind.i64.wrap (s11.1 - 1)), ()) w28
 else
 J29 w28)))))
 (bif (decide (s11.1 < a2)) then
 AtIx a0 3 s11.1 fun a83 =>
 Ld (.int .i64) w12.drew (a83.add 0) fun x84 =>
 Ld (.int .i64) w12.drew (a83.add 1) fun x85 =>
 Ld (.int .i64) w12.drew (a83.add 2) fun x86 =>
 AtIx a0 3 (IntKind.i64.wrap (s11.1 - 1)) fun a87 =>
 Ld (.int .i64) w12.drew (a87.add 0) fun x88 =>
 Ld (.int .i64) w12.drew (a87.add 1) fun x89 =>
 Ld (.int .i64) w12.drew (a87.add 2) fun x90 =>
 CallV Try.prog [.one (.int .i64)] a3 [(Value.agg ⟨[(Value.int .i64 x84), (Value.int .i64 x85), (Value.int .i64 x86)]⟩), (Value.agg ⟨[(Value.int .i64 x88), (Value.int .i64 x89), (Value.int .i64 x90)]⟩)] w12.drew fun r91 w92 =>
 ∃ r93 : Int, r91 = (Value.int .i64 r93) ∧
 J14 (!(decide (r93 < 0))) w92
 else
 J14 false w12.drew)) (s5.1, ()) w6
 else
 K false w6)) ((IntKind.i64.wrap (a1 + 1)), 0, ()) w)
theorem e_slices_partialInsertionSortCmpFunc_wheel_timer (a0 : SliceV) (a1 : Int) (a2 : Int) (a3 : Value) (w : World) (K : Bool → World → Prop) : den Try.prog 141 (bodyOf Try.f119) none (.seq .leaf (.seq .leaf (.seq (.seq .leaf (.blk (.loop [(9, (.int .i64)), (10, (.int .i64))] (.seq (.seq .leaf (.cond .leaf .leaf)) (.seq (.blk (.seq (.blk (.loop [(9, (.int .i64))] (.seq (.seq .leaf (.cond .leaf .leaf)) (.blk .leaf)))) (.seq (.seq .leaf (.cond (.seq .leaf .leaf) .leaf)) (.seq (.seq .leaf (.cond (.seq .leaf .leaf) .leaf)) (.seq .leaf (.seq (.seq .leaf (.cond (.seq .leaf (.blk (.loop [(11, (.int .i64))] (.seq (.seq .leaf (.cond .leaf .leaf)) (.seq (.blk (.seq (.seq .leaf (.cond .leaf .leaf)) .leaf)) .leaf))))) .leaf)) (.seq .leaf (.cond (.seq .leaf (.blk (.loop [(12, (.int .i64))] (.seq (.seq .leaf (.cond .leaf .leaf)) (.seq (.blk (.seq (.seq .leaf (.cond .leaf .leaf)) .leaf)) .leaf))))) .leaf)))))))) .leaf))))) (.seq .leaf .leaf)))) (argEnv 0 [(Value.slice a0.a a0.len a0.cap), (Value.int .i64 a1), (Value.int .i64 a2), a3]) [] w (retK Try.prog [.tmp 8] [.one .bool] K) = s_slices_partialInsertionSortCmpFunc_wheel_timer a0 a1 a2 a3 w K := by kernel_rfl
theorem ok_slices_partialInsertionSortCmpFunc_wheel_timer {a0 a1 a2 a3 w K} (h : s_slices_partialInsertionSortCmpFunc_wheel_timer a0 a1 a2 a3 w K) : c_slices_partialInsertionSortCmpFunc_wheel_timer a0 a1 a2 a3 w K :=
  fn_sound pok Try.func119 (fn := Try.f119) (c := bodyOf Try.f119) (nt := 141) (by kernel_rfl) (by kernel_rfl) (rs := [.tmp 8]) (by kernel_rfl) [.one .bool] K (.seq .leaf (.seq .leaf (.seq (.seq .leaf (.blk (.loop [(9, (.int .i64)), (10, (.int .i64))] (.seq (.seq .leaf (.cond .leaf .leaf)) (.seq (.blk (.seq (.blk (.loop [(9, (.int .i64))] (.seq (.seq .leaf (.cond .leaf .leaf)) (.blk .leaf)))) (.seq (.seq .leaf (.cond (.seq .leaf .leaf) .leaf)) (.seq (.seq .leaf (.cond (.seq .leaf .leaf) .leaf)) (.seq .leaf (.seq (.seq .leaf (.cond (.seq .leaf (.blk (.loop [(11, (.int .i64))] (.seq (.seq .leaf (.cond .leaf .leaf)) (.seq (.blk (.seq (.seq .leaf (.cond .leaf .leaf)) .leaf)) .leaf))))) .leaf)) (.seq .leaf (.cond (.seq .leaf (.blk (.loop [(12, (.int .i64))] (.seq (.seq .leaf (.cond .leaf .leaf)) (.seq (.blk (.seq (.seq .leaf (.cond .leaf .leaf)) .leaf)) .leaf))))) .leaf)))))))) .leaf))))) (.seq .leaf .leaf)))) [(Value.slice a0.a a0.len a0.cap), (Value.int .i64 a1), (Value.int .i64 a2), a3] (by kernel_rfl) w ((e_slices_partialInsertionSortCmpFunc_wheel_timer a0 a1 a2 a3 w K).mpr h)

/-- slices.partitionEqualCmpFunc[goosepond/wheel.timer] -/
def s_slices_partitionEqualCmpFunc_wheel_timer (a0 : SliceV) (a1 : Int) (a2 : Int) (a3 : Int) (a4 : Value) (w : World) (K : Int → World → Prop) : Prop :=
 (AtIx a0 3 a3 fun a6 =>
 Ld (.int .i64) w.drew (a6.add 0) fun x7 =>
 Ld (.int .i64) w.drew (a6.add 1) fun x8 =>
 Ld (.int .i64) w.drew (a6.add 2) fun x9 =>
 AtIx a0 3 a1 fun a10 =>
 Ld (.int .i64) w.drew (a10.add 0) fun x11 =>
 Ld (.int .i64) w.drew (a10.add 1) fun x12 =>
 Ld (.int .i64) w.drew (a10.add 2) fun x13 =>
 AtIx a0 3 a1 fun a14 =>
 StN [(Value.int .i64 x7), (Value.int .i64 x8), (Value.int .i64 x9)] w.drew a14 0 fun w15 =>
 AtIx a0 3 a3 fun a16 =>
 StN [(Value.int .i64 x11), (Value.int .i64 x12), (Value.int .i64 x13)] w15 a16 0 fun w17 =>
 LoopP (S := Int × Int × Unit) (fun s18 w19 next20 =>
 LoopP (S := Int × Unit) (fun s21 w22 next23 =>
 let J24 : Bool → World → Prop := fun j25 w26 =>
 ((bif j25 then
 next23 ((IntKind.i64.wrap (s21.1 + 1)), ()) w26
 else
 LoopP (S := Int × Unit) (fun s27 w28 next29 =>
 let J30 : Bool → World → Prop := fun j31 w32 =>
 ((bif j31 then
 next29 ((IntKind.i64.wrap (s27.1 - 1)), ()) w32
 else
 (bif (decide (s21.1 > s27.1)) then
 K s21.1 w32
 else
 AtIx a0 3 s27.1 fun a33 =>
 Ld (.int .i64) w32.drew (a33.add 0) fun x34 =>
 Ld (.int .i64) w32.drew (a33.add 1) fun x35 =>
 Ld (.int .i64) w32.drew (a33.add 2) fun x36 =>
 AtIx a0 3 s21.1 fun a37 =>
 Ld (.int .i64) w32.drew (a37.add 0) fun x38 =>
 Ld (.int .i64) w32.drew (a37.add 1) fun x39 =>
 Ld (.int .i64) w32.drew (a37.add 2) fun x40 =>
 AtIx a0 3 s21.1 fun a41 =>
 StN [(Value.int .i64 x34), (Value.int .i64 x35), (Value.int .i64 x36)] w32.drew a41 0 fun w42 =>
 AtIx a0 3 s27.1 fun a43 =>
 StN [(Value.int .i64 x38), (Value.int .i64 x39), (Value.int .i64 x40)] w42 a43 0 fun w44 =>
 next20 ((IntKind.i64.wrap (s21.1 + 1)), (IntKind.i64.wrap (s27.1 - 1)), ()) w44)))
 (bif (decide (s21.1 ≤ s27.1)) then
 AtIx a0 3 a1 fun a45 =>
 Ld (.int .i64) w28.drew (a45.add 0) fun x46 =>
 Ld (.int .i64) w28.drew (a45.add 1) fun x47 =>
 Ld (.int .i64) w28.drew (a45.add 2) fun x48 =>
 AtIx a0 3 s27.1 fun a49 =>
 Ld (.int .i64) w28.drew (a49.add 0) fun x50 =>
 Ld (.int .i64) w28.drew (a49.add 1) fun x51 =>
 Ld (.int .i64) w28.drew (a49.add 2) fun x52 =>
 CallV Try.prog [.one (.int .i64)] a4 [(Value.agg ⟨[(Value.int .i64 x46), (Value.int .i64 x47), (Value.int .i64 x48)]⟩), (Value.agg ⟨[(Value.int .i64 x50), (Value.int .i64 x51), (Value.int .i64 x52)]⟩)] w28.drew fun r53 w54 =>
 ∃ r55 : Int, r53 = (Value.int .i64 r55) ∧
 J30 (decide (r55 < 0)) w54
 else
 J30 false w28.drew)) (s18.2.1, ()) w26))
 (bif (decide (s21.1 ≤ s18.2.1)) then
 AtIx a0 3 a1 fun a56 =>
 Ld (.int .i64) w22.drew (a56.add 0) fun x57 =>
 Ld (.int .i64) w22.drew (a56.add 1) fun x58 =>
 Ld (.int .i64) w22.drew (a56.add 2) fun x59 =>
 AtIx a0 3 s21.1 fun a60 =>
 Ld (.int .i64) w22.drew (a60.add 0) fun x61 =>
 Ld (.int .i64) w22.drew (a60.add 1) fun x62 =>
 Ld (.int .i64) w22.drew (a60.add 2) fun x63 =>
 CallV Try.prog [.one (.int .i64)] a4 [(Value.agg ⟨[(Value.int .i64 x57), (Value.int .i64 x58), (Value.int .i64 x59)]⟩), (Value.agg ⟨[(Value.int .i64 x61), (Value.int .i64 x62), (Value.int .i64 x63)]⟩)] w22.drew fun r64 w65 =>
 ∃ r66 : Int, r64 = (Value.int .i64 r66) ∧
 J24 (!(decide (r66 < 0))) w65
 else
 J24 false w22.drew)) (s18.1, ()) w19) ((IntKind.i64.wrap (a1 + 1)), (IntKind.i64.wrap (a2 - 1)), ()) w17)
theorem e_slices_partitionEqualCmpFunc_wheel_timer (a0 : SliceV) (a1 : Int) (a2 : Int) (a3 : Int) (a4 : Value) (w : World) (K : Int → World → Prop) : den Try.prog 90 (bodyOf Try.f120) none (.seq .leaf (.seq .leaf (.seq .leaf (.seq (.blk (.loop [(11, (.int .i64)), (12, (.int .i64))] (.blk (.seq (.blk (.loop [(11, (.int .i64))] (.seq (.seq .leaf (.cond .leaf .leaf)) (.blk .leaf)))) (.seq (.blk (.loop [(12, (.int .i64))] (.seq (.seq .leaf (.cond .leaf .leaf)) (.blk .leaf)))) (.seq (.seq .leaf (.cond .leaf .leaf)) (.seq .leaf (.seq .leaf .leaf)))))))) (.seq .leaf .leaf))))) (argEnv 0 [(Value.slice a0.a a0.len a0.cap), (Value.int .i64 a1), (Value.int .i64 a2), (Value.int .i64 a3), a4]) [] w (retK Try.prog [.tmp 10] [.one (.int .i64)] K) = s_slices_partitionEqualCmpFunc_wheel_timer a0 a1 a2 a3 a4 w K := by kernel_rfl
theorem ok_slices_partitionEqualCmpFunc_wheel_timer {a0 a1 a2 a3 a4 w K} (h : s_slices_partitionEqualCmpFunc_wheel_timer a0 a1 a2 a3 a4 w K) : c_slices_partitionEqualCmpFunc_wheel_timer a0 a1 a2 a3 a4 w K :=
  fn_sound pok Try.func120 (fn := Try.f120) (c := bodyOf Try.f120) (nt := 90) (by kernel_rfl) (by kernel_rfl) (rs := [.tmp 10]) (by kernel_rfl) [.one (.int .i64)] K (.seq .leaf (.seq .leaf (.seq .leaf (.seq (.blk (.loop [(11, (.int .i64)), (12, (.int .i64))] (.blk (.seq (.blk (.loop [(11, (.int .i64))] (.seq (.seq .leaf (.cond .leaf .leaf)) (.blk .leaf)))) (.seq (.blk (.loop [(12, (.int .i64))] (.seq (.seq .leaf (.cond .leaf .leaf)) (.blk .leaf)))) (.seq (.seq .leaf (.cond .leaf .leaf)) (.seq .leaf (.seq .leaf .leaf)))))))) (.seq .leaf .leaf))))) [(Value.slice a0.a a0.len a0.cap), (Value.int .i64 a1), (Value.int .i64 a2), (Value.int .i64 a3), a4] (by kernel_rfl) w ((e_slices_partitionEqualCmpFunc_wheel_timer a0 a1 a2 a3 a4 w K).mpr h)

/-- slices.partitionCmpFunc[goosepond/wheel.timer] -/
def s_slices_partitionCmpFunc_wheel_timer (a0 : SliceV) (a1 : Int) (a2 : Int) (a3 : Int) (a4 : Value) (w : World) (K : Int → Bool → World → Prop) : Prop :=
 (AtIx a0 3 a3 fun a6 =>
 Ld (.int .i64) w.drew (a6.add 0) fun x7 =>
 Ld (.int .i64) w.drew (a6.add 1) fun x8 =>
 Ld (.int .i64) w.drew (a6.add 2) fun x9 =>
 AtIx a0 3 a1 fun a10 =>
 Ld (.int .i64) w.drew (a10.add 0) fun x11 =>
 Ld (.int .i64) w.drew (a10.add 1) fun x12 =>
 Ld (.int .i64) w.drew (a10.add 2) fun x13 =>
 AtIx a0 3 a1 fun a14 =>
 StN [(Value.int .i64 x7), (Value.int .i64 x8), (Value.int .i64 x9)] w.drew a14 0 fun w15 =>
 AtIx a0 3 a3 fun a16 =>
 StN [(Value.int .i64 x11), (Value.int .i64 x12), (Value.int .i64 x13)] w15 a16 0 fun w17 =>
 LoopP (S := Int × Unit) (fun s18 w19 next20 =>
 let J21 : Bool → World → Prop := fun j22 w23 =>
 ((bif j22 then
 next20 ((IntKind.i64.wrap (s18.1 + 1)), ()) w23
 else
 LoopP (S := Int × Unit) (fun s24 w25 next26 =>
 let J27 : Bool → World → Prop := fun j28 w29 =>
 ((bif j28 then
 next26 ((IntKind.i64.wrap (s24.1 - 1)), ()) w29
 else
 (bif (decide (s18.1 > s24.1)) then
 AtIx a0 3 a1 fun a30 =>
 Ld (.int .i64) w29.drew (a30.add 0) fun x31 =>
 Ld (.int .i64) w29.drew (a30.add 1) fun x32 =>
 Ld (.int .i64) w29.drew (a30.add 2) fun x33 =>
 AtIx a0 3 s24.1 fun a34 =>
 Ld (.int .i64) w29.drew (a34.add 0) fun x35 =>
 Ld (.int .i64) w29.drew (a34.add 1) fun x36 =>
 Ld (.int .i64) w29.drew (a34.add 2) fun x37 =>
 AtIx a0 3 s24.1 fun a38 =>
 StN [(Value.int .i64 x31), (Value.int .i64 x32), (Value.int .i64 x33)] w29.drew a38 0 fun w39 =>
 AtIx a0 3 a1 fun a40 =>
 StN [(Value.int .i64 x35), (Value.int .i64 x36), (Value.int .i64 x37)] w39 a40 0 fun w41 =>
 K s24.1 true w41
 else
 AtIx a0 3 s24.1 fun a42 =>
 Ld (.int .i64) w29.drew (a42.add 0) fun x43 =>
 Ld (.int .i64) w29.drew (a42.add 1) fun x44 =>
 Ld (.int .i64) w29.drew (a42.add 2) fun x45 =>
 AtIx a0 3 s18.1 fun a46 =>
 Ld (.int .i64) w29.drew (a46.add 0) fun x47 =>
 Ld (.int .i64) w29.drew (a46.add 1) fun x48 =>
 Ld (.int .i64) w29.drew (a46.add 2) fun x49 =>
 AtIx a0 3 s18.1 fun a50 =>
 StN [(Value.int .i64 x43), (Value.int .i64 x44), (Value.int .i64 x45)] w29.drew a50 0 fun w51 =>
 AtIx a0 3 s24.1 fun a52 =>
 StN [(Value.int .i64 x47), (Value.int .i64 x48), (Value.int .i64 x49)] w51 a52 0 fun w53 =>
 LoopP (S := Int × Int × Unit) (fun s54 w55 next56 =>
 LoopP (S := Int × Unit) (fun s57 w58 next59 =>
 let J60 : Bool → World → Prop := fun j61 w62 =>
 ((bif j61 then
 next59 ((IntKind.i64.wrap (s57.1 + 1)), ()) w62
 else
 LoopP (S := Int × Unit) (fun s63 w64 next65 =>
 let J66 : Bool → World → Prop := fun j67 w68 =>
 ((bif j67 then
 next65 ((IntKind.i64.wrap (s63.1 - 1)), ()) w68
 else
 (bif (decide (s57.1 > s63.1)) then
 AtIx a0 3 a1 fun a69 =>
 Ld (.int .i64) w68.drew (a69.add 0) fun x70 =>
 Ld (.int .i64) w68.drew (a69.add 1) fun x71 =>
 Ld (.int .i64) w68.drew (a69.add 2) fun x72 =>
 AtIx a0 3 s63.1 fun a73 =>
 Ld (.int .i64) w68.drew (a73.add 0) fun x74 =>
 Ld (.int .i64) w68.drew (a73.add 1) fun x75 =>
 Ld (.int .i64) w68.drew (a73.add 2) fun x76 =>
 AtIx a0 3 s63.1 fun a77 =>
 StN [(Value.int .i64 x70), (Value.int .i64 x71), (Value.int .i64 x72)] w68.drew a77 0 fun w78 =>
 AtIx a0 3 a1 fun a79 =>
 StN [(Value.int .i64 x74), (Value.int .i64 x75), (Value.int .i64 x76)] w78 a79 0 fun w80 =>
 K s63.1 false w80
 else
 AtIx a0 3 s63.1 fun a81 =>
 Ld (.int .i64) w68.drew (a81.add 0) fun x82 =>
 Ld (.int .i64) w68.drew (a81.add 1) fun x83 =>
 Ld (.int .i64) w68.drew (a81.add 2) fun x84 =>
 AtIx a0 3 s57.1 fun a85 =>
 Ld (.int .i64) w68.drew (a85.add 0) fun x86 =>
 Ld (.int .i64) w68.drew (a85.add 1) fun x87 =>
 Ld (.int .i64) w68.drew (a85.add 2) fun x88 =>
 AtIx a0 3 s57.1 fun a89 =>
 StN [(Value.int .i64 x82), (Value.int .i64 x83), (Value.int .i64 x84)] w68.drew a89 0 fun w90 =>
 AtIx a0 3 s63.1 fun a91 =>
 StN [(Value.int .i64 x86), (Value.int .i64 x87), (Value.int .i64 x88)] w90 a91 0 fun w92 =>
 next56 ((IntKind.i64.wrap (s57.1 + 1)), (IntKind.i64.wrap (s63.1 - 1)), ()) w92)))
 (bif (decide (s57.1 ≤ s63.1)) then
 AtIx a0 3 s63.1 fun a93 =>
 Ld (.int .i64) w64.drew (a93.add 0) fun x94 =>
 Ld (.int .i64) w64.drew (a93.add 1) fun x95 =>
 Ld (.int .i64) w64.drew (a93.add 2) fun x96 =>
 AtIx a0 3 a1 fun a97 =>
 Ld (.int .i64) w64.drew (a97.add 0) fun x98 =>
 Ld (.int .i64) w64.drew (a97.add 1) fun x99 =>
 Ld (.int .i64) w64.drew (a97.add 2) fun x100 =>
 CallV Try.prog [.one (.int .i64)] a4 [(Value.agg ⟨[(Value.int .i64 x94), (Value.int .i64 x95), (Value.int .i64 x96)]⟩), (Value.agg ⟨[(Value.int .i64 x98), (Value.int .i64 x99), (Value.int .i64 x100)]⟩)] w64.drew fun r101 w102 =>
 ∃ r103 : Int, r101 = (Value.int .i64 r103) ∧
 J66 (!(decide (r103 < 0))) w102
 else
 J66 false w64.drew)) (s54.2.1, ()) w62))
 (bif (decide (s57.1 ≤ s54.2.1)) then
 AtIx a0 3 s57.1 fun a104 =>
 Ld (.int .i64) w58.drew (a104.add 0) fun x105 =>
 Ld (.int .i64) w58.drew (a104.add 1) fun x106 =>
 Ld (.int .i64) w58.drew (a104.add 2) fun x107 =>
 AtIx a0 3 a1 fun a108 =>
 Ld (.int .i64) w58.drew (a108.add 0) fun x109 =>
 Ld (.int .i64) w58.drew (a108.add 1) fun x110 =>
 Ld (.int .i64) w58.drew (a108.add 2) fun x111 =>
 CallV Try.prog [.one (.int .i64)] a4 [(Value.agg ⟨[(Value.int .i64 x105), (Value.int .i64 x106), (Value.int .i64 x107)]⟩), (Value.agg ⟨[(Value.int .i64 x109), (Value.int .i64 x110), (Value.int .i64 x111)]⟩)] w58.drew fun r112 w113 =>
 ∃ r114 : Int, r112 = (Value.int .i64 r114) ∧
 J60 (decide (r114 < 0)) w113
 else
 J60 false w58.drew)) (s54.1, ()) w55) ((IntKind.i64.wrap (s18.1 + 1)), (IntKind.i64.wrap (s24.1 - 1)), ()) w53)))
 (bif (decide (s18.1 ≤ s24.1)) then
 AtIx a0 3 s24.1 fun a115 =>
 Ld (.int .i64) w25.drew (a115.add 0) fun x116 =>
 Ld (.int .i64) w25.drew (a115.add 1) fun x117 =>
 Ld (.int .i64) w25.drew (a115.add 2) fun x118 =>
 AtIx a0 3 a1 fun a119 =>
 Ld (.int .i64) w25.drew (a119.add 0) fun x120 =>
 Ld (.int .i64) w25.drew (a119.add 1) fun x121 =>
 Ld (.int .i64) w25.drew (a119.add 2) fun x122 =>
 CallV Try.prog [.one (.int .i64)] a4 [(Value.agg ⟨[(Value.int .i64 x116), (Value.int .i64 x117), (Value.int .i64 x118)]⟩), (Value.agg ⟨[(Value.int .i64 x120), (Value.int .i64 x121), (Value.int .i64 x122)]⟩)] w25.drew fun r123 w124 =>
 ∃ r125 : Int, r123 = (Value.int .i64 r125) ∧
 J27 (!(decide (r125 < 0))) w124
 else
 J27 false w25.drew)) ((IntKind.i64.wrap (a2 - 1)), ()) w23))
 (bif (decide (s18.1 ≤ (IntKind.i64.wrap (a2 - 1)))) then
 AtIx a0 3 s18.1 fun a126 =>
 Ld (.int .i64) w19.drew (a126.add 0) fun x127 =>
 Ld (.int .i64) w19.drew (a126.add 1) fun x128 =>
 Ld (.int .i64) w19.drew (a126.add 2) fun x129 =>
 AtIx a0 3 a1 fun a130 =>
 Ld (.int .i64) w19.drew (a130.add 0) fun x131 =>
 Ld (.int .i64) w19.drew (a130.add 1) fun x132 =>
 Ld (.int .i64) w19.drew (a130.add 2) fun x133 =>
 CallV Try.prog [.one (.int .i64)] a4 [(Value.agg ⟨[(Value.int .i64 x127), (Value.int .i64 x128), (Value.int .i64 x129)]⟩), (Value.agg ⟨[(Value.int .i64 x131), (Value.int .i64 x132), (Value.int .i64 x133)]⟩)] w19.drew fun r134 w135 =>
 ∃ r136 : Int, r134 = (Value.int .i64 r136) ∧
 J21 (decide (r136 < 0)) w135
 else
 J21 false w19.drew)) ((IntKind.i64.wrap (a1 + 1)), ()) w17)
theorem e_slices_partitionCmpFunc_wheel_timer (a0 : SliceV) (a1 : Int) (a2 : Int) (a3 : Int) (a4 : Value) (w : World) (K : Int → Bool → World → Prop) : den Try.prog 178 (bodyOf Try.f121) none (.seq .leaf (.seq .leaf (.seq .leaf (.seq (.blk (.loop [(12, (.int .i64))] (.seq (.seq .leaf (.cond .leaf .leaf)) (.blk .leaf)))) (.seq (.blk (.loop [(13, (.int .i64))] (.seq (.seq .leaf (.cond .leaf .leaf)) (.blk .leaf)))) (.seq (.seq .leaf (.cond (.seq .leaf (.seq .leaf .leaf)) .leaf)) (.seq .leaf (.seq .leaf (.seq .leaf (.seq (.blk (.loop [(12, (.int .i64)), (13, (.int .i64))] (.blk (.seq (.blk (.loop [(12, (.int .i64))] (.seq (.seq .leaf (.cond .leaf .leaf)) (.blk .leaf)))) (.seq (.blk (.loop [(13, (.int .i64))] (.seq (.seq .leaf (.cond .leaf .leaf)) (.blk .leaf)))) (.seq (.seq .leaf (.cond .leaf .leaf)) (.seq .leaf (.seq .leaf .leaf)))))))) (.seq .leaf (.seq .leaf .leaf)))))))))))) (argEnv 0 [(Value.slice a0.a a0.len a0.cap), (Value.int .i64 a1), (Value.int .i64 a2), (Value.int .i64 a3), a4]) [] w (retK Try.prog [.tmp 10, .tmp 11] [.one (.int .i64), .one .bool] K) = s_slices_partitionCmpFunc_wheel_timer a0 a1 a2 a3 a4 w K := by kernel_rfl
theorem ok_slices_partitionCmpFunc_wheel_timer {a0 a1 a2 a3 a4 w K} (h : s_slices_partitionCmpFunc_wheel_timer a0 a1 a2 a3 a4 w K) : c_slices_partitionCmpFunc_wheel_timer a0 a1 a2 a3 a4 w K :=
  fn_sound pok Try.func121 (fn := Try.f121) (c := bodyOf Try.f121) (nt := 178) (by kernel_rfl) (by kernel_rfl) (rs := [.tmp 10, .tmp 11]) (by kernel_rfl) [.one (.int .i64), .one .bool] K (.seq .leaf (.seq .leaf (.seq .leaf (.seq (.blk (.loop [(12, (.int .i64))] (.seq (.seq .leaf (.cond .leaf .leaf)) (.blk .leaf)))) (.seq (.blk (.loop [(13, (.int .i64))] (.seq (.seq .leaf (.cond .leaf .leaf)) (.blk .leaf)))) (.seq (.seq .leaf (.cond (.seq .leaf (.seq .leaf .leaf)) .leaf)) (.seq .leaf (.seq .leaf (.seq .leaf (.seq (.blk (.loop [(12, (.int .i64)), (13, (.int .i64))] (.blk (.seq (.blk (.loop [(12, (.int .i64))] (.seq (.seq .leaf (.cond .leaf .leaf)) (.blk .leaf)))) (.seq (.blk (.loop [(13, (.int .i64))] (.seq (.seq .leaf (.cond .leaf .leaf)) (.blk .leaf)))) (.seq (.seq .leaf (.cond .leaf .leaf)) (.seq .leaf (.seq .leaf .leaf)))))))) (.seq .leaf (.seq .leaf .leaf)))))))))))) [(Value.slice a0.a a0.len a0.cap), (Value.int .i64 a1), (Value.int .i64 a2), (Value.int .i64 a3), a4] (by kernel_rfl) w ((e_slices_partitionCmpFunc_wheel_timer a0 a1 a2 a3 a4 w K).mpr h)

/-- slices.nextPowerOfTwo -/
def s_slices_nextPowerOfTwo (a0 : Int) (w : World) (K : Int → World → Prop) : Prop :=
 (c_math_bits_Len (IntKind.u64.wrap a0) w fun r2 w3 =>
 0 ≤ r2 ∧
 K (shlI .u64 1 r2) w3)
theorem e_slices_nextPowerOfTwo (a0 : Int) (w : World) (K : Int → World → Prop) : den Try.prog 7 (bodyOf Try.f123) none (.seq .leaf (.seq .leaf .leaf)) (argEnv 0 [(Value.int .i64 a0)]) [] w (retK Try.prog [.tmp 2] [.one (.int .u64)] K) = s_slices_nextPowerOfTwo a0 w K := by kernel_rfl
theorem ok_slices_nextPowerOfTwo {a0 w K} (h : s_slices_nextPowerOfTwo a0 w K) : c_slices_nextPowerOfTwo a0 w K :=
  fn_sound pok Try.func123 (fn := Try.f123) (c := bodyOf Try.f123) (nt := 7) (by kernel_rfl) (by kernel_rfl) (rs := [.tmp 2]) (by kernel_rfl) [.one (.int .u64)] K (.seq .leaf (.seq .leaf .leaf)) [(Value.int .i64 a0)] (by kernel_rfl) w ((e_slices_nextPowerOfTwo a0 w K).mpr h)

/-- (*slices.xorshift).Next -/
def s_slices_xorshift_Next (a0 : Option Addr) (w : World) (K : Int → World → Prop) : Prop :=
 (∃ a2 : Addr, a0 = some a2 ∧
 Ld (.int .u64) w.drew a2 fun x3 =>
 ∃ a4 : Addr, a0 = some a4 ∧
 Ld (.int .u64) w.drew a4 fun x5 =>
 0 ≤ (13 : Int) ∧
 ∃ a6 : Addr, a0 = some a6 ∧
 St w.drew a6 (Value.int .u64 (xorI .u64 x3 (shlI .u64 x5 13))) fun w7 =>
 ∃ a8 : Addr, a0 = some a8 ∧
 Ld (.int .u64) w7.drew a8 fun x9 =>
 ∃ a10 : Addr, a0 = some a10 ∧
 Ld (.int .u64) w7.drew a10 fun x11 =>
 0 ≤ (7 : Int) ∧
 ∃ a12 : Addr, a0 = some a12 ∧
 St w7.drew a12 (Value.int .u64 (xorI .u64 x9 (shrI .u64 x11 7))) fun w13 =>
 ∃ a14 : Addr, a0 = some a14 ∧
 Ld (.int .u64) w13.drew a14 fun x15 =>
 ∃ a16 : Addr, a0 = some a16 ∧
 Ld (.int .u64) w13.drew a16 fun x17 =>
 0 ≤ (17 : Int) ∧
 ∃ a18 : Addr, a0 = some a18 ∧
 St w13.drew a18 (Value.int .u64 (xorI .u64 x15 (shlI .u64 x17 17))) fun w19 =>
 ∃ a20 : Addr, a0 = some a20 ∧
 Ld (.int .u64) w19 a20 fun x21 =>
 K x21 w19)
theorem e_slices_xorshift_Next (a0 : Option Addr) (w : World) (K : Int → World → Prop) : den Try.prog 33 (bodyOf Try.f124) none (.seq .leaf (.seq .leaf (.seq .leaf (.seq .leaf (.seq .leaf .leaf))))) (argEnv 0 [(Value.pointer a0)]) [] w (retK Try.prog [.tmp 2] [.one (.int .u64)] K) = s_slices_xorshift_Next a0 w K := by kernel_rfl
theorem ok_slices_xorshift_Next {a0 w K} (h : s_slices_xorshift_Next a0 w K) : c_slices_xorshift_Next a0 w K :=
  fn_sound pok Try.func124 (fn := Try.f124) (c := bodyOf Try.f124) (nt := 33) (by kernel_rfl) (by kernel_rfl) (rs := [.tmp 2]) (by kernel_rfl) [.one (.int .u64)] K (.seq .leaf (.seq .leaf (.seq .leaf (.seq .leaf (.seq .leaf .leaf))))) [(Value.pointer a0)] (by kernel_rfl) w ((e_slices_xorshift_Next a0 w K).mpr h)

/-- slices.siftDownCmpFunc[goosepond/wheel.timer] -/
def s_slices_siftDownCmpFunc_wheel_timer (a0 : SliceV) (a1 : Int) (a2 : Int) (a3 : Int) (a4 : Value) (w : World) (K : World → Prop) : Prop :=
 (LoopP (S := Int × Unit) (fun s6 w7 next8 =>
 (bif (decide ((IntKind.i64.wrap ((IntKind.i64.wrap (2 * s6.1)) + 1)) ≥ a2)) then
 K w7
 else
 let J9 : Int → World → Prop := fun j10 w11 =>
 (AtIx a0 3 (IntKind.i64.wrap (a3 + s6.1)) fun a12 =>
 Ld (.int .i64) w11.drew (a12.add 0) fun x13 =>
 Ld (.int .i64) w11.drew (a12.add 1) fun x14 =>
 Ld (.int .i64) w11.drew (a12.add 2) fun x15 =>
 AtIx a0 3 (IntKind.i64.wrap (a3 + j10)) fun a16 =>
 Ld (.int .i64) w11.drew (a16.add 0) fun x17 =>
 Ld (.int .i64) w11.drew (a16.add 1) fun x18 =>
 Ld (.int .i64) w11.drew (a16.add 2) fun x19 =>
 CallV Try.prog [.one (.int .i64)] a4 [(Value.agg ⟨[(Value.int .i64 x13), (Value.int .i64 x14), (Value.int .i64 x15)]⟩), (Value.agg ⟨[(Value.int .i64 x17), (Value.int .i64 x18), (Value.int .i64 x19)]⟩)] w11.drew fun r20 w21 =>
 ∃ r22 : Int, r20 = (Value.int .i64 r22) ∧
 (bif (!(decide (r22 < 0))) then
 K w21
 else
 AtIx a0 3 (IntKind.i64.wrap (a3 + j10)) fun a23 =>
 Ld (.int .i64) w21.drew (a23.add 0) fun x24 =>
 Ld (.int .i64) w21.drew (a23.add 1) fun x25 =>
 Ld (.int .i64) w21.drew (a23.add 2) fun x26 =>
 AtIx a0 3 (IntKind.i64.wrap (a3 + s6.1)) fun a27 =>
 Ld (.int .i64) w21.drew (a27.add 0) fun x28 =>
 Ld (.int .i64) w21.drew (a27.add 1) fun x29 =>
 Ld (.int .i64) w21.drew (a27.add 2) fun x30 =>
 AtIx a0 3 (IntKind.i64.wrap (a3 + s6.1)) fun a31 =>
 StN [(Value.int .i64 x24), (Value.int .i64 x25), (Value.int .i64 x26)] w21.drew a31 0 fun w32 =>
 AtIx a0 3 (IntKind.i64.wrap (a3 + j10)) fun a33 =>
 StN [(Value.int .i64 x28), (Value.int .i64 x29), (Value.int .i64 x30)] w32 a33 0 fun w34 =>
 next8 (j10, ()) w34))
 let J35 : Bool → World → Prop := fun j36 w37 =>
 ((bif j36 then
 J9 (IntKind.i64.wrap ((IntKind.i64.wrap ((IntKind.i64.wrap (2 * s6.1)) + 1)) + 1)) w37
 else
 J9 (IntKind.i64.wrap ((IntKind.i64.wrap (2 * s6.1)) + 1)) w37))
 (bif (decide ((IntKind.i64.wrap ((IntKind.i64.wrap ((IntKind.i64.wrap (2 * s6.1)) + 1)) + 1)) < a2)) then
 AtIx a0 3 (IntKind.i64.wrap (a3 + (IntKind.i64.wrap ((IntKind.i64.wrap (2 * s6.1)) + 1)))) fun a38 =>
 Ld (.int .i64) w7.drew (a38.add 0) fun x39 =>
 Ld (.int .i64) w7.drew (a38.add 1) fun x40 =>
 Ld (.int .i64) w7.drew (a38.add 2) fun x41 =>
 AtIx a0 3 (IntKind.i64.wrap ((IntKind.i64.wrap (a3 + (IntKind.i64.wrap ((IntKind.i64.wrap (2 * s6.1)) + 1)))) + 1)) fun a42 =>
 Ld (.int .i64) w7.drew (a42.add 0) fun x43 =>
 Ld (.int .i64) w7.drew (a42.add 1) fun x44 =>
 Ld (.int .i64) w7.drew (a42.add 2) fun x45 =>
 CallV Try.prog [.one (.int .i64)] a4 [(Value.agg ⟨[(Value.int .i64 x39), (Value.int .i64 x40), (Value.int .i64 x41)]⟩), (Value.agg ⟨[(Value.int .i64 x43), (Value.int .i64 x44), (Value.int .i64 x45)]⟩)] w7.drew fun r46 w47 =>
 ∃ r48 : Int, r46 = (Value.int .i64 r48) ∧
 J35 (decide (r48 < 0)) w47
 else
 J35 false w7.drew))) (a1, ()) w)
theorem e_slices_siftDownCmpFunc_wheel_timer (a0 : SliceV) (a1 : Int) (a2 : Int) (a3 : Int) (a4 : Value) (w : World) (K : World → Prop) : den Try.prog 82 (bodyOf Try.f128) none (.seq .leaf (.blk (.loop [(10, (.int .i64))] (.blk (.seq .leaf (.seq (.seq .leaf (.cond .leaf .leaf)) (.seq (.seq .leaf (.cond .leaf .leaf)) (.seq (.seq .leaf (.cond .leaf .leaf)) (.seq .leaf .leaf))))))))) (argEnv 0 [(Value.slice a0.a a0.len a0.cap), (Value.int .i64 a1), (Value.int .i64 a2), (Value.int .i64 a3), a4]) [] w (retK Try.prog [] [] K) = s_slices_siftDownCmpFunc_wheel_timer a0 a1 a2 a3 a4 w K := by kernel_rfl
theorem ok_slices_siftDownCmpFunc_wheel_timer {a0 a1 a2 a3 a4 w K} (h : s_slices_siftDownCmpFunc_wheel_timer a0 a1 a2 a3 a4 w K) : c_slices_siftDownCmpFunc_wheel_timer a0 a1 a2 a3 a4 w K :=
  fn_sound pok Try.func128 (fn := Try.f128) (c := bodyOf Try.f128) (nt := 82) (by kernel_rfl) (by kernel_rfl) (rs := []) (by kernel_rfl) [] K (.seq .leaf (.blk (.loop [(10, (.int .i64))] (.blk (.seq .leaf (.seq (.seq .leaf (.cond .leaf .leaf)) (.seq (.seq .leaf (.cond .leaf .leaf)) (.seq (.seq .leaf (.cond .leaf .leaf)) (.seq .leaf .leaf))))))))) [(Value.slice a0.a a0.len a0.cap), (Value.int .i64 a1), (Value.int .i64 a2), (Value.int .i64 a3), a4] (by kernel_rfl) w ((e_slices_siftDownCmpFunc_wheel_timer a0 a1 a2 a3 a4 w K).mpr h)

/-- slices.medianAdjacentCmpFunc[goosepond/wheel.timer] -/
def s_slices_medianAdjacentCmpFunc_wheel_timer (a0 : SliceV) (a1 : Int) (a2 : Option Addr) (a3 : Value) (w : World) (K : Int → World → Prop) : Prop :=
 (c_slices_medianCmpFunc_wheel_timer a0 (IntKind.i64.wrap (a1 - 1)) a1 (IntKind.i64.wrap (a1 + 1)) a2 a3 w fun r5 w6 =>
 K r5 w6)
theorem e_slices_medianAdjacentCmpFunc_wheel_timer (a0 : SliceV) (a1 : Int) (a2 : Option Addr) (a3 : Value) (w : World) (K : Int → World → Prop) : den Try.prog 18 (bodyOf Try.f129) none (.seq .leaf (.seq .leaf .leaf)) (argEnv 0 [(Value.slice a0.a a0.len a0.cap), (Value.int .i64 a1), (Value.pointer a2), a3]) [] w (retK Try.prog [.tmp 8] [.one (.int .i64)] K) = s_slices_medianAdjacentCmpFunc_wheel_timer a0 a1 a2 a3 w K := by kernel_rfl
theorem ok_slices_medianAdjacentCmpFunc_wheel_timer {a0 a1 a2 a3 w K} (h : s_slices_medianAdjacentCmpFunc_wheel_timer a0 a1 a2 a3 w K) : c_slices_medianAdjacentCmpFunc_wheel_timer a0 a1 a2 a3 w K :=
  fn_sound pok Try.func129 (fn := Try.f129) (c := bodyOf Try.f129) (nt := 18) (by kernel_rfl) (by kernel_rfl) (rs := [.tmp 8]) (by kernel_rfl) [.one (.int .i64)] K (.seq .leaf (.seq .leaf .leaf)) [(Value.slice a0.a a0.len a0.cap), (Value.int .i64 a1), (Value.pointer a2), a3] (by kernel_rfl) w ((e_slices_medianAdjacentCmpFunc_wheel_timer a0 a1 a2 a3 w K).mpr h)

/-- slices.medianCmpFunc[goosepond/wheel.timer] -/
def s_slices_medianCmpFunc_wheel_timer (a0 : SliceV) (a1 : Int) (a2 : Int) (a3 : Int) (a4 : Option Addr) (a5 : Value) (w : World) (K : Int → World → Prop) : Prop :=
 (c_slices_order2CmpFunc_wheel_timer a0 a1 a2 a4 a5 w fun r7 r8 w9 =>
 c_slices_order2CmpFunc_wheel_timer a0 r8 a3 a4 a5 w9 fun r10 r11 w12 =>
 c_slices_order2CmpFunc_wheel_timer a0 r7 r10 a4 a5 w12 fun r13 r14 w15 =>
 K r14 w15)
theorem e_slices_medianCmpFunc_wheel_timer (a0 : SliceV) (a1 : Int) (a2 : Int) (a3 : Int) (a4 : Option Addr) (a5 : Value) (w : World) (K : Int → World → Prop) : den Try.prog 41 (bodyOf Try.f130) none (.seq .leaf (.seq .leaf (.seq .leaf (.seq .leaf (.seq .leaf .leaf))))) (argEnv 0 [(Value.slice a0.a a0.len a0.cap), (Value.int .i64 a1), (Value.int .i64 a2), (Value.int .i64 a3), (Value.pointer a4), a5]) [] w (retK Try.prog [.tmp 12] [.one (.int .i64)] K) = s_slices_medianCmpFunc_wheel_timer a0 a1 a2 a3 a4 a5 w K := by kernel_rfl
theorem ok_slices_medianCmpFunc_wheel_timer {a0 a1 a2 a3 a4 a5 w K} (h : s_slices_medianCmpFunc_wheel_timer a0 a1 a2 a3 a4 a5 w K) : c_slices_medianCmpFunc_wheel_timer a0 a1 a2 a3 a4 a5 w K :=
  fn_sound pok Try.func130 (fn := Try.f130) (c := bodyOf Try.f130) (nt := 41) (by kernel_rfl) (by kernel_rfl) (rs := [.tmp 12]) (by kernel_rfl) [.one (.int .i64)] K (.seq .leaf (.seq .leaf (.seq .leaf (.seq .leaf (.seq .leaf .leaf))))) [(Value.slice a0.a a0.len a0.cap), (Value.int .i64 a1), (Value.int .i64 a2), (Value.int .i64 a3), (Value.pointer a4), a5] (by kernel_rfl) w ((e_slices_medianCmpFunc_wheel_timer a0 a1 a2 a3 a4 a5 w K).mpr h)

/-- slices.order2CmpFunc[goosepond/wheel.timer] -/
def s_slices_order2CmpFunc_wheel_timer (a0 : SliceV) (a1 : Int) (a2 : Int) (a3 : Option Addr) (a4 : Value) (w : World) (K : Int → Int → World → Prop) : Prop :=
 (AtIx a0 3 a2 fun a6 =>
 Ld (.int .i64) w.drew (a6.add 0) fun x7 =>
 Ld (.int .i64) w.drew (a6.add 1) fun x8 =>
 Ld (.int .i64) w.drew (a6.add 2) fun x9 =>
 AtIx a0 3 a1 fun a10 =>
 Ld (.int .i64) w.drew (a10.add 0) fun x11 =>
 Ld (.int .i64) w.drew (a10.add 1) fun x12 =>
 Ld (.int .i64) w.drew (a10.add 2) fun x13 =>
 CallV Try.prog [.one (.int .i64)] a4 [(Value.agg ⟨[(Value.int .i64 x7), (Value.int .i64 x8), (Value.int .i64 x9)]⟩), (Value.agg ⟨[(Value.int .i64 x11), (Value.int .i64 x12), (Value.int .i64 x13)]⟩)] w.drew fun r14 w15 =>
 ∃ r16 : Int, r14 = (Value.int .i64 r16) ∧
 (bif (decide (r16 < 0)) then
 ∃ a17 : Addr, a3 = some a17 ∧
 Ld (.int .i64) w15 a17 fun x18 =>
 ∃ a19 : Addr, a3 = some a19 ∧
 St w15 a19 (Value.int .i64 (IntKind.i64.wrap (x18 + 1))) fun w20 =>
 K a2 a1 w20
 else
 K a1 a2 w15))
theorem e_slices_order2CmpFunc_wheel_timer (a0 : SliceV) (a1 : Int) (a2 : Int) (a3 : Option Addr) (a4 : Value) (w : World) (K : Int → Int → World → Prop) : den Try.prog 32 (bodyOf Try.f132) none (.seq .leaf (.seq (.seq .leaf (.cond (.seq .leaf (.seq .leaf .leaf)) .leaf)) (.seq .leaf .leaf))) (argEnv 0 [(Value.slice a0.a a0.len a0.cap), (Value.int .i64 a1), (Value.int .i64 a2), (Value.pointer a3), a4]) [] w (retK Try.prog [.tmp 10, .tmp 11] [.one (.int .i64), .one (.int .i64)] K) = s_slices_order2CmpFunc_wheel_timer a0 a1 a2 a3 a4 w K := by kernel_rfl
theorem ok_slices_order2CmpFunc_wheel_timer {a0 a1 a2 a3 a4 w K} (h : s_slices_order2CmpFunc_wheel_timer a0 a1 a2 a3 a4 w K) : c_slices_order2CmpFunc_wheel_timer a0 a1 a2 a3 a4 w K :=
  fn_sound pok Try.func132 (fn := Try.f132) (c := bodyOf Try.f132) (nt := 32) (by kernel_rfl) (by kernel_rfl) (rs := [.tmp 10, .tmp 11]) (by kernel_rfl) [.one (.int .i64), .one (.int .i64)] K (.seq .leaf (.seq (.seq .leaf (.cond (.seq .leaf (.seq .leaf .leaf)) .leaf)) (.seq .leaf .leaf))) [(Value.slice a0.a a0.len a0.cap), (Value.int .i64 a1), (Value.int .i64 a2), (Value.pointer a3), a4] (by kernel_rfl) w ((e_slices_order2CmpFunc_wheel_timer a0 a1 a2 a3 a4 w K).mpr h)

end Go.Proofs
