import Derived.Test.YtcnkafgimclghaaFn
import Derived.Test.YtcnkafgimclghaaProg
import Derived.KernelRfl
namespace Go.Proofs
open Gp
set_option maxRecDepth 100000
set_option maxHeartbeats 4000000
theorem pok : POk Try.prog := POk.of_all (by kernel_rfl) (by kernel_rfl)

/-- goosepond/goosepondplain.Datagram -/
abbrev n_plain_Datagram : FuncId := 11
def c_plain_Datagram (a0 : Int) (a1 : Int) (a2 : Int) (a3 : Int) (a4 : Int) (a5 : SliceV) (w : World) (K : SliceV → World → Prop) : Prop :=
  Calls Try.prog 11 ⟨[(Value.int .i64 a0), (Value.int .i64 a1), (Value.int .i64 a2), (Value.int .i64 a3), (Value.int .i64 a4), (Value.slice a5.a a5.len a5.cap)]⟩ w fun e w' => ∃ y13 : SliceV, e = .returned (Value.slice y13.a y13.len y13.cap) ∧ K y13 w'
theorem cm_plain_Datagram {a0 a1 a2 a3 a4 a5 w K K'} (h : c_plain_Datagram a0 a1 a2 a3 a4 a5 w K) (hk : ∀ x0 w', K x0 w' → K' x0 w') : c_plain_Datagram a0 a1 a2 a3 a4 a5 w K' :=
  Calls.mono h fun e w' hh => by obtain ⟨x0, he, hx⟩ := hh; exact ⟨x0, he, hk _ _ hx⟩

/-- goosepond/goosepondref05.Build -/
abbrev n_ref05_Build : FuncId := 16
def c_ref05_Build (a0_0 : Int) (a0_1 : Int) (a0_2 : Int) (a0_3 : Int) (a0_4 : Int) (a0_5 : Int) (a0_6 : Int) (a0_7 : Bool) (a0_8 : Bool) (a0_9 : SliceV) (a0_10 : SliceV) (w : World) (K : SliceV → Int → World → Prop) : Prop :=
  Calls Try.prog 16 ⟨[(Value.agg ⟨[(Value.int .i64 a0_0), (Value.int .i64 a0_1), (Value.int .i64 a0_2), (Value.int .i64 a0_3), (Value.int .i64 a0_4), (Value.int .i64 a0_5), (Value.int .i64 a0_6), (Value.bool a0_7), (Value.bool a0_8), (Value.slice a0_9.a a0_9.len a0_9.cap), (Value.slice a0_10.a a0_10.len a0_10.cap)]⟩)]⟩ w fun e w' => ∃ y76 : SliceV, ∃ y77 : Int, e = .returned (Value.tuple ⟨[(Value.slice y76.a y76.len y76.cap), (Value.int .i64 y77)]⟩) ∧ K y76 y77 w'
theorem cm_ref05_Build {a0_0 a0_1 a0_2 a0_3 a0_4 a0_5 a0_6 a0_7 a0_8 a0_9 a0_10 w K K'} (h : c_ref05_Build a0_0 a0_1 a0_2 a0_3 a0_4 a0_5 a0_6 a0_7 a0_8 a0_9 a0_10 w K) (hk : ∀ x0 x1 w', K x0 x1 w' → K' x0 x1 w') : c_ref05_Build a0_0 a0_1 a0_2 a0_3 a0_4 a0_5 a0_6 a0_7 a0_8 a0_9 a0_10 w K' :=
  Calls.mono h fun e w' hh => by obtain ⟨x0, x1, he, hx⟩ := hh; exact ⟨x0, x1, he, hk _ _ _ hx⟩

/-- bytes.Equal -/
abbrev n_bytes_Equal : FuncId := 18
def c_bytes_Equal (a0 : SliceV) (a1 : SliceV) (w : World) (K : Bool → World → Prop) : Prop :=
  Calls Try.prog 18 ⟨[(Value.slice a0.a a0.len a0.cap), (Value.slice a1.a a1.len a1.cap)]⟩ w fun e w' => ∃ y5 : Bool, e = .returned (Value.bool y5) ∧ K y5 w'
theorem cm_bytes_Equal {a0 a1 w K K'} (h : c_bytes_Equal a0 a1 w K) (hk : ∀ x0 w', K x0 w' → K' x0 w') : c_bytes_Equal a0 a1 w K' :=
  Calls.mono h fun e w' hh => by obtain ⟨x0, he, hx⟩ := hh; exact ⟨x0, he, hk _ _ hx⟩

/-- goosepond/goosepondref05.Same -/
abbrev n_ref05_Same : FuncId := 20
def c_ref05_Same (a0_0 : Int) (a0_1 : Int) (a0_2 : Int) (a0_3 : Int) (a0_4 : Int) (a0_5 : Int) (a0_6 : Int) (a0_7 : Bool) (a0_8 : Bool) (a0_9 : SliceV) (a0_10 : SliceV) (a1_0 : Int) (a1_1 : Int) (a1_2 : Int) (a1_3 : Int) (a1_4 : Int) (a1_5 : Int) (a1_6 : Int) (a1_7 : Bool) (a1_8 : Bool) (a1_9 : SliceV) (a1_10 : SliceV) (w : World) (K : Bool → World → Prop) : Prop :=
  Calls Try.prog 20 ⟨[(Value.agg ⟨[(Value.int .i64 a0_0), (Value.int .i64 a0_1), (Value.int .i64 a0_2), (Value.int .i64 a0_3), (Value.int .i64 a0_4), (Value.int .i64 a0_5), (Value.int .i64 a0_6), (Value.bool a0_7), (Value.bool a0_8), (Value.slice a0_9.a a0_9.len a0_9.cap), (Value.slice a0_10.a a0_10.len a0_10.cap)]⟩), (Value.agg ⟨[(Value.int .i64 a1_0), (Value.int .i64 a1_1), (Value.int .i64 a1_2), (Value.int .i64 a1_3), (Value.int .i64 a1_4), (Value.int .i64 a1_5), (Value.int .i64 a1_6), (Value.bool a1_7), (Value.bool a1_8), (Value.slice a1_9.a a1_9.len a1_9.cap), (Value.slice a1_10.a a1_10.len a1_10.cap)]⟩)]⟩ w fun e w' => ∃ y37 : Bool, e = .returned (Value.bool y37) ∧ K y37 w'
theorem cm_ref05_Same {a0_0 a0_1 a0_2 a0_3 a0_4 a0_5 a0_6 a0_7 a0_8 a0_9 a0_10 a1_0 a1_1 a1_2 a1_3 a1_4 a1_5 a1_6 a1_7 a1_8 a1_9 a1_10 w K K'} (h : c_ref05_Same a0_0 a0_1 a0_2 a0_3 a0_4 a0_5 a0_6 a0_7 a0_8 a0_9 a0_10 a1_0 a1_1 a1_2 a1_3 a1_4 a1_5 a1_6 a1_7 a1_8 a1_9 a1_10 w K) (hk : ∀ x0 w', K x0 w' → K' x0 w') : c_ref05_Same a0_0 a0_1 a0_2 a0_3 a0_4 a0_5 a0_6 a0_7 a0_8 a0_9 a0_10 a1_0 a1_1 a1_2 a1_3 a1_4 a1_5 a1_6 a1_7 a1_8 a1_9 a1_10 w K' :=
  Calls.mono h fun e w' hh => by obtain ⟨x0, he, hx⟩ := hh; exact ⟨x0, he, hk _ _ hx⟩

/-- goosepond/goosepondref07.Build -/
abbrev n_ref07_Build : FuncId := 31
def c_ref07_Build (a0 : Int) (a1 : Int) (a2_0 : Int) (a2_1 : Int) (a2_2 : Bool) (a2_3 : SliceV) (w : World) (K : SliceV → Int → World → Prop) : Prop :=
  Calls Try.prog 31 ⟨[(Value.int .i64 a0), (Value.int .i64 a1), (Value.agg ⟨[(Value.int .i64 a2_0), (Value.int .i64 a2_1), (Value.bool a2_2), (Value.slice a2_3.a a2_3.len a2_3.cap)]⟩)]⟩ w fun e w' => ∃ y33 : SliceV, ∃ y34 : Int, e = .returned (Value.tuple ⟨[(Value.slice y33.a y33.len y33.cap), (Value.int .i64 y34)]⟩) ∧ K y33 y34 w'
theorem cm_ref07_Build {a0 a1 a2_0 a2_1 a2_2 a2_3 w K K'} (h : c_ref07_Build a0 a1 a2_0 a2_1 a2_2 a2_3 w K) (hk : ∀ x0 x1 w', K x0 x1 w' → K' x0 x1 w') : c_ref07_Build a0 a1 a2_0 a2_1 a2_2 a2_3 w K' :=
  Calls.mono h fun e w' hh => by obtain ⟨x0, x1, he, hx⟩ := hh; exact ⟨x0, x1, he, hk _ _ _ hx⟩

/-- slices.Clone[[]byte,byte] -/
abbrev n_slices_Clone_byte_byte : FuncId := 32
def c_slices_Clone_byte_byte (a0 : SliceV) (w : World) (K : SliceV → World → Prop) : Prop :=
  Calls Try.prog 32 ⟨[(Value.slice a0.a a0.len a0.cap)]⟩ w fun e w' => ∃ y6 : SliceV, e = .returned (Value.slice y6.a y6.len y6.cap) ∧ K y6 w'
theorem cm_slices_Clone_byte_byte {a0 w K K'} (h : c_slices_Clone_byte_byte a0 w K) (hk : ∀ x0 w', K x0 w' → K' x0 w') : c_slices_Clone_byte_byte a0 w K' :=
  Calls.mono h fun e w' hh => by obtain ⟨x0, he, hx⟩ := hh; exact ⟨x0, he, hk _ _ hx⟩

/-- goosepond/be.Put -/
abbrev n_be_Put : FuncId := 34
def c_be_Put (a0 : SliceV) (a1 : Int) (a2 : Int) (w : World) (K : SliceV → World → Prop) : Prop :=
  Calls Try.prog 34 ⟨[(Value.slice a0.a a0.len a0.cap), (Value.int .i64 a1), (Value.int .i64 a2)]⟩ w fun e w' => ∃ y12 : SliceV, e = .returned (Value.slice y12.a y12.len y12.cap) ∧ K y12 w'
theorem cm_be_Put {a0 a1 a2 w K K'} (h : c_be_Put a0 a1 a2 w K) (hk : ∀ x0 w', K x0 w' → K' x0 w') : c_be_Put a0 a1 a2 w K' :=
  Calls.mono h fun e w' hh => by obtain ⟨x0, he, hx⟩ := hh; exact ⟨x0, he, hk _ _ hx⟩

/-- goosepond/errs.Make -/
abbrev n_errs_Make : FuncId := 37
def c_errs_Make (a0 : Int) (a1 : Int) (a2 : Int) (a3 : Int) (a4 : SliceV) (w : World) (K : Int → Int → Int → Int → Int → Int → Int → Bool → Bool → SliceV → SliceV → Int → World → Prop) : Prop :=
  Calls Try.prog 37 ⟨[(Value.int .i64 a0), (Value.int .i64 a1), (Value.int .i64 a2), (Value.int .i64 a3), (Value.slice a4.a a4.len a4.cap)]⟩ w fun e w' => ∃ y123 : Int, ∃ y124 : Int, ∃ y125 : Int, ∃ y126 : Int, ∃ y127 : Int, ∃ y128 : Int, ∃ y129 : Int, ∃ y130 : Bool, ∃ y131 : Bool, ∃ y132 : SliceV, ∃ y133 : SliceV, ∃ y134 : Int, e = .returned (Value.tuple ⟨[(Value.agg ⟨[(Value.int .i64 y123), (Value.int .i64 y124), (Value.int .i64 y125), (Value.int .i64 y126), (Value.int .i64 y127), (Value.int .i64 y128), (Value.int .i64 y129), (Value.bool y130), (Value.bool y131), (Value.slice y132.a y132.len y132.cap), (Value.slice y133.a y133.len y133.cap)]⟩), (Value.int .i64 y134)]⟩) ∧ K y123 y124 y125 y126 y127 y128 y129 y130 y131 y132 y133 y134 w'
theorem cm_errs_Make {a0 a1 a2 a3 a4 w K K'} (h : c_errs_Make a0 a1 a2 a3 a4 w K) (hk : ∀ x0 x1 x2 x3 x4 x5 x6 x7 x8 x9 x10 x11 w', K x0 x1 x2 x3 x4 x5 x6 x7 x8 x9 x10 x11 w' → K' x0 x1 x2 x3 x4 x5 x6 x7 x8 x9 x10 x11 w') : c_errs_Make a0 a1 a2 a3 a4 w K' :=
  Calls.mono h fun e w' hh => by obtain ⟨x0, x1, x2, x3, x4, x5, x6, x7, x8, x9, x10, x11, he, hx⟩ := hh; exact ⟨x0, x1, x2, x3, x4, x5, x6, x7, x8, x9, x10, x11, he, hk _ _ _ _ _ _ _ _ _ _ _ _ _ hx⟩

/-- goosepond/goosepondref05.Check -/
abbrev n_ref05_Check : FuncId := 38
def c_ref05_Check (a0_0 : Int) (a0_1 : Int) (a0_2 : Int) (a0_3 : Int) (a0_4 : Int) (a0_5 : Int) (a0_6 : Int) (a0_7 : Bool) (a0_8 : Bool) (a0_9 : SliceV) (a0_10 : SliceV) (w : World) (K : Int → World → Prop) : Prop :=
  Calls Try.prog 38 ⟨[(Value.agg ⟨[(Value.int .i64 a0_0), (Value.int .i64 a0_1), (Value.int .i64 a0_2), (Value.int .i64 a0_3), (Value.int .i64 a0_4), (Value.int .i64 a0_5), (Value.int .i64 a0_6), (Value.bool a0_7), (Value.bool a0_8), (Value.slice a0_9.a a0_9.len a0_9.cap), (Value.slice a0_10.a a0_10.len a0_10.cap)]⟩)]⟩ w fun e w' => ∃ y57 : Int, e = .returned (Value.int .i64 y57) ∧ K y57 w'
theorem cm_ref05_Check {a0_0 a0_1 a0_2 a0_3 a0_4 a0_5 a0_6 a0_7 a0_8 a0_9 a0_10 w K K'} (h : c_ref05_Check a0_0 a0_1 a0_2 a0_3 a0_4 a0_5 a0_6 a0_7 a0_8 a0_9 a0_10 w K) (hk : ∀ x0 w', K x0 w' → K' x0 w') : c_ref05_Check a0_0 a0_1 a0_2 a0_3 a0_4 a0_5 a0_6 a0_7 a0_8 a0_9 a0_10 w K' :=
  Calls.mono h fun e w' hh => by obtain ⟨x0, he, hx⟩ := hh; exact ⟨x0, he, hk _ _ hx⟩

/-- goosepond/goosepondref02.Of -/
abbrev n_ref02_Of : FuncId := 39
def c_ref02_Of (a0 : SliceV) (w : World) (K : Int → World → Prop) : Prop :=
  Calls Try.prog 39 ⟨[(Value.slice a0.a a0.len a0.cap)]⟩ w fun e w' => ∃ y4 : Int, e = .returned (Value.int .i64 y4) ∧ K y4 w'
theorem cm_ref02_Of {a0 w K K'} (h : c_ref02_Of a0 w K) (hk : ∀ x0 w', K x0 w' → K' x0 w') : c_ref02_Of a0 w K' :=
  Calls.mono h fun e w' hh => by obtain ⟨x0, he, hx⟩ := hh; exact ⟨x0, he, hk _ _ hx⟩

/-- goosepond/goosepondref05.head -/
abbrev n_ref05_head : FuncId := 40
def c_ref05_head (a0_0 : Int) (a0_1 : Int) (a0_2 : Int) (a0_3 : Int) (a0_4 : Int) (a0_5 : Int) (a0_6 : Int) (a0_7 : Bool) (a0_8 : Bool) (a0_9 : SliceV) (a0_10 : SliceV) (a1 : Int) (a2 : Int) (w : World) (K : SliceV → World → Prop) : Prop :=
  Calls Try.prog 40 ⟨[(Value.agg ⟨[(Value.int .i64 a0_0), (Value.int .i64 a0_1), (Value.int .i64 a0_2), (Value.int .i64 a0_3), (Value.int .i64 a0_4), (Value.int .i64 a0_5), (Value.int .i64 a0_6), (Value.bool a0_7), (Value.bool a0_8), (Value.slice a0_9.a a0_9.len a0_9.cap), (Value.slice a0_10.a a0_10.len a0_10.cap)]⟩), (Value.int .i64 a1), (Value.int .i64 a2)]⟩ w fun e w' => ∃ y53 : SliceV, e = .returned (Value.slice y53.a y53.len y53.cap) ∧ K y53 w'
theorem cm_ref05_head {a0_0 a0_1 a0_2 a0_3 a0_4 a0_5 a0_6 a0_7 a0_8 a0_9 a0_10 a1 a2 w K K'} (h : c_ref05_head a0_0 a0_1 a0_2 a0_3 a0_4 a0_5 a0_6 a0_7 a0_8 a0_9 a0_10 a1 a2 w K) (hk : ∀ x0 w', K x0 w' → K' x0 w') : c_ref05_head a0_0 a0_1 a0_2 a0_3 a0_4 a0_5 a0_6 a0_7 a0_8 a0_9 a0_10 a1 a2 w K' :=
  Calls.mono h fun e w' hh => by obtain ⟨x0, he, hx⟩ := hh; exact ⟨x0, he, hk _ _ hx⟩

/-- goosepond/goosepondref05.Size -/
abbrev n_ref05_Size : FuncId := 41
def c_ref05_Size (a0_0 : Int) (a0_1 : Int) (a0_2 : Int) (a0_3 : Int) (a0_4 : Int) (a0_5 : Int) (a0_6 : Int) (a0_7 : Bool) (a0_8 : Bool) (a0_9 : SliceV) (a0_10 : SliceV) (w : World) (K : Int → World → Prop) : Prop :=
  Calls Try.prog 41 ⟨[(Value.agg ⟨[(Value.int .i64 a0_0), (Value.int .i64 a0_1), (Value.int .i64 a0_2), (Value.int .i64 a0_3), (Value.int .i64 a0_4), (Value.int .i64 a0_5), (Value.int .i64 a0_6), (Value.bool a0_7), (Value.bool a0_8), (Value.slice a0_9.a a0_9.len a0_9.cap), (Value.slice a0_10.a a0_10.len a0_10.cap)]⟩)]⟩ w fun e w' => ∃ y18 : Int, e = .returned (Value.int .i64 y18) ∧ K y18 w'
theorem cm_ref05_Size {a0_0 a0_1 a0_2 a0_3 a0_4 a0_5 a0_6 a0_7 a0_8 a0_9 a0_10 w K K'} (h : c_ref05_Size a0_0 a0_1 a0_2 a0_3 a0_4 a0_5 a0_6 a0_7 a0_8 a0_9 a0_10 w K) (hk : ∀ x0 w', K x0 w' → K' x0 w') : c_ref05_Size a0_0 a0_1 a0_2 a0_3 a0_4 a0_5 a0_6 a0_7 a0_8 a0_9 a0_10 w K' :=
  Calls.mono h fun e w' hh => by obtain ⟨x0, he, hx⟩ := hh; exact ⟨x0, he, hk _ _ hx⟩

/-- goosepond/goosepondref05.Quoted -/
abbrev n_ref05_Quoted : FuncId := 44
def c_ref05_Quoted (a0 : SliceV) (w : World) (K : Int → Int → Int → Int → Int → Int → Int → Bool → Bool → SliceV → SliceV → Int → World → Prop) : Prop :=
  Calls Try.prog 44 ⟨[(Value.slice a0.a a0.len a0.cap)]⟩ w fun e w' => ∃ y29 : Int, ∃ y30 : Int, ∃ y31 : Int, ∃ y32 : Int, ∃ y33 : Int, ∃ y34 : Int, ∃ y35 : Int, ∃ y36 : Bool, ∃ y37 : Bool, ∃ y38 : SliceV, ∃ y39 : SliceV, ∃ y40 : Int, e = .returned (Value.tuple ⟨[(Value.agg ⟨[(Value.int .i64 y29), (Value.int .i64 y30), (Value.int .i64 y31), (Value.int .i64 y32), (Value.int .i64 y33), (Value.int .i64 y34), (Value.int .i64 y35), (Value.bool y36), (Value.bool y37), (Value.slice y38.a y38.len y38.cap), (Value.slice y39.a y39.len y39.cap)]⟩), (Value.int .i64 y40)]⟩) ∧ K y29 y30 y31 y32 y33 y34 y35 y36 y37 y38 y39 y40 w'
theorem cm_ref05_Quoted {a0 w K K'} (h : c_ref05_Quoted a0 w K) (hk : ∀ x0 x1 x2 x3 x4 x5 x6 x7 x8 x9 x10 x11 w', K x0 x1 x2 x3 x4 x5 x6 x7 x8 x9 x10 x11 w' → K' x0 x1 x2 x3 x4 x5 x6 x7 x8 x9 x10 x11 w') : c_ref05_Quoted a0 w K' :=
  Calls.mono h fun e w' hh => by obtain ⟨x0, x1, x2, x3, x4, x5, x6, x7, x8, x9, x10, x11, he, hx⟩ := hh; exact ⟨x0, x1, x2, x3, x4, x5, x6, x7, x8, x9, x10, x11, he, hk _ _ _ _ _ _ _ _ _ _ _ _ _ hx⟩

/-- goosepond/goosepondref28.Make -/
abbrev n_ref28_Make : FuncId := 45
def c_ref28_Make (a0 : Int) (a1 : Int) (a2 : Int) (a3 : Int) (a4 : SliceV) (w : World) (K : Int → Int → Int → Int → Int → Int → Int → Bool → Bool → SliceV → SliceV → Int → World → Prop) : Prop :=
  Calls Try.prog 45 ⟨[(Value.int .i64 a0), (Value.int .i64 a1), (Value.int .i64 a2), (Value.int .i64 a3), (Value.slice a4.a a4.len a4.cap)]⟩ w fun e w' => ∃ y119 : Int, ∃ y120 : Int, ∃ y121 : Int, ∃ y122 : Int, ∃ y123 : Int, ∃ y124 : Int, ∃ y125 : Int, ∃ y126 : Bool, ∃ y127 : Bool, ∃ y128 : SliceV, ∃ y129 : SliceV, ∃ y130 : Int, e = .returned (Value.tuple ⟨[(Value.agg ⟨[(Value.int .i64 y119), (Value.int .i64 y120), (Value.int .i64 y121), (Value.int .i64 y122), (Value.int .i64 y123), (Value.int .i64 y124), (Value.int .i64 y125), (Value.bool y126), (Value.bool y127), (Value.slice y128.a y128.len y128.cap), (Value.slice y129.a y129.len y129.cap)]⟩), (Value.int .i64 y130)]⟩) ∧ K y119 y120 y121 y122 y123 y124 y125 y126 y127 y128 y129 y130 w'
theorem cm_ref28_Make {a0 a1 a2 a3 a4 w K K'} (h : c_ref28_Make a0 a1 a2 a3 a4 w K) (hk : ∀ x0 x1 x2 x3 x4 x5 x6 x7 x8 x9 x10 x11 w', K x0 x1 x2 x3 x4 x5 x6 x7 x8 x9 x10 x11 w' → K' x0 x1 x2 x3 x4 x5 x6 x7 x8 x9 x10 x11 w') : c_ref28_Make a0 a1 a2 a3 a4 w K' :=
  Calls.mono h fun e w' hh => by obtain ⟨x0, x1, x2, x3, x4, x5, x6, x7, x8, x9, x10, x11, he, hx⟩ := hh; exact ⟨x0, x1, x2, x3, x4, x5, x6, x7, x8, x9, x10, x11, he, hk _ _ _ _ _ _ _ _ _ _ _ _ _ hx⟩

/-- goosepond/goosepondref07.Check -/
abbrev n_ref07_Check : FuncId := 52
def c_ref07_Check (a0_0 : Int) (a0_1 : Int) (a0_2 : Bool) (a0_3 : SliceV) (w : World) (K : Int → World → Prop) : Prop :=
  Calls Try.prog 52 ⟨[(Value.agg ⟨[(Value.int .i64 a0_0), (Value.int .i64 a0_1), (Value.bool a0_2), (Value.slice a0_3.a a0_3.len a0_3.cap)]⟩)]⟩ w fun e w' => ∃ y14 : Int, e = .returned (Value.int .i64 y14) ∧ K y14 w'
theorem cm_ref07_Check {a0_0 a0_1 a0_2 a0_3 w K K'} (h : c_ref07_Check a0_0 a0_1 a0_2 a0_3 w K) (hk : ∀ x0 w', K x0 w' → K' x0 w') : c_ref07_Check a0_0 a0_1 a0_2 a0_3 w K' :=
  Calls.mono h fun e w' hh => by obtain ⟨x0, he, hx⟩ := hh; exact ⟨x0, he, hk _ _ hx⟩

/-- goosepond/goosepondref07.bytes -/
abbrev n_ref07_bytes : FuncId := 53
def c_ref07_bytes (a0_0 : Int) (a0_1 : Int) (a0_2 : Bool) (a0_3 : SliceV) (a1 : Int) (w : World) (K : SliceV → World → Prop) : Prop :=
  Calls Try.prog 53 ⟨[(Value.agg ⟨[(Value.int .i64 a0_0), (Value.int .i64 a0_1), (Value.bool a0_2), (Value.slice a0_3.a a0_3.len a0_3.cap)]⟩), (Value.int .i64 a1)]⟩ w fun e w' => ∃ y19 : SliceV, e = .returned (Value.slice y19.a y19.len y19.cap) ∧ K y19 w'
theorem cm_ref07_bytes {a0_0 a0_1 a0_2 a0_3 a1 w K K'} (h : c_ref07_bytes a0_0 a0_1 a0_2 a0_3 a1 w K) (hk : ∀ x0 w', K x0 w' → K' x0 w') : c_ref07_bytes a0_0 a0_1 a0_2 a0_3 a1 w K' :=
  Calls.mono h fun e w' hh => by obtain ⟨x0, he, hx⟩ := hh; exact ⟨x0, he, hk _ _ hx⟩

/-- goosepond/goosepondref07.Pseudo -/
abbrev n_ref07_Pseudo : FuncId := 54
def c_ref07_Pseudo (a0 : Int) (a1 : Int) (a2 : Int) (a3 : Int) (w : World) (K : SliceV → World → Prop) : Prop :=
  Calls Try.prog 54 ⟨[(Value.int .i64 a0), (Value.int .i64 a1), (Value.int .i64 a2), (Value.int .i64 a3)]⟩ w fun e w' => ∃ y25 : SliceV, e = .returned (Value.slice y25.a y25.len y25.cap) ∧ K y25 w'
theorem cm_ref07_Pseudo {a0 a1 a2 a3 w K K'} (h : c_ref07_Pseudo a0 a1 a2 a3 w K) (hk : ∀ x0 w', K x0 w' → K' x0 w') : c_ref07_Pseudo a0 a1 a2 a3 w K' :=
  Calls.mono h fun e w' hh => by obtain ⟨x0, he, hx⟩ := hh; exact ⟨x0, he, hk _ _ hx⟩

/-- goosepond/be.Fits -/
abbrev n_be_Fits : FuncId := 55
def c_be_Fits (a0 : Int) (a1 : Int) (w : World) (K : Bool → World → Prop) : Prop :=
  Calls Try.prog 55 ⟨[(Value.int .i64 a0), (Value.int .i64 a1)]⟩ w fun e w' => ∃ y8 : Bool, e = .returned (Value.bool y8) ∧ K y8 w'
theorem cm_be_Fits {a0 a1 w K K'} (h : c_be_Fits a0 a1 w K) (hk : ∀ x0 w', K x0 w' → K' x0 w') : c_be_Fits a0 a1 w K' :=
  Calls.mono h fun e w' hh => by obtain ⟨x0, he, hx⟩ := hh; exact ⟨x0, he, hk _ _ hx⟩

/-- slices.AppendSeq[[]byte,byte] -/
abbrev n_slices_AppendSeq_byte_byte : FuncId := 56
def c_slices_AppendSeq_byte_byte (a0 : SliceV) (a1 : Value) (w : World) (K : SliceV → World → Prop) : Prop :=
  Calls Try.prog 56 ⟨[(Value.slice a0.a a0.len a0.cap), a1]⟩ w fun e w' => ∃ y18 : SliceV, e = .returned (Value.slice y18.a y18.len y18.cap) ∧ K y18 w'
theorem cm_slices_AppendSeq_byte_byte {a0 a1 w K K'} (h : c_slices_AppendSeq_byte_byte a0 a1 w K) (hk : ∀ x0 w', K x0 w' → K' x0 w') : c_slices_AppendSeq_byte_byte a0 a1 w K' :=
  Calls.mono h fun e w' hh => by obtain ⟨x0, he, hx⟩ := hh; exact ⟨x0, he, hk _ _ hx⟩

/-- goosepond/be.digits -/
abbrev n_be_digits : FuncId := 57
def c_be_digits (a0 : Int) (a1 : Int) (w : World) (K : Value → World → Prop) : Prop :=
  Calls Try.prog 57 ⟨[(Value.int .i64 a0), (Value.int .i64 a1)]⟩ w fun e w' => ∃ y7 : Value, e = .returned y7 ∧ K y7 w'
theorem cm_be_digits {a0 a1 w K K'} (h : c_be_digits a0 a1 w K) (hk : ∀ x0 w', K x0 w' → K' x0 w') : c_be_digits a0 a1 w K' :=
  Calls.mono h fun e w' hh => by obtain ⟨x0, he, hx⟩ := hh; exact ⟨x0, he, hk _ _ hx⟩

/-- goosepond/v4.Quoted -/
abbrev n_v4_Quoted : FuncId := 61
def c_v4_Quoted (a0 : SliceV) (w : World) (K : Int → Int → Int → Int → Int → Int → Int → Bool → Bool → SliceV → SliceV → Int → World → Prop) : Prop :=
  Calls Try.prog 61 ⟨[(Value.slice a0.a a0.len a0.cap)]⟩ w fun e w' => ∃ y51 : Int, ∃ y52 : Int, ∃ y53 : Int, ∃ y54 : Int, ∃ y55 : Int, ∃ y56 : Int, ∃ y57 : Int, ∃ y58 : Bool, ∃ y59 : Bool, ∃ y60 : SliceV, ∃ y61 : SliceV, ∃ y62 : Int, e = .returned (Value.tuple ⟨[(Value.agg ⟨[(Value.int .i64 y51), (Value.int .i64 y52), (Value.int .i64 y53), (Value.int .i64 y54), (Value.int .i64 y55), (Value.int .i64 y56), (Value.int .i64 y57), (Value.bool y58), (Value.bool y59), (Value.slice y60.a y60.len y60.cap), (Value.slice y61.a y61.len y61.cap)]⟩), (Value.int .i64 y62)]⟩) ∧ K y51 y52 y53 y54 y55 y56 y57 y58 y59 y60 y61 y62 w'
theorem cm_v4_Quoted {a0 w K K'} (h : c_v4_Quoted a0 w K) (hk : ∀ x0 x1 x2 x3 x4 x5 x6 x7 x8 x9 x10 x11 w', K x0 x1 x2 x3 x4 x5 x6 x7 x8 x9 x10 x11 w' → K' x0 x1 x2 x3 x4 x5 x6 x7 x8 x9 x10 x11 w') : c_v4_Quoted a0 w K' :=
  Calls.mono h fun e w' hh => by obtain ⟨x0, x1, x2, x3, x4, x5, x6, x7, x8, x9, x10, x11, he, hx⟩ := hh; exact ⟨x0, x1, x2, x3, x4, x5, x6, x7, x8, x9, x10, x11, he, hk _ _ _ _ _ _ _ _ _ _ _ _ _ hx⟩

/-- goosepond/errs.open -/
abbrev n_errs_open : FuncId := 62
def c_errs_open (a0 : SliceV) (w : World) (K : Int → Int → Int → Int → Int → Int → Int → Bool → Bool → SliceV → SliceV → Bool → World → Prop) : Prop :=
  Calls Try.prog 62 ⟨[(Value.slice a0.a a0.len a0.cap)]⟩ w fun e w' => ∃ y92 : Int, ∃ y93 : Int, ∃ y94 : Int, ∃ y95 : Int, ∃ y96 : Int, ∃ y97 : Int, ∃ y98 : Int, ∃ y99 : Bool, ∃ y100 : Bool, ∃ y101 : SliceV, ∃ y102 : SliceV, ∃ y103 : Bool, e = .returned (Value.tuple ⟨[(Value.agg ⟨[(Value.int .i64 y92), (Value.int .i64 y93), (Value.int .i64 y94), (Value.int .i64 y95), (Value.int .i64 y96), (Value.int .i64 y97), (Value.int .i64 y98), (Value.bool y99), (Value.bool y100), (Value.slice y101.a y101.len y101.cap), (Value.slice y102.a y102.len y102.cap)]⟩), (Value.bool y103)]⟩) ∧ K y92 y93 y94 y95 y96 y97 y98 y99 y100 y101 y102 y103 w'
theorem cm_errs_open {a0 w K K'} (h : c_errs_open a0 w K) (hk : ∀ x0 x1 x2 x3 x4 x5 x6 x7 x8 x9 x10 x11 w', K x0 x1 x2 x3 x4 x5 x6 x7 x8 x9 x10 x11 w' → K' x0 x1 x2 x3 x4 x5 x6 x7 x8 x9 x10 x11 w') : c_errs_open a0 w K' :=
  Calls.mono h fun e w' hh => by obtain ⟨x0, x1, x2, x3, x4, x5, x6, x7, x8, x9, x10, x11, he, hx⟩ := hh; exact ⟨x0, x1, x2, x3, x4, x5, x6, x7, x8, x9, x10, x11, he, hk _ _ _ _ _ _ _ _ _ _ _ _ _ hx⟩

/-- goosepond/errs.quote -/
abbrev n_errs_quote : FuncId := 63
def c_errs_quote (a0 : SliceV) (a1_0 : Int) (a1_1 : Int) (a1_2 : Int) (a1_3 : Int) (a1_4 : Int) (a1_5 : Int) (a1_6 : Int) (a1_7 : Bool) (a1_8 : Bool) (a1_9 : SliceV) (a1_10 : SliceV) (w : World) (K : SliceV → World → Prop) : Prop :=
  Calls Try.prog 63 ⟨[(Value.slice a0.a a0.len a0.cap), (Value.agg ⟨[(Value.int .i64 a1_0), (Value.int .i64 a1_1), (Value.int .i64 a1_2), (Value.int .i64 a1_3), (Value.int .i64 a1_4), (Value.int .i64 a1_5), (Value.int .i64 a1_6), (Value.bool a1_7), (Value.bool a1_8), (Value.slice a1_9.a a1_9.len a1_9.cap), (Value.slice a1_10.a a1_10.len a1_10.cap)]⟩)]⟩ w fun e w' => ∃ y21 : SliceV, e = .returned (Value.slice y21.a y21.len y21.cap) ∧ K y21 w'
theorem cm_errs_quote {a0 a1_0 a1_1 a1_2 a1_3 a1_4 a1_5 a1_6 a1_7 a1_8 a1_9 a1_10 w K K'} (h : c_errs_quote a0 a1_0 a1_1 a1_2 a1_3 a1_4 a1_5 a1_6 a1_7 a1_8 a1_9 a1_10 w K) (hk : ∀ x0 w', K x0 w' → K' x0 w') : c_errs_quote a0 a1_0 a1_1 a1_2 a1_3 a1_4 a1_5 a1_6 a1_7 a1_8 a1_9 a1_10 w K' :=
  Calls.mono h fun e w' hh => by obtain ⟨x0, he, hx⟩ := hh; exact ⟨x0, he, hk _ _ hx⟩

/-- goosepond/icmp.Build -/
abbrev n_icmp_Build : FuncId := 64
def c_icmp_Build (a0_0 : Int) (a0_1 : Int) (a0_2 : Int) (a0_3 : SliceV) (w : World) (K : SliceV → Int → World → Prop) : Prop :=
  Calls Try.prog 64 ⟨[(Value.agg ⟨[(Value.int .i64 a0_0), (Value.int .i64 a0_1), (Value.int .i64 a0_2), (Value.slice a0_3.a a0_3.len a0_3.cap)]⟩)]⟩ w fun e w' => ∃ y27 : SliceV, ∃ y28 : Int, e = .returned (Value.tuple ⟨[(Value.slice y27.a y27.len y27.cap), (Value.int .i64 y28)]⟩) ∧ K y27 y28 w'
theorem cm_icmp_Build {a0_0 a0_1 a0_2 a0_3 w K K'} (h : c_icmp_Build a0_0 a0_1 a0_2 a0_3 w K) (hk : ∀ x0 x1 w', K x0 x1 w' → K' x0 x1 w') : c_icmp_Build a0_0 a0_1 a0_2 a0_3 w K' :=
  Calls.mono h fun e w' hh => by obtain ⟨x0, x1, he, hx⟩ := hh; exact ⟨x0, x1, he, hk _ _ _ hx⟩

/-- goosepond/v4.Check -/
abbrev n_v4_Check : FuncId := 65
def c_v4_Check (a0_0 : Int) (a0_1 : Int) (a0_2 : Int) (a0_3 : Int) (a0_4 : Int) (a0_5 : Int) (a0_6 : Int) (a0_7 : Bool) (a0_8 : Bool) (a0_9 : SliceV) (a0_10 : SliceV) (w : World) (K : Int → World → Prop) : Prop :=
  Calls Try.prog 65 ⟨[(Value.agg ⟨[(Value.int .i64 a0_0), (Value.int .i64 a0_1), (Value.int .i64 a0_2), (Value.int .i64 a0_3), (Value.int .i64 a0_4), (Value.int .i64 a0_5), (Value.int .i64 a0_6), (Value.bool a0_7), (Value.bool a0_8), (Value.slice a0_9.a a0_9.len a0_9.cap), (Value.slice a0_10.a a0_10.len a0_10.cap)]⟩)]⟩ w fun e w' => ∃ y74 : Int, e = .returned (Value.int .i64 y74) ∧ K y74 w'
theorem cm_v4_Check {a0_0 a0_1 a0_2 a0_3 a0_4 a0_5 a0_6 a0_7 a0_8 a0_9 a0_10 w K K'} (h : c_v4_Check a0_0 a0_1 a0_2 a0_3 a0_4 a0_5 a0_6 a0_7 a0_8 a0_9 a0_10 w K) (hk : ∀ x0 w', K x0 w' → K' x0 w') : c_v4_Check a0_0 a0_1 a0_2 a0_3 a0_4 a0_5 a0_6 a0_7 a0_8 a0_9 a0_10 w K' :=
  Calls.mono h fun e w' hh => by obtain ⟨x0, he, hx⟩ := hh; exact ⟨x0, he, hk _ _ hx⟩

/-- goosepond/goosepondref01.Fits -/
abbrev n_ref01_Fits : FuncId := 66
def c_ref01_Fits (a0 : Int) (a1 : Int) (w : World) (K : Bool → World → Prop) : Prop :=
  Calls Try.prog 66 ⟨[(Value.int .i64 a0), (Value.int .i64 a1)]⟩ w fun e w' => ∃ y8 : Bool, e = .returned (Value.bool y8) ∧ K y8 w'
theorem cm_ref01_Fits {a0 a1 w K K'} (h : c_ref01_Fits a0 a1 w K) (hk : ∀ x0 w', K x0 w' → K' x0 w') : c_ref01_Fits a0 a1 w K' :=
  Calls.mono h fun e w' hh => by obtain ⟨x0, he, hx⟩ := hh; exact ⟨x0, he, hk _ _ hx⟩

/-- goosepond/goosepondref03.Right -/
abbrev n_ref03_Right : FuncId := 67
def c_ref03_Right (a0 : Int) (w : World) (K : Bool → World → Prop) : Prop :=
  Calls Try.prog 67 ⟨[(Value.int .i64 a0)]⟩ w fun e w' => ∃ y4 : Bool, e = .returned (Value.bool y4) ∧ K y4 w'
theorem cm_ref03_Right {a0 w K K'} (h : c_ref03_Right a0 w K) (hk : ∀ x0 w', K x0 w' → K' x0 w') : c_ref03_Right a0 w K' :=
  Calls.mono h fun e w' hh => by obtain ⟨x0, he, hx⟩ := hh; exact ⟨x0, he, hk _ _ hx⟩

/-- goosepond/goosepondref02.Add -/
abbrev n_ref02_Add : FuncId := 68
def c_ref02_Add (a0 : SliceV) (w : World) (K : Int → World → Prop) : Prop :=
  Calls Try.prog 68 ⟨[(Value.slice a0.a a0.len a0.cap)]⟩ w fun e w' => ∃ y16 : Int, e = .returned (Value.int .i64 y16) ∧ K y16 w'
theorem cm_ref02_Add {a0 w K K'} (h : c_ref02_Add a0 w K) (hk : ∀ x0 w', K x0 w' → K' x0 w') : c_ref02_Add a0 w K' :=
  Calls.mono h fun e w' hh => by obtain ⟨x0, he, hx⟩ := hh; exact ⟨x0, he, hk _ _ hx⟩

/-- goosepond/goosepondref05.Head -/
abbrev n_ref05_Head : FuncId := 69
def c_ref05_Head (a0_0 : Int) (a0_1 : Int) (a0_2 : Int) (a0_3 : Int) (a0_4 : Int) (a0_5 : Int) (a0_6 : Int) (a0_7 : Bool) (a0_8 : Bool) (a0_9 : SliceV) (a0_10 : SliceV) (w : World) (K : Int → World → Prop) : Prop :=
  Calls Try.prog 69 ⟨[(Value.agg ⟨[(Value.int .i64 a0_0), (Value.int .i64 a0_1), (Value.int .i64 a0_2), (Value.int .i64 a0_3), (Value.int .i64 a0_4), (Value.int .i64 a0_5), (Value.int .i64 a0_6), (Value.bool a0_7), (Value.bool a0_8), (Value.slice a0_9.a a0_9.len a0_9.cap), (Value.slice a0_10.a a0_10.len a0_10.cap)]⟩)]⟩ w fun e w' => ∃ y5 : Int, e = .returned (Value.int .i64 y5) ∧ K y5 w'
theorem cm_ref05_Head {a0_0 a0_1 a0_2 a0_3 a0_4 a0_5 a0_6 a0_7 a0_8 a0_9 a0_10 w K K'} (h : c_ref05_Head a0_0 a0_1 a0_2 a0_3 a0_4 a0_5 a0_6 a0_7 a0_8 a0_9 a0_10 w K) (hk : ∀ x0 w', K x0 w' → K' x0 w') : c_ref05_Head a0_0 a0_1 a0_2 a0_3 a0_4 a0_5 a0_6 a0_7 a0_8 a0_9 a0_10 w K' :=
  Calls.mono h fun e w' hh => by obtain ⟨x0, he, hx⟩ := hh; exact ⟨x0, he, hk _ _ hx⟩

/-- goosepond/goosepondref01.Put -/
abbrev n_ref01_Put : FuncId := 70
def c_ref01_Put (a0 : SliceV) (a1 : Int) (a2 : Int) (w : World) (K : SliceV → World → Prop) : Prop :=
  Calls Try.prog 70 ⟨[(Value.slice a0.a a0.len a0.cap), (Value.int .i64 a1), (Value.int .i64 a2)]⟩ w fun e w' => ∃ y17 : SliceV, e = .returned (Value.slice y17.a y17.len y17.cap) ∧ K y17 w'
theorem cm_ref01_Put {a0 a1 a2 w K K'} (h : c_ref01_Put a0 a1 a2 w K) (hk : ∀ x0 w', K x0 w' → K' x0 w') : c_ref01_Put a0 a1 a2 w K' :=
  Calls.mono h fun e w' hh => by obtain ⟨x0, he, hx⟩ := hh; exact ⟨x0, he, hk _ _ hx⟩

/-- goosepond/goosepondref05.read -/
abbrev n_ref05_read : FuncId := 73
def c_ref05_read (a0 : SliceV) (a1 : Bool) (w : World) (K : Int → Int → Int → Int → Int → Int → Int → Bool → Bool → SliceV → SliceV → Int → World → Prop) : Prop :=
  Calls Try.prog 73 ⟨[(Value.slice a0.a a0.len a0.cap), (Value.bool a1)]⟩ w fun e w' => ∃ y155 : Int, ∃ y156 : Int, ∃ y157 : Int, ∃ y158 : Int, ∃ y159 : Int, ∃ y160 : Int, ∃ y161 : Int, ∃ y162 : Bool, ∃ y163 : Bool, ∃ y164 : SliceV, ∃ y165 : SliceV, ∃ y166 : Int, e = .returned (Value.tuple ⟨[(Value.agg ⟨[(Value.int .i64 y155), (Value.int .i64 y156), (Value.int .i64 y157), (Value.int .i64 y158), (Value.int .i64 y159), (Value.int .i64 y160), (Value.int .i64 y161), (Value.bool y162), (Value.bool y163), (Value.slice y164.a y164.len y164.cap), (Value.slice y165.a y165.len y165.cap)]⟩), (Value.int .i64 y166)]⟩) ∧ K y155 y156 y157 y158 y159 y160 y161 y162 y163 y164 y165 y166 w'
theorem cm_ref05_read {a0 a1 w K K'} (h : c_ref05_read a0 a1 w K) (hk : ∀ x0 x1 x2 x3 x4 x5 x6 x7 x8 x9 x10 x11 w', K x0 x1 x2 x3 x4 x5 x6 x7 x8 x9 x10 x11 w' → K' x0 x1 x2 x3 x4 x5 x6 x7 x8 x9 x10 x11 w') : c_ref05_read a0 a1 w K' :=
  Calls.mono h fun e w' hh => by obtain ⟨x0, x1, x2, x3, x4, x5, x6, x7, x8, x9, x10, x11, he, hx⟩ := hh; exact ⟨x0, x1, x2, x3, x4, x5, x6, x7, x8, x9, x10, x11, he, hk _ _ _ _ _ _ _ _ _ _ _ _ _ hx⟩

/-- goosepond/goosepondref28.May -/
abbrev n_ref28_May : FuncId := 74
def c_ref28_May (a0 : SliceV) (w : World) (K : Bool → World → Prop) : Prop :=
  Calls Try.prog 74 ⟨[(Value.slice a0.a a0.len a0.cap)]⟩ w fun e w' => ∃ y38 : Bool, e = .returned (Value.bool y38) ∧ K y38 w'
theorem cm_ref28_May {a0 w K K'} (h : c_ref28_May a0 w K) (hk : ∀ x0 w', K x0 w' → K' x0 w') : c_ref28_May a0 w K' :=
  Calls.mono h fun e w' hh => by obtain ⟨x0, he, hx⟩ := hh; exact ⟨x0, he, hk _ _ hx⟩

/-- goosepond/goosepondref09.Build -/
abbrev n_ref09_Build : FuncId := 75
def c_ref09_Build (a0_0 : Int) (a0_1 : Int) (a0_2 : Int) (a0_3 : SliceV) (w : World) (K : SliceV → Int → World → Prop) : Prop :=
  Calls Try.prog 75 ⟨[(Value.agg ⟨[(Value.int .i64 a0_0), (Value.int .i64 a0_1), (Value.int .i64 a0_2), (Value.slice a0_3.a a0_3.len a0_3.cap)]⟩)]⟩ w fun e w' => ∃ y26 : SliceV, ∃ y27 : Int, e = .returned (Value.tuple ⟨[(Value.slice y26.a y26.len y26.cap), (Value.int .i64 y27)]⟩) ∧ K y26 y27 w'
theorem cm_ref09_Build {a0_0 a0_1 a0_2 a0_3 w K K'} (h : c_ref09_Build a0_0 a0_1 a0_2 a0_3 w K) (hk : ∀ x0 x1 w', K x0 x1 w' → K' x0 x1 w') : c_ref09_Build a0_0 a0_1 a0_2 a0_3 w K' :=
  Calls.mono h fun e w' hh => by obtain ⟨x0, x1, he, hx⟩ := hh; exact ⟨x0, x1, he, hk _ _ _ hx⟩

/-- goosepond/goosepondref07.mod -/
abbrev n_ref07_mod : FuncId := 85
def c_ref07_mod (a0 : Int) (a1 : Int) (w : World) (K : Int → World → Prop) : Prop :=
  Calls Try.prog 85 ⟨[(Value.int .i64 a0), (Value.int .i64 a1)]⟩ w fun e w' => ∃ y3 : Int, e = .returned (Value.int .i64 y3) ∧ K y3 w'
theorem cm_ref07_mod {a0 a1 w K K'} (h : c_ref07_mod a0 a1 w K) (hk : ∀ x0 w', K x0 w' → K' x0 w') : c_ref07_mod a0 a1 w K' :=
  Calls.mono h fun e w' hh => by obtain ⟨x0, he, hx⟩ := hh; exact ⟨x0, he, hk _ _ hx⟩

/-- goosepond/be.right -/
abbrev n_be_right : FuncId := 86
def c_be_right (a0 : Int) (w : World) (K : Bool → World → Prop) : Prop :=
  Calls Try.prog 86 ⟨[(Value.int .i64 a0)]⟩ w fun e w' => ∃ y4 : Bool, e = .returned (Value.bool y4) ∧ K y4 w'
theorem cm_be_right {a0 w K K'} (h : c_be_right a0 w K) (hk : ∀ x0 w', K x0 w' → K' x0 w') : c_be_right a0 w K' :=
  Calls.mono h fun e w' hh => by obtain ⟨x0, he, hx⟩ := hh; exact ⟨x0, he, hk _ _ hx⟩

/-- goosepond/be.digits$1 -/
abbrev n_be_digits_1 : FuncId := 87
def c_be_digits_1 (a0 : Value) (f0 : Addr) (f1 : Addr) (w : World) (K : World → Prop) : Prop :=
  Calls Try.prog 87 ⟨[a0, (Value.pointer (some f0)), (Value.pointer (some f1))]⟩ w fun e w' => e = .returned (Value.tuple ⟨[]⟩) ∧ K w'
theorem cm_be_digits_1 {a0 f0 f1 w K K'} (h : c_be_digits_1 a0 f0 f1 w K) (hk : ∀  w', K  w' → K'  w') : c_be_digits_1 a0 f0 f1 w K' :=
  Calls.mono h fun e w' hh => by obtain ⟨he, hx⟩ := hh; exact ⟨he, hk  _ hx⟩

/-- goosepond/v4.open -/
abbrev n_v4_open : FuncId := 90
def c_v4_open (a0 : SliceV) (a1 : Bool) (w : World) (K : SliceV → Int → Int → Int → World → Prop) : Prop :=
  Calls Try.prog 90 ⟨[(Value.slice a0.a a0.len a0.cap), (Value.bool a1)]⟩ w fun e w' => ∃ y58 : SliceV, ∃ y59 : Int, ∃ y60 : Int, ∃ y61 : Int, e = .returned (Value.tuple ⟨[(Value.agg ⟨[(Value.slice y58.a y58.len y58.cap), (Value.int .i64 y59), (Value.int .i64 y60)]⟩), (Value.int .i64 y61)]⟩) ∧ K y58 y59 y60 y61 w'
theorem cm_v4_open {a0 a1 w K K'} (h : c_v4_open a0 a1 w K) (hk : ∀ x0 x1 x2 x3 w', K x0 x1 x2 x3 w' → K' x0 x1 x2 x3 w') : c_v4_open a0 a1 w K' :=
  Calls.mono h fun e w' hh => by obtain ⟨x0, x1, x2, x3, he, hx⟩ := hh; exact ⟨x0, x1, x2, x3, he, hk _ _ _ _ _ hx⟩

/-- (goosepond/v4.reader).packet -/
abbrev n_v4_reader_packet : FuncId := 91
def c_v4_reader_packet (a0_0 : SliceV) (a0_1 : Int) (a0_2 : Int) (w : World) (K : Int → Int → Int → Int → Int → Int → Int → Bool → Bool → SliceV → SliceV → World → Prop) : Prop :=
  Calls Try.prog 91 ⟨[(Value.agg ⟨[(Value.slice a0_0.a a0_0.len a0_0.cap), (Value.int .i64 a0_1), (Value.int .i64 a0_2)]⟩)]⟩ w fun e w' => ∃ y147 : Int, ∃ y148 : Int, ∃ y149 : Int, ∃ y150 : Int, ∃ y151 : Int, ∃ y152 : Int, ∃ y153 : Int, ∃ y154 : Bool, ∃ y155 : Bool, ∃ y156 : SliceV, ∃ y157 : SliceV, e = .returned (Value.agg ⟨[(Value.int .i64 y147), (Value.int .i64 y148), (Value.int .i64 y149), (Value.int .i64 y150), (Value.int .i64 y151), (Value.int .i64 y152), (Value.int .i64 y153), (Value.bool y154), (Value.bool y155), (Value.slice y156.a y156.len y156.cap), (Value.slice y157.a y157.len y157.cap)]⟩) ∧ K y147 y148 y149 y150 y151 y152 y153 y154 y155 y156 y157 w'
theorem cm_v4_reader_packet {a0_0 a0_1 a0_2 w K K'} (h : c_v4_reader_packet a0_0 a0_1 a0_2 w K) (hk : ∀ x0 x1 x2 x3 x4 x5 x6 x7 x8 x9 x10 w', K x0 x1 x2 x3 x4 x5 x6 x7 x8 x9 x10 w' → K' x0 x1 x2 x3 x4 x5 x6 x7 x8 x9 x10 w') : c_v4_reader_packet a0_0 a0_1 a0_2 w K' :=
  Calls.mono h fun e w' hh => by obtain ⟨x0, x1, x2, x3, x4, x5, x6, x7, x8, x9, x10, he, hx⟩ := hh; exact ⟨x0, x1, x2, x3, x4, x5, x6, x7, x8, x9, x10, he, hk _ _ _ _ _ _ _ _ _ _ _ _ hx⟩

/-- goosepond/four.Host -/
abbrev n_four_Host : FuncId := 92
def c_four_Host (a0 : Int) (w : World) (K : Bool → World → Prop) : Prop :=
  Calls Try.prog 92 ⟨[(Value.int .i64 a0)]⟩ w fun e w' => ∃ y8 : Bool, e = .returned (Value.bool y8) ∧ K y8 w'
theorem cm_four_Host {a0 w K K'} (h : c_four_Host a0 w K) (hk : ∀ x0 w', K x0 w' → K' x0 w') : c_four_Host a0 w K' :=
  Calls.mono h fun e w' hh => by obtain ⟨x0, he, hx⟩ := hh; exact ⟨x0, he, hk _ _ hx⟩

/-- goosepond/errs.plain -/
abbrev n_errs_plain : FuncId := 93
def c_errs_plain (a0_0 : Int) (a0_1 : Int) (a0_2 : Int) (a0_3 : Int) (a0_4 : Int) (a0_5 : Int) (a0_6 : Int) (a0_7 : Bool) (a0_8 : Bool) (a0_9 : SliceV) (a0_10 : SliceV) (w : World) (K : Bool → World → Prop) : Prop :=
  Calls Try.prog 93 ⟨[(Value.agg ⟨[(Value.int .i64 a0_0), (Value.int .i64 a0_1), (Value.int .i64 a0_2), (Value.int .i64 a0_3), (Value.int .i64 a0_4), (Value.int .i64 a0_5), (Value.int .i64 a0_6), (Value.bool a0_7), (Value.bool a0_8), (Value.slice a0_9.a a0_9.len a0_9.cap), (Value.slice a0_10.a a0_10.len a0_10.cap)]⟩)]⟩ w fun e w' => ∃ y14 : Bool, e = .returned (Value.bool y14) ∧ K y14 w'
theorem cm_errs_plain {a0_0 a0_1 a0_2 a0_3 a0_4 a0_5 a0_6 a0_7 a0_8 a0_9 a0_10 w K K'} (h : c_errs_plain a0_0 a0_1 a0_2 a0_3 a0_4 a0_5 a0_6 a0_7 a0_8 a0_9 a0_10 w K) (hk : ∀ x0 w', K x0 w' → K' x0 w') : c_errs_plain a0_0 a0_1 a0_2 a0_3 a0_4 a0_5 a0_6 a0_7 a0_8 a0_9 a0_10 w K' :=
  Calls.mono h fun e w' hh => by obtain ⟨x0, he, hx⟩ := hh; exact ⟨x0, he, hk _ _ hx⟩

/-- goosepond/v4.Size -/
abbrev n_v4_Size : FuncId := 94
def c_v4_Size (a0_0 : Int) (a0_1 : Int) (a0_2 : Int) (a0_3 : Int) (a0_4 : Int) (a0_5 : Int) (a0_6 : Int) (a0_7 : Bool) (a0_8 : Bool) (a0_9 : SliceV) (a0_10 : SliceV) (w : World) (K : Int → World → Prop) : Prop :=
  Calls Try.prog 94 ⟨[(Value.agg ⟨[(Value.int .i64 a0_0), (Value.int .i64 a0_1), (Value.int .i64 a0_2), (Value.int .i64 a0_3), (Value.int .i64 a0_4), (Value.int .i64 a0_5), (Value.int .i64 a0_6), (Value.bool a0_7), (Value.bool a0_8), (Value.slice a0_9.a a0_9.len a0_9.cap), (Value.slice a0_10.a a0_10.len a0_10.cap)]⟩)]⟩ w fun e w' => ∃ y18 : Int, e = .returned (Value.int .i64 y18) ∧ K y18 w'
theorem cm_v4_Size {a0_0 a0_1 a0_2 a0_3 a0_4 a0_5 a0_6 a0_7 a0_8 a0_9 a0_10 w K K'} (h : c_v4_Size a0_0 a0_1 a0_2 a0_3 a0_4 a0_5 a0_6 a0_7 a0_8 a0_9 a0_10 w K) (hk : ∀ x0 w', K x0 w' → K' x0 w') : c_v4_Size a0_0 a0_1 a0_2 a0_3 a0_4 a0_5 a0_6 a0_7 a0_8 a0_9 a0_10 w K' :=
  Calls.mono h fun e w' hh => by obtain ⟨x0, he, hx⟩ := hh; exact ⟨x0, he, hk _ _ hx⟩

/-- goosepond/icmp.Check -/
abbrev n_icmp_Check : FuncId := 95
def c_icmp_Check (a0_0 : Int) (a0_1 : Int) (a0_2 : Int) (a0_3 : SliceV) (w : World) (K : Int → World → Prop) : Prop :=
  Calls Try.prog 95 ⟨[(Value.agg ⟨[(Value.int .i64 a0_0), (Value.int .i64 a0_1), (Value.int .i64 a0_2), (Value.slice a0_3.a a0_3.len a0_3.cap)]⟩)]⟩ w fun e w' => ∃ y17 : Int, e = .returned (Value.int .i64 y17) ∧ K y17 w'
theorem cm_icmp_Check {a0_0 a0_1 a0_2 a0_3 w K K'} (h : c_icmp_Check a0_0 a0_1 a0_2 a0_3 w K) (hk : ∀ x0 w', K x0 w' → K' x0 w') : c_icmp_Check a0_0 a0_1 a0_2 a0_3 w K' :=
  Calls.mono h fun e w' hh => by obtain ⟨x0, he, hx⟩ := hh; exact ⟨x0, he, hk _ _ hx⟩

/-- goosepond/be.Set -/
abbrev n_be_Set : FuncId := 96
def c_be_Set (a0 : SliceV) (a1 : Int) (a2 : Int) (a3 : Int) (w : World) (K : SliceV → Int → World → Prop) : Prop :=
  Calls Try.prog 96 ⟨[(Value.slice a0.a a0.len a0.cap), (Value.int .i64 a1), (Value.int .i64 a2), (Value.int .i64 a3)]⟩ w fun e w' => ∃ y23 : SliceV, ∃ y24 : Int, e = .returned (Value.tuple ⟨[(Value.slice y23.a y23.len y23.cap), (Value.int .i64 y24)]⟩) ∧ K y23 y24 w'
theorem cm_be_Set {a0 a1 a2 a3 w K K'} (h : c_be_Set a0 a1 a2 a3 w K) (hk : ∀ x0 x1 w', K x0 x1 w' → K' x0 x1 w') : c_be_Set a0 a1 a2 a3 w K' :=
  Calls.mono h fun e w' hh => by obtain ⟨x0, x1, he, hx⟩ := hh; exact ⟨x0, x1, he, hk _ _ _ hx⟩

/-- goosepond/sum.Of -/
abbrev n_sum_Of : FuncId := 97
def c_sum_Of (a0 : SliceV) (w : World) (K : Int → World → Prop) : Prop :=
  Calls Try.prog 97 ⟨[(Value.slice a0.a a0.len a0.cap)]⟩ w fun e w' => ∃ y4 : Int, e = .returned (Value.int .i64 y4) ∧ K y4 w'
theorem cm_sum_Of {a0 w K K'} (h : c_sum_Of a0 w K) (hk : ∀ x0 w', K x0 w' → K' x0 w') : c_sum_Of a0 w K' :=
  Calls.mono h fun e w' hh => by obtain ⟨x0, he, hx⟩ := hh; exact ⟨x0, he, hk _ _ hx⟩

/-- goosepond/v4.all -/
abbrev n_v4_all : FuncId := 98
def c_v4_all (a0 : SliceV) (w : World) (K : Bool → World → Prop) : Prop :=
  Calls Try.prog 98 ⟨[(Value.slice a0.a a0.len a0.cap)]⟩ w fun e w' => ∃ y4 : Bool, e = .returned (Value.bool y4) ∧ K y4 w'
theorem cm_v4_all {a0 w K K'} (h : c_v4_all a0 w K) (hk : ∀ x0 w', K x0 w' → K' x0 w') : c_v4_all a0 w K' :=
  Calls.mono h fun e w' hh => by obtain ⟨x0, he, hx⟩ := hh; exact ⟨x0, he, hk _ _ hx⟩

/-- goosepond/four.Right -/
abbrev n_four_Right : FuncId := 99
def c_four_Right (a0 : Int) (w : World) (K : Bool → World → Prop) : Prop :=
  Calls Try.prog 99 ⟨[(Value.int .i64 a0)]⟩ w fun e w' => ∃ y4 : Bool, e = .returned (Value.bool y4) ∧ K y4 w'
theorem cm_four_Right {a0 w K K'} (h : c_four_Right a0 w K) (hk : ∀ x0 w', K x0 w' → K' x0 w') : c_four_Right a0 w K' :=
  Calls.mono h fun e w' hh => by obtain ⟨x0, he, hx⟩ := hh; exact ⟨x0, he, hk _ _ hx⟩

/-- goosepond/goosepondref01.pow -/
abbrev n_ref01_pow : FuncId := 100
def c_ref01_pow (a0 : Int) (w : World) (K : Int → World → Prop) : Prop :=
  Calls Try.prog 100 ⟨[(Value.int .i64 a0)]⟩ w fun e w' => ∃ y5 : Int, e = .returned (Value.int .i64 y5) ∧ K y5 w'
theorem cm_ref01_pow {a0 w K K'} (h : c_ref01_pow a0 w K) (hk : ∀ x0 w', K x0 w' → K' x0 w') : c_ref01_pow a0 w K' :=
  Calls.mono h fun e w' hh => by obtain ⟨x0, he, hx⟩ := hh; exact ⟨x0, he, hk _ _ hx⟩

/-- goosepond/goosepondref01.Word -/
abbrev n_ref01_Word : FuncId := 101
def c_ref01_Word (a0 : SliceV) (a1 : Int) (w : World) (K : Int → World → Prop) : Prop :=
  Calls Try.prog 101 ⟨[(Value.slice a0.a a0.len a0.cap), (Value.int .i64 a1)]⟩ w fun e w' => ∃ y9 : Int, e = .returned (Value.int .i64 y9) ∧ K y9 w'
theorem cm_ref01_Word {a0 a1 w K K'} (h : c_ref01_Word a0 a1 w K) (hk : ∀ x0 w', K x0 w' → K' x0 w') : c_ref01_Word a0 a1 w K' :=
  Calls.mono h fun e w' hh => by obtain ⟨x0, he, hx⟩ := hh; exact ⟨x0, he, hk _ _ hx⟩

/-- goosepond/goosepondref02.Fold -/
abbrev n_ref02_Fold : FuncId := 102
def c_ref02_Fold (a0 : Int) (w : World) (K : Int → World → Prop) : Prop :=
  Calls Try.prog 102 ⟨[(Value.int .i64 a0)]⟩ w fun e w' => ∃ y5 : Int, e = .returned (Value.int .i64 y5) ∧ K y5 w'
theorem cm_ref02_Fold {a0 w K K'} (h : c_ref02_Fold a0 w K) (hk : ∀ x0 w', K x0 w' → K' x0 w') : c_ref02_Fold a0 w K' :=
  Calls.mono h fun e w' hh => by obtain ⟨x0, he, hx⟩ := hh; exact ⟨x0, he, hk _ _ hx⟩

/-- goosepond/goosepondref01.Get -/
abbrev n_ref01_Get : FuncId := 103
def c_ref01_Get (a0 : SliceV) (a1 : Int) (a2 : Int) (w : World) (K : Int → Int → World → Prop) : Prop :=
  Calls Try.prog 103 ⟨[(Value.slice a0.a a0.len a0.cap), (Value.int .i64 a1), (Value.int .i64 a2)]⟩ w fun e w' => ∃ y11 : Int, ∃ y12 : Int, e = .returned (Value.tuple ⟨[(Value.int .i64 y11), (Value.int .i64 y12)]⟩) ∧ K y11 y12 w'
theorem cm_ref01_Get {a0 a1 a2 w K K'} (h : c_ref01_Get a0 a1 a2 w K) (hk : ∀ x0 x1 w', K x0 x1 w' → K' x0 x1 w') : c_ref01_Get a0 a1 a2 w K' :=
  Calls.mono h fun e w' hh => by obtain ⟨x0, x1, he, hx⟩ := hh; exact ⟨x0, x1, he, hk _ _ _ hx⟩

/-- goosepond/goosepondref05.num -/
abbrev n_ref05_num : FuncId := 104
def c_ref05_num (a0 : SliceV) (a1 : Int) (a2 : Int) (w : World) (K : Int → World → Prop) : Prop :=
  Calls Try.prog 104 ⟨[(Value.slice a0.a a0.len a0.cap), (Value.int .i64 a1), (Value.int .i64 a2)]⟩ w fun e w' => ∃ y7 : Int, e = .returned (Value.int .i64 y7) ∧ K y7 w'
theorem cm_ref05_num {a0 a1 a2 w K K'} (h : c_ref05_num a0 a1 a2 w K) (hk : ∀ x0 w', K x0 w' → K' x0 w') : c_ref05_num a0 a1 a2 w K' :=
  Calls.mono h fun e w' hh => by obtain ⟨x0, he, hx⟩ := hh; exact ⟨x0, he, hk _ _ hx⟩

/-- goosepond/goosepondref02.Right -/
abbrev n_ref02_Right : FuncId := 105
def c_ref02_Right (a0 : SliceV) (w : World) (K : Bool → World → Prop) : Prop :=
  Calls Try.prog 105 ⟨[(Value.slice a0.a a0.len a0.cap)]⟩ w fun e w' => ∃ y4 : Bool, e = .returned (Value.bool y4) ∧ K y4 w'
theorem cm_ref02_Right {a0 w K K'} (h : c_ref02_Right a0 w K) (hk : ∀ x0 w', K x0 w' → K' x0 w') : c_ref02_Right a0 w K' :=
  Calls.mono h fun e w' hh => by obtain ⟨x0, he, hx⟩ := hh; exact ⟨x0, he, hk _ _ hx⟩

/-- goosepond/goosepondref05.fields -/
abbrev n_ref05_fields : FuncId := 106
def c_ref05_fields (a0 : SliceV) (a1 : SliceV) (w : World) (K : Int → Int → Int → Int → Int → Int → Int → Bool → Bool → SliceV → SliceV → World → Prop) : Prop :=
  Calls Try.prog 106 ⟨[(Value.slice a0.a a0.len a0.cap), (Value.slice a1.a a1.len a1.cap)]⟩ w fun e w' => ∃ y80 : Int, ∃ y81 : Int, ∃ y82 : Int, ∃ y83 : Int, ∃ y84 : Int, ∃ y85 : Int, ∃ y86 : Int, ∃ y87 : Bool, ∃ y88 : Bool, ∃ y89 : SliceV, ∃ y90 : SliceV, e = .returned (Value.agg ⟨[(Value.int .i64 y80), (Value.int .i64 y81), (Value.int .i64 y82), (Value.int .i64 y83), (Value.int .i64 y84), (Value.int .i64 y85), (Value.int .i64 y86), (Value.bool y87), (Value.bool y88), (Value.slice y89.a y89.len y89.cap), (Value.slice y90.a y90.len y90.cap)]⟩) ∧ K y80 y81 y82 y83 y84 y85 y86 y87 y88 y89 y90 w'
theorem cm_ref05_fields {a0 a1 w K K'} (h : c_ref05_fields a0 a1 w K) (hk : ∀ x0 x1 x2 x3 x4 x5 x6 x7 x8 x9 x10 w', K x0 x1 x2 x3 x4 x5 x6 x7 x8 x9 x10 w' → K' x0 x1 x2 x3 x4 x5 x6 x7 x8 x9 x10 w') : c_ref05_fields a0 a1 w K' :=
  Calls.mono h fun e w' hh => by obtain ⟨x0, x1, x2, x3, x4, x5, x6, x7, x8, x9, x10, he, hx⟩ := hh; exact ⟨x0, x1, x2, x3, x4, x5, x6, x7, x8, x9, x10, he, hk _ _ _ _ _ _ _ _ _ _ _ _ hx⟩

/-- goosepond/goosepondref03.Host -/
abbrev n_ref03_Host : FuncId := 107
def c_ref03_Host (a0 : Int) (w : World) (K : Bool → World → Prop) : Prop :=
  Calls Try.prog 107 ⟨[(Value.int .i64 a0)]⟩ w fun e w' => ∃ y4 : Bool, e = .returned (Value.bool y4) ∧ K y4 w'
theorem cm_ref03_Host {a0 w K K'} (h : c_ref03_Host a0 w K) (hk : ∀ x0 w', K x0 w' → K' x0 w') : c_ref03_Host a0 w K' :=
  Calls.mono h fun e w' hh => by obtain ⟨x0, he, hx⟩ := hh; exact ⟨x0, he, hk _ _ hx⟩

/-- goosepond/goosepondref09.Fault -/
abbrev n_ref09_Fault : FuncId := 108
def c_ref09_Fault (a0 : Int) (w : World) (K : Bool → World → Prop) : Prop :=
  Calls Try.prog 108 ⟨[(Value.int .i64 a0)]⟩ w fun e w' => ∃ y4 : Bool, e = .returned (Value.bool y4) ∧ K y4 w'
theorem cm_ref09_Fault {a0 w K K'} (h : c_ref09_Fault a0 w K) (hk : ∀ x0 w', K x0 w' → K' x0 w') : c_ref09_Fault a0 w K' :=
  Calls.mono h fun e w' hh => by obtain ⟨x0, he, hx⟩ := hh; exact ⟨x0, he, hk _ _ hx⟩

/-- goosepond/goosepondref09.Check -/
abbrev n_ref09_Check : FuncId := 109
def c_ref09_Check (a0_0 : Int) (a0_1 : Int) (a0_2 : Int) (a0_3 : SliceV) (w : World) (K : Int → World → Prop) : Prop :=
  Calls Try.prog 109 ⟨[(Value.agg ⟨[(Value.int .i64 a0_0), (Value.int .i64 a0_1), (Value.int .i64 a0_2), (Value.slice a0_3.a a0_3.len a0_3.cap)]⟩)]⟩ w fun e w' => ∃ y17 : Int, e = .returned (Value.int .i64 y17) ∧ K y17 w'
theorem cm_ref09_Check {a0_0 a0_1 a0_2 a0_3 w K K'} (h : c_ref09_Check a0_0 a0_1 a0_2 a0_3 w K) (hk : ∀ x0 w', K x0 w' → K' x0 w') : c_ref09_Check a0_0 a0_1 a0_2 a0_3 w K' :=
  Calls.mono h fun e w' hh => by obtain ⟨x0, he, hx⟩ := hh; exact ⟨x0, he, hk _ _ hx⟩

/-- goosepond/goosepondref09.Bytes -/
abbrev n_ref09_Bytes : FuncId := 110
def c_ref09_Bytes (a0_0 : Int) (a0_1 : Int) (a0_2 : Int) (a0_3 : SliceV) (a1 : Int) (w : World) (K : SliceV → World → Prop) : Prop :=
  Calls Try.prog 110 ⟨[(Value.agg ⟨[(Value.int .i64 a0_0), (Value.int .i64 a0_1), (Value.int .i64 a0_2), (Value.slice a0_3.a a0_3.len a0_3.cap)]⟩), (Value.int .i64 a1)]⟩ w fun e w' => ∃ y17 : SliceV, e = .returned (Value.slice y17.a y17.len y17.cap) ∧ K y17 w'
theorem cm_ref09_Bytes {a0_0 a0_1 a0_2 a0_3 a1 w K K'} (h : c_ref09_Bytes a0_0 a0_1 a0_2 a0_3 a1 w K) (hk : ∀ x0 w', K x0 w' → K' x0 w') : c_ref09_Bytes a0_0 a0_1 a0_2 a0_3 a1 w K' :=
  Calls.mono h fun e w' hh => by obtain ⟨x0, he, hx⟩ := hh; exact ⟨x0, he, hk _ _ hx⟩

/-- goosepond/be.Get -/
abbrev n_be_Get : FuncId := 115
def c_be_Get (a0 : SliceV) (a1 : Int) (a2 : Int) (w : World) (K : Int → Int → World → Prop) : Prop :=
  Calls Try.prog 115 ⟨[(Value.slice a0.a a0.len a0.cap), (Value.int .i64 a1), (Value.int .i64 a2)]⟩ w fun e w' => ∃ y12 : Int, ∃ y13 : Int, e = .returned (Value.tuple ⟨[(Value.int .i64 y12), (Value.int .i64 y13)]⟩) ∧ K y12 y13 w'
theorem cm_be_Get {a0 a1 a2 w K K'} (h : c_be_Get a0 a1 a2 w K) (hk : ∀ x0 x1 w', K x0 x1 w' → K' x0 x1 w') : c_be_Get a0 a1 a2 w K' :=
  Calls.mono h fun e w' hh => by obtain ⟨x0, x1, he, hx⟩ := hh; exact ⟨x0, x1, he, hk _ _ _ hx⟩

/-- (goosepond/v4.reader).num -/
abbrev n_v4_reader_num : FuncId := 116
def c_v4_reader_num (a0_0 : SliceV) (a0_1 : Int) (a0_2 : Int) (a1 : Int) (a2 : Int) (w : World) (K : Int → World → Prop) : Prop :=
  Calls Try.prog 116 ⟨[(Value.agg ⟨[(Value.slice a0_0.a a0_0.len a0_0.cap), (Value.int .i64 a0_1), (Value.int .i64 a0_2)]⟩), (Value.int .i64 a1), (Value.int .i64 a2)]⟩ w fun e w' => ∃ y10 : Int, e = .returned (Value.int .i64 y10) ∧ K y10 w'
theorem cm_v4_reader_num {a0_0 a0_1 a0_2 a1 a2 w K K'} (h : c_v4_reader_num a0_0 a0_1 a0_2 a1 a2 w K) (hk : ∀ x0 w', K x0 w' → K' x0 w') : c_v4_reader_num a0_0 a0_1 a0_2 a1 a2 w K' :=
  Calls.mono h fun e w' hh => by obtain ⟨x0, he, hx⟩ := hh; exact ⟨x0, he, hk _ _ hx⟩

/-- goosepond/four.one -/
abbrev n_four_one : FuncId := 117
def c_four_one (a0 : Int) (a1 : SliceV) (w : World) (K : Bool → World → Prop) : Prop :=
  Calls Try.prog 117 ⟨[(Value.int .i64 a0), (Value.slice a1.a a1.len a1.cap)]⟩ w fun e w' => ∃ y16 : Bool, e = .returned (Value.bool y16) ∧ K y16 w'
theorem cm_four_one {a0 a1 w K K'} (h : c_four_one a0 a1 w K) (hk : ∀ x0 w', K x0 w' → K' x0 w') : c_four_one a0 a1 w K' :=
  Calls.mono h fun e w' hh => by obtain ⟨x0, he, hx⟩ := hh; exact ⟨x0, he, hk _ _ hx⟩

/-- goosepond/icmp.Fault -/
abbrev n_icmp_Fault : FuncId := 118
def c_icmp_Fault (a0 : Int) (w : World) (K : Bool → World → Prop) : Prop :=
  Calls Try.prog 118 ⟨[(Value.int .i64 a0)]⟩ w fun e w' => ∃ y6 : Bool, e = .returned (Value.bool y6) ∧ K y6 w'
theorem cm_icmp_Fault {a0 w K K'} (h : c_icmp_Fault a0 w K) (hk : ∀ x0 w', K x0 w' → K' x0 w') : c_icmp_Fault a0 w K' :=
  Calls.mono h fun e w' hh => by obtain ⟨x0, he, hx⟩ := hh; exact ⟨x0, he, hk _ _ hx⟩

/-- goosepond/v4.Head -/
abbrev n_v4_Head : FuncId := 119
def c_v4_Head (a0_0 : Int) (a0_1 : Int) (a0_2 : Int) (a0_3 : Int) (a0_4 : Int) (a0_5 : Int) (a0_6 : Int) (a0_7 : Bool) (a0_8 : Bool) (a0_9 : SliceV) (a0_10 : SliceV) (w : World) (K : Int → World → Prop) : Prop :=
  Calls Try.prog 119 ⟨[(Value.agg ⟨[(Value.int .i64 a0_0), (Value.int .i64 a0_1), (Value.int .i64 a0_2), (Value.int .i64 a0_3), (Value.int .i64 a0_4), (Value.int .i64 a0_5), (Value.int .i64 a0_6), (Value.bool a0_7), (Value.bool a0_8), (Value.slice a0_9.a a0_9.len a0_9.cap), (Value.slice a0_10.a a0_10.len a0_10.cap)]⟩)]⟩ w fun e w' => ∃ y5 : Int, e = .returned (Value.int .i64 y5) ∧ K y5 w'
theorem cm_v4_Head {a0_0 a0_1 a0_2 a0_3 a0_4 a0_5 a0_6 a0_7 a0_8 a0_9 a0_10 w K K'} (h : c_v4_Head a0_0 a0_1 a0_2 a0_3 a0_4 a0_5 a0_6 a0_7 a0_8 a0_9 a0_10 w K) (hk : ∀ x0 w', K x0 w' → K' x0 w') : c_v4_Head a0_0 a0_1 a0_2 a0_3 a0_4 a0_5 a0_6 a0_7 a0_8 a0_9 a0_10 w K' :=
  Calls.mono h fun e w' hh => by obtain ⟨x0, he, hx⟩ := hh; exact ⟨x0, he, hk _ _ hx⟩

/-- goosepond/be.window -/
abbrev n_be_window : FuncId := 120
def c_be_window (a0 : SliceV) (a1 : Int) (a2 : Int) (w : World) (K : SliceV → Int → World → Prop) : Prop :=
  Calls Try.prog 120 ⟨[(Value.slice a0.a a0.len a0.cap), (Value.int .i64 a1), (Value.int .i64 a2)]⟩ w fun e w' => ∃ y12 : SliceV, ∃ y13 : Int, e = .returned (Value.tuple ⟨[(Value.slice y12.a y12.len y12.cap), (Value.int .i64 y13)]⟩) ∧ K y12 y13 w'
theorem cm_be_window {a0 a1 a2 w K K'} (h : c_be_window a0 a1 a2 w K) (hk : ∀ x0 x1 w', K x0 x1 w' → K' x0 x1 w') : c_be_window a0 a1 a2 w K' :=
  Calls.mono h fun e w' hh => by obtain ⟨x0, x1, he, hx⟩ := hh; exact ⟨x0, x1, he, hk _ _ _ hx⟩

/-- slices.Collect[byte] -/
abbrev n_slices_Collect_byte : FuncId := 121
def c_slices_Collect_byte (a0 : Value) (w : World) (K : SliceV → World → Prop) : Prop :=
  Calls Try.prog 121 ⟨[a0]⟩ w fun e w' => ∃ y4 : SliceV, e = .returned (Value.slice y4.a y4.len y4.cap) ∧ K y4 w'
theorem cm_slices_Collect_byte {a0 w K K'} (h : c_slices_Collect_byte a0 w K) (hk : ∀ x0 w', K x0 w' → K' x0 w') : c_slices_Collect_byte a0 w K' :=
  Calls.mono h fun e w' hh => by obtain ⟨x0, he, hx⟩ := hh; exact ⟨x0, he, hk _ _ hx⟩

/-- goosepond/sum.Add -/
abbrev n_sum_Add : FuncId := 122
def c_sum_Add (a0 : SliceV) (w : World) (K : Int → World → Prop) : Prop :=
  Calls Try.prog 122 ⟨[(Value.slice a0.a a0.len a0.cap)]⟩ w fun e w' => ∃ y6 : Int, e = .returned (Value.int .i64 y6) ∧ K y6 w'
theorem cm_sum_Add {a0 w K K'} (h : c_sum_Add a0 w K) (hk : ∀ x0 w', K x0 w' → K' x0 w') : c_sum_Add a0 w K' :=
  Calls.mono h fun e w' hh => by obtain ⟨x0, he, hx⟩ := hh; exact ⟨x0, he, hk _ _ hx⟩

/-- slices.Contains[[]bool,bool] -/
abbrev n_slices_Contains_bool_bool : FuncId := 123
def c_slices_Contains_bool_bool (a0 : SliceV) (a1 : Bool) (w : World) (K : Bool → World → Prop) : Prop :=
  Calls Try.prog 123 ⟨[(Value.slice a0.a a0.len a0.cap), (Value.bool a1)]⟩ w fun e w' => ∃ y5 : Bool, e = .returned (Value.bool y5) ∧ K y5 w'
theorem cm_slices_Contains_bool_bool {a0 a1 w K K'} (h : c_slices_Contains_bool_bool a0 a1 w K) (hk : ∀ x0 w', K x0 w' → K' x0 w') : c_slices_Contains_bool_bool a0 a1 w K' :=
  Calls.mono h fun e w' hh => by obtain ⟨x0, he, hx⟩ := hh; exact ⟨x0, he, hk _ _ hx⟩

/-- (goosepond/four.block).has -/
abbrev n_four_block_has : FuncId := 134
def c_four_block_has (a0_0 : Int) (a0_1 : Int) (a1 : Int) (w : World) (K : Bool → World → Prop) : Prop :=
  Calls Try.prog 134 ⟨[(Value.agg ⟨[(Value.int .i64 a0_0), (Value.int .i64 a0_1)]⟩), (Value.int .i64 a1)]⟩ w fun e w' => ∃ y12 : Bool, e = .returned (Value.bool y12) ∧ K y12 w'
theorem cm_four_block_has {a0_0 a0_1 a1 w K K'} (h : c_four_block_has a0_0 a0_1 a1 w K) (hk : ∀ x0 w', K x0 w' → K' x0 w') : c_four_block_has a0_0 a0_1 a1 w K' :=
  Calls.mono h fun e w' hh => by obtain ⟨x0, he, hx⟩ := hh; exact ⟨x0, he, hk _ _ hx⟩

/-- goosepond/icmp.one -/
abbrev n_icmp_one : FuncId := 135
def c_icmp_one (a0 : Int) (a1 : SliceV) (w : World) (K : Bool → World → Prop) : Prop :=
  Calls Try.prog 135 ⟨[(Value.int .i64 a0), (Value.slice a1.a a1.len a1.cap)]⟩ w fun e w' => ∃ y5 : Bool, e = .returned (Value.bool y5) ∧ K y5 w'
theorem cm_icmp_one {a0 a1 w K K'} (h : c_icmp_one a0 a1 w K) (hk : ∀ x0 w', K x0 w' → K' x0 w') : c_icmp_one a0 a1 w K' :=
  Calls.mono h fun e w' hh => by obtain ⟨x0, he, hx⟩ := hh; exact ⟨x0, he, hk _ _ hx⟩

/-- goosepond/sum.Fold -/
abbrev n_sum_Fold : FuncId := 136
def c_sum_Fold (a0 : Int) (w : World) (K : Int → World → Prop) : Prop :=
  Calls Try.prog 136 ⟨[(Value.int .i64 a0)]⟩ w fun e w' => ∃ y5 : Int, e = .returned (Value.int .i64 y5) ∧ K y5 w'
theorem cm_sum_Fold {a0 w K K'} (h : c_sum_Fold a0 w K) (hk : ∀ x0 w', K x0 w' → K' x0 w') : c_sum_Fold a0 w K' :=
  Calls.mono h fun e w' hh => by obtain ⟨x0, he, hx⟩ := hh; exact ⟨x0, he, hk _ _ hx⟩

/-- goosepond/sum.total -/
abbrev n_sum_total : FuncId := 137
def c_sum_total (a0 : SliceV) (w : World) (K : Int → World → Prop) : Prop :=
  Calls Try.prog 137 ⟨[(Value.slice a0.a a0.len a0.cap)]⟩ w fun e w' => ∃ y23 : Int, e = .returned (Value.int .i64 y23) ∧ K y23 w'
theorem cm_sum_total {a0 w K K'} (h : c_sum_total a0 w K) (hk : ∀ x0 w', K x0 w' → K' x0 w') : c_sum_total a0 w K' :=
  Calls.mono h fun e w' hh => by obtain ⟨x0, he, hx⟩ := hh; exact ⟨x0, he, hk _ _ hx⟩

/-- slices.Index[[]bool,bool] -/
abbrev n_slices_Index_bool_bool : FuncId := 138
def c_slices_Index_bool_bool (a0 : SliceV) (a1 : Bool) (w : World) (K : Int → World → Prop) : Prop :=
  Calls Try.prog 138 ⟨[(Value.slice a0.a a0.len a0.cap), (Value.bool a1)]⟩ w fun e w' => ∃ y8 : Int, e = .returned (Value.int .i64 y8) ∧ K y8 w'
theorem cm_slices_Index_bool_bool {a0 a1 w K K'} (h : c_slices_Index_bool_bool a0 a1 w K) (hk : ∀ x0 w', K x0 w' → K' x0 w') : c_slices_Index_bool_bool a0 a1 w K' :=
  Calls.mono h fun e w' hh => by obtain ⟨x0, he, hx⟩ := hh; exact ⟨x0, he, hk _ _ hx⟩

/-- slices.Contains[[]int,int] -/
abbrev n_slices_Contains_int_int : FuncId := 144
def c_slices_Contains_int_int (a0 : SliceV) (a1 : Int) (w : World) (K : Bool → World → Prop) : Prop :=
  Calls Try.prog 144 ⟨[(Value.slice a0.a a0.len a0.cap), (Value.int .i64 a1)]⟩ w fun e w' => ∃ y5 : Bool, e = .returned (Value.bool y5) ∧ K y5 w'
theorem cm_slices_Contains_int_int {a0 a1 w K K'} (h : c_slices_Contains_int_int a0 a1 w K) (hk : ∀ x0 w', K x0 w' → K' x0 w') : c_slices_Contains_int_int a0 a1 w K' :=
  Calls.mono h fun e w' hh => by obtain ⟨x0, he, hx⟩ := hh; exact ⟨x0, he, hk _ _ hx⟩

/-- goosepond/be.Words -/
abbrev n_be_Words : FuncId := 145
def c_be_Words (a0 : SliceV) (w : World) (K : Value → World → Prop) : Prop :=
  Calls Try.prog 145 ⟨[(Value.slice a0.a a0.len a0.cap)]⟩ w fun e w' => ∃ y4 : Value, e = .returned y4 ∧ K y4 w'
theorem cm_be_Words {a0 w K K'} (h : c_be_Words a0 w K) (hk : ∀ x0 w', K x0 w' → K' x0 w') : c_be_Words a0 w K' :=
  Calls.mono h fun e w' hh => by obtain ⟨x0, he, hx⟩ := hh; exact ⟨x0, he, hk _ _ hx⟩

/-- slices.Index[[]int,int] -/
abbrev n_slices_Index_int_int : FuncId := 147
def c_slices_Index_int_int (a0 : SliceV) (a1 : Int) (w : World) (K : Int → World → Prop) : Prop :=
  Calls Try.prog 147 ⟨[(Value.slice a0.a a0.len a0.cap), (Value.int .i64 a1)]⟩ w fun e w' => ∃ y8 : Int, e = .returned (Value.int .i64 y8) ∧ K y8 w'
theorem cm_slices_Index_int_int {a0 a1 w K K'} (h : c_slices_Index_int_int a0 a1 w K) (hk : ∀ x0 w', K x0 w' → K' x0 w') : c_slices_Index_int_int a0 a1 w K' :=
  Calls.mono h fun e w' hh => by obtain ⟨x0, he, hx⟩ := hh; exact ⟨x0, he, hk _ _ hx⟩

/-- goosepond/be.Words$1 -/
abbrev n_be_Words_1 : FuncId := 148
def c_be_Words_1 (a0 : Value) (f0 : Addr) (w : World) (K : World → Prop) : Prop :=
  Calls Try.prog 148 ⟨[a0, (Value.pointer (some f0))]⟩ w fun e w' => e = .returned (Value.tuple ⟨[]⟩) ∧ K w'
theorem cm_be_Words_1 {a0 f0 w K K'} (h : c_be_Words_1 a0 f0 w K) (hk : ∀  w', K  w' → K'  w') : c_be_Words_1 a0 f0 w K' :=
  Calls.mono h fun e w' hh => by obtain ⟨he, hx⟩ := hh; exact ⟨he, hk  _ hx⟩

/-- goosepond/goosepondplain.Datagram -/
def s_plain_Datagram (a0 : Int) (a1 : Int) (a2 : Int) (a3 : Int) (a4 : Int) (a5 : SliceV) (w : World) (K : SliceV → World → Prop) : Prop :=
 (c_ref07_Build a0 a1 a2 a3 false a5 w fun r7 r8 w9 =>
 c_ref05_Build 0 0 0 a4 17 a0 a1 false false ⟨none, 0, 0⟩ r7 w9 fun r10 r11 w12 =>
 K r10 w12)
theorem e_plain_Datagram (a0 : Int) (a1 : Int) (a2 : Int) (a3 : Int) (a4 : Int) (a5 : SliceV) (w : World) (K : SliceV → World → Prop) : den Try.prog 37 (bodyOf Try.f11) none (.seq .leaf (.seq .leaf (.seq .leaf (.seq .leaf .leaf)))) (argEnv 0 [(Value.int .i64 a0), (Value.int .i64 a1), (Value.int .i64 a2), (Value.int .i64 a3), (Value.int .i64 a4), (Value.slice a5.a a5.len a5.cap)]) [] w (retK Try.prog [.tmp 12] [.one .slice] K) = s_plain_Datagram a0 a1 a2 a3 a4 a5 w K := by kernel_rfl
theorem ok_plain_Datagram {a0 a1 a2 a3 a4 a5 w K} (h : s_plain_Datagram a0 a1 a2 a3 a4 a5 w K) : c_plain_Datagram a0 a1 a2 a3 a4 a5 w K :=
  fn_sound pok Try.func11 (fn := Try.f11) (c := bodyOf Try.f11) (nt := 37) (by kernel_rfl) (by kernel_rfl) (rs := [.tmp 12]) (by kernel_rfl) [.one .slice] K (.seq .leaf (.seq .leaf (.seq .leaf (.seq .leaf .leaf)))) [(Value.int .i64 a0), (Value.int .i64 a1), (Value.int .i64 a2), (Value.int .i64 a3), (Value.int .i64 a4), (Value.slice a5.a a5.len a5.cap)] (by kernel_rfl) w ((e_plain_Datagram a0 a1 a2 a3 a4 a5 w K).mpr h)

/-- goosepond/goosepondref05.Build -/
def s_ref05_Build (a0_0 : Int) (a0_1 : Int) (a0_2 : Int) (a0_3 : Int) (a0_4 : Int) (a0_5 : Int) (a0_6 : Int) (a0_7 : Bool) (a0_8 : Bool) (a0_9 : SliceV) (a0_10 : SliceV) (w : World) (K : SliceV → Int → World → Prop) : Prop :=
 (Al w (.cells ⟨[(Value.int .i64 a0_0), (Value.int .i64 a0_1), (Value.int .i64 a0_2), (Value.int .i64 a0_3), (Value.int .i64 a0_4), (Value.int .i64 a0_5), (Value.int .i64 a0_6), (Value.bool a0_7), (Value.bool a0_8), (Value.slice a0_9.a a0_9.len a0_9.cap), (Value.slice a0_10.a a0_10.len a0_10.cap)]⟩ 46) fun a3 w2 =>
 Ld (.int .i64) w2 (a3.add 0) fun x4 =>
 Ld (.int .i64) w2 (a3.add 1) fun x5 =>
 Ld (.int .i64) w2 (a3.add 2) fun x6 =>
 Ld (.int .i64) w2 (a3.add 3) fun x7 =>
 Ld (.int .i64) w2 (a3.add 4) fun x8 =>
 Ld (.int .i64) w2 (a3.add 5) fun x9 =>
 Ld (.int .i64) w2 (a3.add 6) fun x10 =>
 Ld .bool w2 (a3.add 7) fun x11 =>
 Ld .bool w2 (a3.add 8) fun x12 =>
 Ld .slice w2 (a3.add 9) fun x13 =>
 Ld .slice w2 (a3.add 10) fun x14 =>
 c_ref05_Check x4 x5 x6 x7 x8 x9 x10 x11 x12 x13 x14 w2 fun r15 w16 =>
 (bif (r15 != 0) then
 K ⟨none, 0, 0⟩ r15 w16
 else
 Ld (.int .i64) w16.drew (a3.add 0) fun x17 =>
 Ld (.int .i64) w16.drew (a3.add 1) fun x18 =>
 Ld (.int .i64) w16.drew (a3.add 2) fun x19 =>
 Ld (.int .i64) w16.drew (a3.add 3) fun x20 =>
 Ld (.int .i64) w16.drew (a3.add 4) fun x21 =>
 Ld (.int .i64) w16.drew (a3.add 5) fun x22 =>
 Ld (.int .i64) w16.drew (a3.add 6) fun x23 =>
 Ld .bool w16.drew (a3.add 7) fun x24 =>
 Ld .bool w16.drew (a3.add 8) fun x25 =>
 Ld .slice w16.drew (a3.add 9) fun x26 =>
 Ld .slice w16.drew (a3.add 10) fun x27 =>
 Ld (.int .i64) w16.drew (a3.add 0) fun x28 =>
 Ld (.int .i64) w16.drew (a3.add 1) fun x29 =>
 Ld (.int .i64) w16.drew (a3.add 2) fun x30 =>
 Ld (.int .i64) w16.drew (a3.add 3) fun x31 =>
 Ld (.int .i64) w16.drew (a3.add 4) fun x32 =>
 Ld (.int .i64) w16.drew (a3.add 5) fun x33 =>
 Ld (.int .i64) w16.drew (a3.add 6) fun x34 =>
 Ld .bool w16.drew (a3.add 7) fun x35 =>
 Ld .bool w16.drew (a3.add 8) fun x36 =>
 Ld .slice w16.drew (a3.add 9) fun x37 =>
 Ld .slice w16.drew (a3.add 10) fun x38 =>
 c_ref05_Size x28 x29 x30 x31 x32 x33 x34 x35 x36 x37 x38 w16.drew fun r39 w40 =>
 w40.cell? (a3.add 0) = some (Value.int .i64 x17) ∧
 w40.cell? (a3.add 1) = some (Value.int .i64 x18) ∧
 w40.cell? (a3.add 2) = some (Value.int .i64 x19) ∧
 w40.cell? (a3.add 3) = some (Value.int .i64 x20) ∧
 w40.cell? (a3.add 4) = some (Value.int .i64 x21) ∧
 w40.cell? (a3.add 5) = some (Value.int .i64 x22) ∧
 w40.cell? (a3.add 6) = some (Value.int .i64 x23) ∧
 w40.cell? (a3.add 7) = some (Value.bool x24) ∧
 w40.cell? (a3.add 8) = some (Value.bool x25) ∧
 w40.cell? (a3.add 9) = some (Value.slice x26.a x26.len x26.cap) ∧
 w40.cell? (a3.add 10) = some (Value.slice x27.a x27.len x27.cap) ∧
 c_ref05_head x17 x18 x19 x20 x21 x22 x23 x24 x25 x26 x27 r39 0 w40 fun r41 w42 =>
 Al w42 (.cells ⟨[(Value.slice r41.a r41.len r41.cap)]⟩ 30) fun a44 w43 =>
 c_ref02_Of ⟨(some a44), 1, 1⟩ w43 fun r45 w46 =>
 Ld (.int .i64) w46.drew (a3.add 0) fun x47 =>
 Ld (.int .i64) w46.drew (a3.add 1) fun x48 =>
 Ld (.int .i64) w46.drew (a3.add 2) fun x49 =>
 Ld (.int .i64) w46.drew (a3.add 3) fun x50 =>
 Ld (.int .i64) w46.drew (a3.add 4) fun x51 =>
 Ld (.int .i64) w46.drew (a3.add 5) fun x52 =>
 Ld (.int .i64) w46.drew (a3.add 6) fun x53 =>
 Ld .bool w46.drew (a3.add 7) fun x54 =>
 Ld .bool w46.drew (a3.add 8) fun x55 =>
 Ld .slice w46.drew (a3.add 9) fun x56 =>
 Ld .slice w46.drew (a3.add 10) fun x57 =>
 Ld (.int .i64) w46.drew (a3.add 0) fun x58 =>
 Ld (.int .i64) w46.drew (a3.add 1) fun x59 =>
 Ld (.int .i64) w46.drew (a3.add 2) fun x60 =>
 Ld (.int .i64) w46.drew (a3.add 3) fun x61 =>
 Ld (.int .i64) w46.drew (a3.add 4) fun x62 =>
 Ld (.int .i64) w46.drew (a3.add 5) fun x63 =>
 Ld (.int .i64) w46.drew (a3.add 6) fun x64 =>
 Ld .bool w46.drew (a3.add 7) fun x65 =>
 Ld .bool w46.drew (a3.add 8) fun x66 =>
 Ld .slice w46.drew (a3.add 9) fun x67 =>
 Ld .slice w46.drew (a3.add 10) fun x68 =>
 Ld .slice w46.drew (a3.add 10) fun x69 =>
 c_ref05_Size x58 x59 x60 x61 x62 x63 x64 x65 x66 x67 x68 w46.drew fun r70 w71 =>
 w71.cell? (a3.add 10) = some (Value.slice x69.a x69.len x69.cap) ∧
 w71.cell? (a3.add 0) = some (Value.int .i64 x47) ∧
 w71.cell? (a3.add 1) = some (Value.int .i64 x48) ∧
 w71.cell? (a3.add 2) = some (Value.int .i64 x49) ∧
 w71.cell? (a3.add 3) = some (Value.int .i64 x50) ∧
 w71.cell? (a3.add 4) = some (Value.int .i64 x51) ∧
 w71.cell? (a3.add 5) = some (Value.int .i64 x52) ∧
 w71.cell? (a3.add 6) = some (Value.int .i64 x53) ∧
 w71.cell? (a3.add 7) = some (Value.bool x54) ∧
 w71.cell? (a3.add 8) = some (Value.bool x55) ∧
 w71.cell? (a3.add 9) = some (Value.slice x56.a x56.len x56.cap) ∧
 w71.cell? (a3.add 10) = some (Value.slice x57.a x57.len x57.cap) ∧
 c_ref05_head x47 x48 x49 x50 x51 x52 x53 x54 x55 x56 x57 r70 r45 w71 fun r72 w73 =>
 w73.cell? (a3.add 10) = some (Value.slice x69.a x69.len x69.cap) ∧
 AppSl 5 1 1 [(Value.int .u8 0)] r72 x69 w73 fun s74 w75 =>
 K s74 0 w75))
theorem e_ref05_Build (a0_0 : Int) (a0_1 : Int) (a0_2 : Int) (a0_3 : Int) (a0_4 : Int) (a0_5 : Int) (a0_6 : Int) (a0_7 : Bool) (a0_8 : Bool) (a0_9 : SliceV) (a0_10 : SliceV) (w : World) (K : SliceV → Int → World → Prop) : den Try.prog 25 (bodyOf Try.f16) none (.seq .leaf (.seq (.seq .leaf (.seq .leaf (.cond (.seq .leaf .leaf) .leaf))) (.seq .leaf (.seq .leaf .leaf)))) (argEnv 0 [(Value.agg ⟨[(Value.int .i64 a0_0), (Value.int .i64 a0_1), (Value.int .i64 a0_2), (Value.int .i64 a0_3), (Value.int .i64 a0_4), (Value.int .i64 a0_5), (Value.int .i64 a0_6), (Value.bool a0_7), (Value.bool a0_8), (Value.slice a0_9.a a0_9.len a0_9.cap), (Value.slice a0_10.a a0_10.len a0_10.cap)]⟩)]) [] w (retK Try.prog [.tmp 2, .tmp 3] [.one .slice, .one (.int .i64)] K) = s_ref05_Build a0_0 a0_1 a0_2 a0_3 a0_4 a0_5 a0_6 a0_7 a0_8 a0_9 a0_10 w K := by kernel_rfl
theorem ok_ref05_Build {a0_0 a0_1 a0_2 a0_3 a0_4 a0_5 a0_6 a0_7 a0_8 a0_9 a0_10 w K} (h : s_ref05_Build a0_0 a0_1 a0_2 a0_3 a0_4 a0_5 a0_6 a0_7 a0_8 a0_9 a0_10 w K) : c_ref05_Build a0_0 a0_1 a0_2 a0_3 a0_4 a0_5 a0_6 a0_7 a0_8 a0_9 a0_10 w K :=
  fn_sound pok Try.func16 (fn := Try.f16) (c := bodyOf Try.f16) (nt := 25) (by kernel_rfl) (by kernel_rfl) (rs := [.tmp 2, .tmp 3]) (by kernel_rfl) [.one .slice, .one (.int .i64)] K (.seq .leaf (.seq (.seq .leaf (.seq .leaf (.cond (.seq .leaf .leaf) .leaf))) (.seq .leaf (.seq .leaf .leaf)))) [(Value.agg ⟨[(Value.int .i64 a0_0), (Value.int .i64 a0_1), (Value.int .i64 a0_2), (Value.int .i64 a0_3), (Value.int .i64 a0_4), (Value.int .i64 a0_5), (Value.int .i64 a0_6), (Value.bool a0_7), (Value.bool a0_8), (Value.slice a0_9.a a0_9.len a0_9.cap), (Value.slice a0_10.a a0_10.len a0_10.cap)]⟩)] (by kernel_rfl) w ((e_ref05_Build a0_0 a0_1 a0_2 a0_3 a0_4 a0_5 a0_6 a0_7 a0_8 a0_9 a0_10 w K).mpr h)

/-- bytes.Equal -/
def s_bytes_Equal (a0 : SliceV) (a1 : SliceV) (w : World) (K : Bool → World → Prop) : Prop :=
 (BytesStr w a0 fun b3 =>
 BytesStr w a1 fun b4 =>
 K (strEq b3 b4) w)
theorem e_bytes_Equal (a0 : SliceV) (a1 : SliceV) (w : World) (K : Bool → World → Prop) : den Try.prog 10 (bodyOf Try.f18) none (.seq .leaf (.seq .leaf .leaf)) (argEnv 0 [(Value.slice a0.a a0.len a0.cap), (Value.slice a1.a a1.len a1.cap)]) [] w (retK Try.prog [.tmp 4] [.one .bool] K) = s_bytes_Equal a0 a1 w K := by kernel_rfl
theorem ok_bytes_Equal {a0 a1 w K} (h : s_bytes_Equal a0 a1 w K) : c_bytes_Equal a0 a1 w K :=
  fn_sound pok Try.func18 (fn := Try.f18) (c := bodyOf Try.f18) (nt := 10) (by kernel_rfl) (by kernel_rfl) (rs := [.tmp 4]) (by kernel_rfl) [.one .bool] K (.seq .leaf (.seq .leaf .leaf)) [(Value.slice a0.a a0.len a0.cap), (Value.slice a1.a a1.len a1.cap)] (by kernel_rfl) w ((e_bytes_Equal a0 a1 w K).mpr h)

/-- goosepond/goosepondref05.Same -/
def s_ref05_Same (a0_0 : Int) (a0_1 : Int) (a0_2 : Int) (a0_3 : Int) (a0_4 : Int) (a0_5 : Int) (a0_6 : Int) (a0_7 : Bool) (a0_8 : Bool) (a0_9 : SliceV) (a0_10 : SliceV) (a1_0 : Int) (a1_1 : Int) (a1_2 : Int) (a1_3 : Int) (a1_4 : Int) (a1_5 : Int) (a1_6 : Int) (a1_7 : Bool) (a1_8 : Bool) (a1_9 : SliceV) (a1_10 : SliceV) (w : World) (K : Bool → World → Prop) : Prop :=
 (Al w (.cells ⟨[(Value.int .i64 a0_0), (Value.int .i64 a0_1), (Value.int .i64 a0_2), (Value.int .i64 a0_3), (Value.int .i64 a0_4), (Value.int .i64 a0_5), (Value.int .i64 a0_6), (Value.bool a0_7), (Value.bool a0_8), (Value.slice a0_9.a a0_9.len a0_9.cap), (Value.slice a0_10.a a0_10.len a0_10.cap)]⟩ 46) fun a4 w3 =>
 Al w3 (.cells ⟨[(Value.int .i64 a1_0), (Value.int .i64 a1_1), (Value.int .i64 a1_2), (Value.int .i64 a1_3), (Value.int .i64 a1_4), (Value.int .i64 a1_5), (Value.int .i64 a1_6), (Value.bool a1_7), (Value.bool a1_8), (Value.slice a1_9.a a1_9.len a1_9.cap), (Value.slice a1_10.a a1_10.len a1_10.cap)]⟩ 46) fun a6 w5 =>
 let J7 : Bool → Prop := fun j8 =>
 (let J9 : Bool → Prop := fun j10 =>
 (K j10 w5)
 (bif j8 then
 Ld .bool w5 (a4.add 7) fun x11 =>
 Ld .bool w5 (a6.add 7) fun x12 =>
 (bif ((x11 : Bool) == x12) then
 Ld .bool w5 (a4.add 8) fun x13 =>
 Ld .bool w5 (a6.add 8) fun x14 =>
 (bif ((x13 : Bool) == x14) then
 Ld .slice w5 (a4.add 9) fun x15 =>
 BytesStr w5 x15 fun b16 =>
 Ld .slice w5 (a6.add 9) fun x17 =>
 BytesStr w5 x17 fun b18 =>
 (bif (strEq b16 b18) then
 Ld .slice w5 (a4.add 10) fun x19 =>
 BytesStr w5 x19 fun b20 =>
 Ld .slice w5 (a6.add 10) fun x21 =>
 BytesStr w5 x21 fun b22 =>
 J9 (strEq b20 b22)
 else
 J9 false)
 else
 J9 false)
 else
 J9 false)
 else
 J9 false))
 Ld (.int .i64) w5 a4 fun x23 =>
 Ld (.int .i64) w5 a6 fun x24 =>
 (bif (x23 == x24) then
 Ld (.int .i64) w5 (a4.add 1) fun x25 =>
 Ld (.int .i64) w5 (a6.add 1) fun x26 =>
 (bif (x25 == x26) then
 Ld (.int .i64) w5 (a4.add 2) fun x27 =>
 Ld (.int .i64) w5 (a6.add 2) fun x28 =>
 (bif (x27 == x28) then
 Ld (.int .i64) w5 (a4.add 3) fun x29 =>
 Ld (.int .i64) w5 (a6.add 3) fun x30 =>
 (bif (x29 == x30) then
 Ld (.int .i64) w5 (a4.add 4) fun x31 =>
 Ld (.int .i64) w5 (a6.add 4) fun x32 =>
 (bif (x31 == x32) then
 Ld (.int .i64) w5 (a4.add 5) fun x33 =>
 Ld (.int .i64) w5 (a6.add 5) fun x34 =>
 (bif (x33 == x34) then
 Ld (.int .i64) w5 (a4.add 6) fun x35 =>
 Ld (.int .i64) w5 (a6.add 6) fun x36 =>
 J7 (x35 == x36)
 else
 J7 false)
 else
 J7 false)
 else
 J7 false)
 else
 J7 false)
 else
 J7 false)
 else
 J7 false))
theorem e_ref05_Same (a0_0 : Int) (a0_1 : Int) (a0_2 : Int) (a0_3 : Int) (a0_4 : Int) (a0_5 : Int) (a0_6 : Int) (a0_7 : Bool) (a0_8 : Bool) (a0_9 : SliceV) (a0_10 : SliceV) (a1_0 : Int) (a1_1 : Int) (a1_2 : Int) (a1_3 : Int) (a1_4 : Int) (a1_5 : Int) (a1_6 : Int) (a1_7 : Bool) (a1_8 : Bool) (a1_9 : SliceV) (a1_10 : SliceV) (w : World) (K : Bool → World → Prop) : den Try.prog 86 (bodyOf Try.f20) none (.seq .leaf (.seq .leaf (.seq .leaf .leaf))) (argEnv 0 [(Value.agg ⟨[(Value.int .i64 a0_0), (Value.int .i64 a0_1), (Value.int .i64 a0_2), (Value.int .i64 a0_3), (Value.int .i64 a0_4), (Value.int .i64 a0_5), (Value.int .i64 a0_6), (Value.bool a0_7), (Value.bool a0_8), (Value.slice a0_9.a a0_9.len a0_9.cap), (Value.slice a0_10.a a0_10.len a0_10.cap)]⟩), (Value.agg ⟨[(Value.int .i64 a1_0), (Value.int .i64 a1_1), (Value.int .i64 a1_2), (Value.int .i64 a1_3), (Value.int .i64 a1_4), (Value.int .i64 a1_5), (Value.int .i64 a1_6), (Value.bool a1_7), (Value.bool a1_8), (Value.slice a1_9.a a1_9.len a1_9.cap), (Value.slice a1_10.a a1_10.len a1_10.cap)]⟩)]) [] w (retK Try.prog [.tmp 4] [.one .bool] K) = s_ref05_Same a0_0 a0_1 a0_2 a0_3 a0_4 a0_5 a0_6 a0_7 a0_8 a0_9 a0_10 a1_0 a1_1 a1_2 a1_3 a1_4 a1_5 a1_6 a1_7 a1_8 a1_9 a1_10 w K := by kernel_rfl
theorem ok_ref05_Same {a0_0 a0_1 a0_2 a0_3 a0_4 a0_5 a0_6 a0_7 a0_8 a0_9 a0_10 a1_0 a1_1 a1_2 a1_3 a1_4 a1_5 a1_6 a1_7 a1_8 a1_9 a1_10 w K} (h : s_ref05_Same a0_0 a0_1 a0_2 a0_3 a0_4 a0_5 a0_6 a0_7 a0_8 a0_9 a0_10 a1_0 a1_1 a1_2 a1_3 a1_4 a1_5 a1_6 a1_7 a1_8 a1_9 a1_10 w K) : c_ref05_Same a0_0 a0_1 a0_2 a0_3 a0_4 a0_5 a0_6 a0_7 a0_8 a0_9 a0_10 a1_0 a1_1 a1_2 a1_3 a1_4 a1_5 a1_6 a1_7 a1_8 a1_9 a1_10 w K :=
  fn_sound pok Try.func20 (fn := Try.f20) (c := bodyOf Try.f20) (nt := 86) (by kernel_rfl) (by kernel_rfl) (rs := [.tmp 4]) (by kernel_rfl) [.one .bool] K (.seq .leaf (.seq .leaf (.seq .leaf .leaf))) [(Value.agg ⟨[(Value.int .i64 a0_0), (Value.int .i64 a0_1), (Value.int .i64 a0_2), (Value.int .i64 a0_3), (Value.int .i64 a0_4), (Value.int .i64 a0_5), (Value.int .i64 a0_6), (Value.bool a0_7), (Value.bool a0_8), (Value.slice a0_9.a a0_9.len a0_9.cap), (Value.slice a0_10.a a0_10.len a0_10.cap)]⟩), (Value.agg ⟨[(Value.int .i64 a1_0), (Value.int .i64 a1_1), (Value.int .i64 a1_2), (Value.int .i64 a1_3), (Value.int .i64 a1_4), (Value.int .i64 a1_5), (Value.int .i64 a1_6), (Value.bool a1_7), (Value.bool a1_8), (Value.slice a1_9.a a1_9.len a1_9.cap), (Value.slice a1_10.a a1_10.len a1_10.cap)]⟩)] (by kernel_rfl) w ((e_ref05_Same a0_0 a0_1 a0_2 a0_3 a0_4 a0_5 a0_6 a0_7 a0_8 a0_9 a0_10 a1_0 a1_1 a1_2 a1_3 a1_4 a1_5 a1_6 a1_7 a1_8 a1_9 a1_10 w K).mpr h)

/-- goosepond/goosepondref07.Build -/
def s_ref07_Build (a0 : Int) (a1 : Int) (a2_0 : Int) (a2_1 : Int) (a2_2 : Bool) (a2_3 : SliceV) (w : World) (K : SliceV → Int → World → Prop) : Prop :=
 (Al w (.cells ⟨[(Value.int .i64 a2_0), (Value.int .i64 a2_1), (Value.bool a2_2), (Value.slice a2_3.a a2_3.len a2_3.cap)]⟩ 76) fun a5 w4 =>
 Ld (.int .i64) w4 (a5.add 0) fun x6 =>
 Ld (.int .i64) w4 (a5.add 1) fun x7 =>
 Ld .bool w4 (a5.add 2) fun x8 =>
 Ld .slice w4 (a5.add 3) fun x9 =>
 c_ref07_Check x6 x7 x8 x9 w4 fun r10 w11 =>
 (bif (r10 != 0) then
 K ⟨none, 0, 0⟩ r10 w11
 else
 Ld (.int .i64) w11 (a5.add 0) fun x12 =>
 Ld (.int .i64) w11 (a5.add 1) fun x13 =>
 Ld .bool w11 (a5.add 2) fun x14 =>
 Ld .slice w11 (a5.add 3) fun x15 =>
 c_ref07_bytes x12 x13 x14 x15 0 w11 fun r16 w17 =>
 Ld .bool w17 (a5.add 2) fun x18 =>
 (bif x18 then
 K r16 0 w17
 else
 c_ref07_Pseudo a0 a1 17 (r16.len : Int) w17 fun r19 w20 =>
 Al w20 (.cells ⟨[(Value.slice r19.a r19.len r19.cap), (Value.slice r16.a r16.len r16.cap)]⟩ 30) fun a22 w21 =>
 c_ref02_Of ⟨(some a22), 2, 2⟩ w21 fun r23 w24 =>
 let J25 : Int → Prop := fun j26 =>
 (Ld (.int .i64) w24 (a5.add 0) fun x27 =>
 Ld (.int .i64) w24 (a5.add 1) fun x28 =>
 Ld .bool w24 (a5.add 2) fun x29 =>
 Ld .slice w24 (a5.add 3) fun x30 =>
 c_ref07_bytes x27 x28 x29 x30 j26 w24 fun r31 w32 =>
 K r31 0 w32)
 (bif (r23 == 0) then
 J25 65535
 else
 J25 r23))))
theorem e_ref07_Build (a0 : Int) (a1 : Int) (a2_0 : Int) (a2_1 : Int) (a2_2 : Bool) (a2_3 : SliceV) (w : World) (K : SliceV → Int → World → Prop) : den Try.prog 34 (bodyOf Try.f31) none (.seq .leaf (.seq (.seq .leaf (.seq .leaf (.cond (.seq .leaf .leaf) .leaf))) (.seq .leaf (.seq (.seq .leaf (.cond (.seq .leaf .leaf) .leaf)) (.seq .leaf (.seq (.seq .leaf (.cond .leaf .leaf)) (.seq .leaf .leaf))))))) (argEnv 0 [(Value.int .i64 a0), (Value.int .i64 a1), (Value.agg ⟨[(Value.int .i64 a2_0), (Value.int .i64 a2_1), (Value.bool a2_2), (Value.slice a2_3.a a2_3.len a2_3.cap)]⟩)]) [] w (retK Try.prog [.tmp 6, .tmp 7] [.one .slice, .one (.int .i64)] K) = s_ref07_Build a0 a1 a2_0 a2_1 a2_2 a2_3 w K := by kernel_rfl
theorem ok_ref07_Build {a0 a1 a2_0 a2_1 a2_2 a2_3 w K} (h : s_ref07_Build a0 a1 a2_0 a2_1 a2_2 a2_3 w K) : c_ref07_Build a0 a1 a2_0 a2_1 a2_2 a2_3 w K :=
  fn_sound pok Try.func31 (fn := Try.f31) (c := bodyOf Try.f31) (nt := 34) (by kernel_rfl) (by kernel_rfl) (rs := [.tmp 6, .tmp 7]) (by kernel_rfl) [.one .slice, .one (.int .i64)] K (.seq .leaf (.seq (.seq .leaf (.seq .leaf (.cond (.seq .leaf .leaf) .leaf))) (.seq .leaf (.seq (.seq .leaf (.cond (.seq .leaf .leaf) .leaf)) (.seq .leaf (.seq (.seq .leaf (.cond .leaf .leaf)) (.seq .leaf .leaf))))))) [(Value.int .i64 a0), (Value.int .i64 a1), (Value.agg ⟨[(Value.int .i64 a2_0), (Value.int .i64 a2_1), (Value.bool a2_2), (Value.slice a2_3.a a2_3.len a2_3.cap)]⟩)] (by kernel_rfl) w ((e_ref07_Build a0 a1 a2_0 a2_1 a2_2 a2_3 w K).mpr h)

/-- slices.Clone[[]byte,byte] -/
def s_slices_Clone_byte_byte (a0 : SliceV) (w : World) (K : SliceV → World → Prop) : Prop :=
 ((bif (Option.isNone a0.a) then
 K ⟨none, 0, 0⟩ w
 else
 Al w (.cells ⟨[]⟩ 5) fun a3 w2 =>
 AppSl 5 1 1 [(Value.int .u8 0)] ⟨(some a3), 0, 0⟩ a0 w2 fun s4 w5 =>
 K s4 w5))
theorem e_slices_Clone_byte_byte (a0 : SliceV) (w : World) (K : SliceV → World → Prop) : den Try.prog 8 (bodyOf Try.f32) none (.seq .leaf (.seq (.seq .leaf (.cond (.seq .leaf .leaf) .leaf)) (.seq .leaf .leaf))) (argEnv 0 [(Value.slice a0.a a0.len a0.cap)]) [] w (retK Try.prog [.tmp 2] [.one .slice] K) = s_slices_Clone_byte_byte a0 w K := by kernel_rfl
theorem ok_slices_Clone_byte_byte {a0 w K} (h : s_slices_Clone_byte_byte a0 w K) : c_slices_Clone_byte_byte a0 w K :=
  fn_sound pok Try.func32 (fn := Try.f32) (c := bodyOf Try.f32) (nt := 8) (by kernel_rfl) (by kernel_rfl) (rs := [.tmp 2]) (by kernel_rfl) [.one .slice] K (.seq .leaf (.seq (.seq .leaf (.cond (.seq .leaf .leaf) .leaf)) (.seq .leaf .leaf))) [(Value.slice a0.a a0.len a0.cap)] (by kernel_rfl) w ((e_slices_Clone_byte_byte a0 w K).mpr h)

/-- goosepond/be.Put -/
def s_be_Put (a0 : SliceV) (a1 : Int) (a2 : Int) (w : World) (K : SliceV → World → Prop) : Prop :=
 (c_slices_Clone_byte_byte a0 w fun r4 w5 =>
 c_be_Fits a1 a2 w5 fun r6 w7 =>
 (bif (!r6) then
 K r4 w7
 else
 c_be_digits a1 a2 w7 fun r8 w9 =>
 c_slices_AppendSeq_byte_byte r4 r8 w9 fun r10 w11 =>
 K r10 w11))
theorem e_be_Put (a0 : SliceV) (a1 : Int) (a2 : Int) (w : World) (K : SliceV → World → Prop) : den Try.prog 20 (bodyOf Try.f34) none (.seq .leaf (.seq .leaf (.seq (.seq .leaf (.cond (.seq .leaf .leaf) .leaf)) (.seq .leaf .leaf)))) (argEnv 0 [(Value.slice a0.a a0.len a0.cap), (Value.int .i64 a1), (Value.int .i64 a2)]) [] w (retK Try.prog [.tmp 6] [.one .slice] K) = s_be_Put a0 a1 a2 w K := by kernel_rfl
theorem ok_be_Put {a0 a1 a2 w K} (h : s_be_Put a0 a1 a2 w K) : c_be_Put a0 a1 a2 w K :=
  fn_sound pok Try.func34 (fn := Try.f34) (c := bodyOf Try.f34) (nt := 20) (by kernel_rfl) (by kernel_rfl) (rs := [.tmp 6]) (by kernel_rfl) [.one .slice] K (.seq .leaf (.seq .leaf (.seq (.seq .leaf (.cond (.seq .leaf .leaf) .leaf)) (.seq .leaf .leaf)))) [(Value.slice a0.a a0.len a0.cap), (Value.int .i64 a1), (Value.int .i64 a2)] (by kernel_rfl) w ((e_be_Put a0 a1 a2 w K).mpr h)

/-- goosepond/errs.Make -/
def s_errs_Make (a0 : Int) (a1 : Int) (a2 : Int) (a3 : Int) (a4 : SliceV) (w : World) (K : Int → Int → Int → Int → Int → Int → Int → Bool → Bool → SliceV → SliceV → Int → World → Prop) : Prop :=
 (Al w (.cells ⟨[(Value.int .i64 0), (Value.int .i64 0), (Value.int .i64 0), (Value.int .i64 0), (Value.int .i64 0), (Value.int .i64 0), (Value.int .i64 0), (Value.bool false), (Value.bool false), (Value.slice none 0 0), (Value.slice none 0 0)]⟩ 46) fun a7 w6 =>
 c_errs_open a4 w6 fun r8 r9 r10 r11 r12 r13 r14 r15 r16 r17 r18 r19 w20 =>
 Al w20 (.cells ⟨[(Value.int .i64 0), (Value.int .i64 0), (Value.int .i64 0), (Value.int .i64 0), (Value.int .i64 0), (Value.int .i64 0), (Value.int .i64 0), (Value.bool false), (Value.bool false), (Value.slice none 0 0), (Value.slice none 0 0)]⟩ 46) fun a22 w21 =>
 StN [(Value.int .i64 r8), (Value.int .i64 r9), (Value.int .i64 r10), (Value.int .i64 r11), (Value.int .i64 r12), (Value.int .i64 r13), (Value.int .i64 r14), (Value.bool r15), (Value.bool r16), (Value.slice r17.a r17.len r17.cap), (Value.slice r18.a r18.len r18.cap)] w21 a22 0 fun w23 =>
 (bif (!r19) then
 StN [(Value.int .i64 0), (Value.int .i64 0), (Value.int .i64 0), (Value.int .i64 0), (Value.int .i64 0), (Value.int .i64 0), (Value.int .i64 0), (Value.bool false), (Value.bool false), (Value.slice none 0 0), (Value.slice none 0 0)] w23 a7 0 fun w24 =>
 Ld (.int .i64) w24 (a7.add 0) fun y25 =>
 Ld (.int .i64) w24 (a7.add 1) fun y26 =>
 Ld (.int .i64) w24 (a7.add 2) fun y27 =>
 Ld (.int .i64) w24 (a7.add 3) fun y28 =>
 Ld (.int .i64) w24 (a7.add 4) fun y29 =>
 Ld (.int .i64) w24 (a7.add 5) fun y30 =>
 Ld (.int .i64) w24 (a7.add 6) fun y31 =>
 Ld .bool w24 (a7.add 7) fun y32 =>
 Ld .bool w24 (a7.add 8) fun y33 =>
 Ld .slice w24 (a7.add 9) fun y34 =>
 Ld .slice w24 (a7.add 10) fun y35 =>
 K y25 y26 y27 y28 y29 y30 y31 y32 y33 y34 y35 11 w24
 else
 Ld (.int .i64) w23 (a22.add 0) fun x36 =>
 Ld (.int .i64) w23 (a22.add 1) fun x37 =>
 Ld (.int .i64) w23 (a22.add 2) fun x38 =>
 Ld (.int .i64) w23 (a22.add 3) fun x39 =>
 Ld (.int .i64) w23 (a22.add 4) fun x40 =>
 Ld (.int .i64) w23 (a22.add 5) fun x41 =>
 Ld (.int .i64) w23 (a22.add 6) fun x42 =>
 Ld .bool w23 (a22.add 7) fun x43 =>
 Ld .bool w23 (a22.add 8) fun x44 =>
 Ld .slice w23 (a22.add 9) fun x45 =>
 Ld .slice w23 (a22.add 10) fun x46 =>
 c_errs_quote a4 x36 x37 x38 x39 x40 x41 x42 x43 x44 x45 x46 w23 fun r47 w48 =>
 Al w48 (.cells ⟨[(Value.int .i64 0), (Value.int .i64 0), (Value.int .i64 0), (Value.slice none 0 0)]⟩ 44) fun a50 w49 =>
 StN [(Value.int .i64 a1), (Value.int .i64 a2), (Value.int .i64 a3), (Value.slice r47.a r47.len r47.cap)] w49 a50 0 fun w51 =>
 Ld (.int .i64) w51 (a50.add 0) fun x52 =>
 Ld (.int .i64) w51 (a50.add 1) fun x53 =>
 Ld (.int .i64) w51 (a50.add 2) fun x54 =>
 Ld .slice w51 (a50.add 3) fun x55 =>
 c_icmp_Build x52 x53 x54 x55 w51 fun r56 r57 w58 =>
 (bif (r57 != 0) then
 StN [(Value.int .i64 0), (Value.int .i64 0), (Value.int .i64 0), (Value.int .i64 0), (Value.int .i64 0), (Value.int .i64 0), (Value.int .i64 0), (Value.bool false), (Value.bool false), (Value.slice none 0 0), (Value.slice none 0 0)] w58 a7 0 fun w59 =>
 Ld (.int .i64) w59 (a7.add 0) fun y60 =>
 Ld (.int .i64) w59 (a7.add 1) fun y61 =>
 Ld (.int .i64) w59 (a7.add 2) fun y62 =>
 Ld (.int .i64) w59 (a7.add 3) fun y63 =>
 Ld (.int .i64) w59 (a7.add 4) fun y64 =>
 Ld (.int .i64) w59 (a7.add 5) fun y65 =>
 Ld (.int .i64) w59 (a7.add 6) fun y66 =>
 Ld .bool w59 (a7.add 7) fun y67 =>
 Ld .bool w59 (a7.add 8) fun y68 =>
 Ld .slice w59 (a7.add 9) fun y69 =>
 Ld .slice w59 (a7.add 10) fun y70 =>
 K y60 y61 y62 y63 y64 y65 y66 y67 y68 y69 y70 1 w59
 else
 Ld (.int .i64) w58 (a22.add 5) fun x71 =>
 Al w58 (.cells ⟨[(Value.int .i64 0), (Value.int .i64 0), (Value.int .i64 0), (Value.int .i64 0), (Value.int .i64 0), (Value.int .i64 0), (Value.int .i64 0), (Value.bool false), (Value.bool false), (Value.slice none 0 0), (Value.slice none 0 0)]⟩ 46) fun a73 w72 =>
 StN [(Value.int .i64 0), (Value.int .i64 0), (Value.int .i64 0), (Value.int .i64 64), (Value.int .i64 1), (Value.int .i64 a0), (Value.int .i64 x71), (Value.bool false), (Value.bool false), (Value.slice none 0 0), (Value.slice r56.a r56.len r56.cap)] w72 a73 0 fun w74 =>
 Ld (.int .i64) w74 (a73.add 0) fun x75 =>
 Ld (.int .i64) w74 (a73.add 1) fun x76 =>
 Ld (.int .i64) w74 (a73.add 2) fun x77 =>
 Ld (.int .i64) w74 (a73.add 3) fun x78 =>
 Ld (.int .i64) w74 (a73.add 4) fun x79 =>
 Ld (.int .i64) w74 (a73.add 5) fun x80 =>
 Ld (.int .i64) w74 (a73.add 6) fun x81 =>
 Ld .bool w74 (a73.add 7) fun x82 =>
 Ld .bool w74 (a73.add 8) fun x83 =>
 Ld .slice w74 (a73.add 9) fun x84 =>
 Ld .slice w74 (a73.add 10) fun x85 =>
 c_v4_Check x75 x76 x77 x78 x79 x80 x81 x82 x83 x84 x85 w74 fun r86 w87 =>
 (bif (r86 != 0) then
 StN [(Value.int .i64 0), (Value.int .i64 0), (Value.int .i64 0), (Value.int .i64 0), (Value.int .i64 0), (Value.int .i64 0), (Value.int .i64 0), (Value.bool false), (Value.bool false), (Value.slice none 0 0), (Value.slice none 0 0)] w87 a7 0 fun w88 =>
 Ld (.int .i64) w88 (a7.add 0) fun y89 =>
 Ld (.int .i64) w88 (a7.add 1) fun y90 =>
 Ld (.int .i64) w88 (a7.add 2) fun y91 =>
 Ld (.int .i64) w88 (a7.add 3) fun y92 =>
 Ld (.int .i64) w88 (a7.add 4) fun y93 =>
 Ld (.int .i64) w88 (a7.add 5) fun y94 =>
 Ld (.int .i64) w88 (a7.add 6) fun y95 =>
 Ld .bool w88 (a7.add 7) fun y96 =>
 Ld .bool w88 (a7.add 8) fun y97 =>
 Ld .slice w88 (a7.add 9) fun y98 =>
 Ld .slice w88 (a7.add 10) fun y99 =>
 K y89 y90 y91 y92 y93 y94 y95 y96 y97 y98 y99 1 w88
 else
 Ld (.int .i64) w87 (a73.add 0) fun x100 =>
 Ld (.int .i64) w87 (a73.add 1) fun x101 =>
 Ld (.int .i64) w87 (a73.add 2) fun x102 =>
 Ld (.int .i64) w87 (a73.add 3) fun x103 =>
 Ld (.int .i64) w87 (a73.add 4) fun x104 =>
 Ld (.int .i64) w87 (a73.add 5) fun x105 =>
 Ld (.int .i64) w87 (a73.add 6) fun x106 =>
 Ld .bool w87 (a73.add 7) fun x107 =>
 Ld .bool w87 (a73.add 8) fun x108 =>
 Ld .slice w87 (a73.add 9) fun x109 =>
 Ld .slice w87 (a73.add 10) fun x110 =>
 StN [(Value.int .i64 x100), (Value.int .i64 x101), (Value.int .i64 x102), (Value.int .i64 x103), (Value.int .i64 x104), (Value.int .i64 x105), (Value.int .i64 x106), (Value.bool x107), (Value.bool x108), (Value.slice x109.a x109.len x109.cap), (Value.slice x110.a x110.len x110.cap)] w87 a7 0 fun w111 =>
 Ld (.int .i64) w111 (a7.add 0) fun y112 =>
 Ld (.int .i64) w111 (a7.add 1) fun y113 =>
 Ld (.int .i64) w111 (a7.add 2) fun y114 =>
 Ld (.int .i64) w111 (a7.add 3) fun y115 =>
 Ld (.int .i64) w111 (a7.add 4) fun y116 =>
 Ld (.int .i64) w111 (a7.add 5) fun y117 =>
 Ld (.int .i64) w111 (a7.add 6) fun y118 =>
 Ld .bool w111 (a7.add 7) fun y119 =>
 Ld .bool w111 (a7.add 8) fun y120 =>
 Ld .slice w111 (a7.add 9) fun y121 =>
 Ld .slice w111 (a7.add 10) fun y122 =>
 K y112 y113 y114 y115 y116 y117 y118 y119 y120 y121 y122 0 w111))))
theorem e_errs_Make (a0 : Int) (a1 : Int) (a2 : Int) (a3 : Int) (a4 : SliceV) (w : World) (K : Int → Int → Int → Int → Int → Int → Int → Bool → Bool → SliceV → SliceV → Int → World → Prop) : den Try.prog 51 (bodyOf Try.f37) none (.seq .leaf (.seq .leaf (.seq (.seq .leaf (.cond (.seq .leaf .leaf) .leaf)) (.seq .leaf (.seq .leaf (.seq (.seq .leaf (.cond (.seq .leaf .leaf) .leaf)) (.seq .leaf (.seq (.seq .leaf (.cond (.seq .leaf .leaf) .leaf)) (.seq .leaf .leaf))))))))) (argEnv 0 [(Value.int .i64 a0), (Value.int .i64 a1), (Value.int .i64 a2), (Value.int .i64 a3), (Value.slice a4.a a4.len a4.cap)]) [] w (retK Try.prog [.cell 10 46, .tmp 11] [.agg [(.int .i64), (.int .i64), (.int .i64), (.int .i64), (.int .i64), (.int .i64), (.int .i64), .bool, .bool, .slice, .slice], .one (.int .i64)] K) = s_errs_Make a0 a1 a2 a3 a4 w K := by kernel_rfl
theorem ok_errs_Make {a0 a1 a2 a3 a4 w K} (h : s_errs_Make a0 a1 a2 a3 a4 w K) : c_errs_Make a0 a1 a2 a3 a4 w K :=
  fn_sound pok Try.func37 (fn := Try.f37) (c := bodyOf Try.f37) (nt := 51) (by kernel_rfl) (by kernel_rfl) (rs := [.cell 10 46, .tmp 11]) (by kernel_rfl) [.agg [(.int .i64), (.int .i64), (.int .i64), (.int .i64), (.int .i64), (.int .i64), (.int .i64), .bool, .bool, .slice, .slice], .one (.int .i64)] K (.seq .leaf (.seq .leaf (.seq (.seq .leaf (.cond (.seq .leaf .leaf) .leaf)) (.seq .leaf (.seq .leaf (.seq (.seq .leaf (.cond (.seq .leaf .leaf) .leaf)) (.seq .leaf (.seq (.seq .leaf (.cond (.seq .leaf .leaf) .leaf)) (.seq .leaf .leaf))))))))) [(Value.int .i64 a0), (Value.int .i64 a1), (Value.int .i64 a2), (Value.int .i64 a3), (Value.slice a4.a a4.len a4.cap)] (by kernel_rfl) w ((e_errs_Make a0 a1 a2 a3 a4 w K).mpr h)

/-- goosepond/goosepondref05.Check -/
def s_ref05_Check (a0_0 : Int) (a0_1 : Int) (a0_2 : Int) (a0_3 : Int) (a0_4 : Int) (a0_5 : Int) (a0_6 : Int) (a0_7 : Bool) (a0_8 : Bool) (a0_9 : SliceV) (a0_10 : SliceV) (w : World) (K : Int → World → Prop) : Prop :=
 (Al w (.cells ⟨[(Value.int .i64 a0_0), (Value.int .i64 a0_1), (Value.int .i64 a0_2), (Value.int .i64 a0_3), (Value.int .i64 a0_4), (Value.int .i64 a0_5), (Value.int .i64 a0_6), (Value.bool a0_7), (Value.bool a0_8), (Value.slice a0_9.a a0_9.len a0_9.cap), (Value.slice a0_10.a a0_10.len a0_10.cap)]⟩ 46) fun a3 w2 =>
 let J4 : Bool → World → Prop := fun j5 w6 =>
 (let J7 : Bool → World → Prop := fun j8 w9 =>
 (let J10 : Bool → Prop := fun j11 =>
 (let J12 : Bool → Prop := fun j13 =>
 ((bif j13 then
 K 1 w9
 else
 let J14 : Bool → World → Prop := fun j15 w16 =>
 ((bif j15 then
 K 6 w16
 else
 K 0 w16))
 Ld (.int .i64) w9 (a3.add 0) fun x17 =>
 Ld (.int .i64) w9 (a3.add 1) fun x18 =>
 Ld (.int .i64) w9 (a3.add 2) fun x19 =>
 Ld (.int .i64) w9 (a3.add 3) fun x20 =>
 Ld (.int .i64) w9 (a3.add 4) fun x21 =>
 Ld (.int .i64) w9 (a3.add 5) fun x22 =>
 Ld (.int .i64) w9 (a3.add 6) fun x23 =>
 Ld .bool w9 (a3.add 7) fun x24 =>
 Ld .bool w9 (a3.add 8) fun x25 =>
 Ld .slice w9 (a3.add 9) fun x26 =>
 Ld .slice w9 (a3.add 10) fun x27 =>
 c_ref05_Size x17 x18 x19 x20 x21 x22 x23 x24 x25 x26 x27 w9 fun r28 w29 =>
 (bif (decide (r28 > 65535)) then
 J14 true w29
 else
 Ld (.int .i64) w29 (a3.add 2) fun x30 =>
 Ld .slice w29 (a3.add 10) fun x31 =>
 J14 (decide (x30 > (IntKind.i64.wrap (65535 - (x31.len : Int))))) w29)))
 (bif (!j5) then
 J12 true
 else
 (bif (!j8) then
 J12 true
 else
 (bif (!j11) then
 J12 true
 else
 Ld .bool w9 (a3.add 8) fun x32 =>
 (bif x32 then
 Ld .slice w9 (a3.add 10) fun x33 =>
 (8 : Int) ≠ 0 ∧
 J12 ((Int.tmod (x33.len : Int) 8) != 0)
 else
 J12 false)))))
 Ld .slice w9 (a3.add 9) fun x34 =>
 (bif (decide ((x34.len : Int) ≤ 40)) then
 Ld .slice w9 (a3.add 9) fun x35 =>
 (4 : Int) ≠ 0 ∧
 J10 ((Int.tmod (x35.len : Int) 4) == 0)
 else
 J10 false))
 Ld (.int .i64) w6 (a3.add 5) fun x36 =>
 c_ref03_Right x36 w6 fun r37 w38 =>
 (bif r37 then
 Ld (.int .i64) w38 (a3.add 6) fun x39 =>
 c_ref03_Right x39 w38 fun r40 w41 =>
 (bif r40 then
 Ld (.int .i64) w41 (a3.add 2) fun x42 =>
 (bif (decide (x42 ≥ 0)) then
 Ld (.int .i64) w41 (a3.add 2) fun x43 =>
 (bif (decide (x43 ≤ 65528)) then
 Ld (.int .i64) w41 (a3.add 2) fun x44 =>
 (8 : Int) ≠ 0 ∧
 J7 ((Int.tmod x44 8) == 0) w41
 else
 J7 false w41)
 else
 J7 false w41)
 else
 J7 false w41)
 else
 J7 false w38))
 Ld (.int .i64) w2 a3 fun x45 =>
 c_ref01_Fits x45 1 w2 fun r46 w47 =>
 (bif r46 then
 Ld (.int .i64) w47 (a3.add 3) fun x48 =>
 c_ref01_Fits x48 1 w47 fun r49 w50 =>
 (bif r49 then
 Ld (.int .i64) w50 (a3.add 4) fun x51 =>
 c_ref01_Fits x51 1 w50 fun r52 w53 =>
 (bif r52 then
 Ld (.int .i64) w53 (a3.add 1) fun x54 =>
 c_ref01_Fits x54 2 w53 fun r55 w56 =>
 J4 r55 w56
 else
 J4 false w53)
 else
 J4 false w50)
 else
 J4 false w47))
theorem e_ref05_Check (a0_0 : Int) (a0_1 : Int) (a0_2 : Int) (a0_3 : Int) (a0_4 : Int) (a0_5 : Int) (a0_6 : Int) (a0_7 : Bool) (a0_8 : Bool) (a0_9 : SliceV) (a0_10 : SliceV) (w : World) (K : Int → World → Prop) : den Try.prog 92 (bodyOf Try.f38) none (.seq .leaf (.seq .leaf (.seq .leaf (.seq .leaf (.seq (.seq .leaf (.cond (.seq .leaf .leaf) .leaf)) (.seq (.seq .leaf (.cond (.seq .leaf .leaf) .leaf)) (.seq .leaf .leaf))))))) (argEnv 0 [(Value.agg ⟨[(Value.int .i64 a0_0), (Value.int .i64 a0_1), (Value.int .i64 a0_2), (Value.int .i64 a0_3), (Value.int .i64 a0_4), (Value.int .i64 a0_5), (Value.int .i64 a0_6), (Value.bool a0_7), (Value.bool a0_8), (Value.slice a0_9.a a0_9.len a0_9.cap), (Value.slice a0_10.a a0_10.len a0_10.cap)]⟩)]) [] w (retK Try.prog [.tmp 2] [.one (.int .i64)] K) = s_ref05_Check a0_0 a0_1 a0_2 a0_3 a0_4 a0_5 a0_6 a0_7 a0_8 a0_9 a0_10 w K := by kernel_rfl
theorem ok_ref05_Check {a0_0 a0_1 a0_2 a0_3 a0_4 a0_5 a0_6 a0_7 a0_8 a0_9 a0_10 w K} (h : s_ref05_Check a0_0 a0_1 a0_2 a0_3 a0_4 a0_5 a0_6 a0_7 a0_8 a0_9 a0_10 w K) : c_ref05_Check a0_0 a0_1 a0_2 a0_3 a0_4 a0_5 a0_6 a0_7 a0_8 a0_9 a0_10 w K :=
  fn_sound pok Try.func38 (fn := Try.f38) (c := bodyOf Try.f38) (nt := 92) (by kernel_rfl) (by kernel_rfl) (rs := [.tmp 2]) (by kernel_rfl) [.one (.int .i64)] K (.seq .leaf (.seq .leaf (.seq .leaf (.seq .leaf (.seq (.seq .leaf (.cond (.seq .leaf .leaf) .leaf)) (.seq (.seq .leaf (.cond (.seq .leaf .leaf) .leaf)) (.seq .leaf .leaf))))))) [(Value.agg ⟨[(Value.int .i64 a0_0), (Value.int .i64 a0_1), (Value.int .i64 a0_2), (Value.int .i64 a0_3), (Value.int .i64 a0_4), (Value.int .i64 a0_5), (Value.int .i64 a0_6), (Value.bool a0_7), (Value.bool a0_8), (Value.slice a0_9.a a0_9.len a0_9.cap), (Value.slice a0_10.a a0_10.len a0_10.cap)]⟩)] (by kernel_rfl) w ((e_ref05_Check a0_0 a0_1 a0_2 a0_3 a0_4 a0_5 a0_6 a0_7 a0_8 a0_9 a0_10 w K).mpr h)

/-- goosepond/goosepondref02.Of -/
def s_ref02_Of (a0 : SliceV) (w : World) (K : Int → World → Prop) : Prop :=
 (c_ref02_Add a0 w fun r2 w3 =>
 K (IntKind.i64.wrap (65535 - r2)) w3)
theorem e_ref02_Of (a0 : SliceV) (w : World) (K : Int → World → Prop) : den Try.prog 6 (bodyOf Try.f39) none (.seq .leaf (.seq .leaf .leaf)) (argEnv 0 [(Value.slice a0.a a0.len a0.cap)]) [] w (retK Try.prog [.tmp 2] [.one (.int .i64)] K) = s_ref02_Of a0 w K := by kernel_rfl
theorem ok_ref02_Of {a0 w K} (h : s_ref02_Of a0 w K) : c_ref02_Of a0 w K :=
  fn_sound pok Try.func39 (fn := Try.f39) (c := bodyOf Try.f39) (nt := 6) (by kernel_rfl) (by kernel_rfl) (rs := [.tmp 2]) (by kernel_rfl) [.one (.int .i64)] K (.seq .leaf (.seq .leaf .leaf)) [(Value.slice a0.a a0.len a0.cap)] (by kernel_rfl) w ((e_ref02_Of a0 w K).mpr h)

/-- goosepond/goosepondref05.head -/
def s_ref05_head (a0_0 : Int) (a0_1 : Int) (a0_2 : Int) (a0_3 : Int) (a0_4 : Int) (a0_5 : Int) (a0_6 : Int) (a0_7 : Bool) (a0_8 : Bool) (a0_9 : SliceV) (a0_10 : SliceV) (a1 : Int) (a2 : Int) (w : World) (K : SliceV → World → Prop) : Prop :=
 (Al w (.cells ⟨[(Value.int .i64 a0_0), (Value.int .i64 a0_1), (Value.int .i64 a0_2), (Value.int .i64 a0_3), (Value.int .i64 a0_4), (Value.int .i64 a0_5), (Value.int .i64 a0_6), (Value.bool a0_7), (Value.bool a0_8), (Value.slice a0_9.a a0_9.len a0_9.cap), (Value.slice a0_10.a a0_10.len a0_10.cap)]⟩ 46) fun a5 w4 =>
 Ld (.int .i64) w4 (a5.add 2) fun x6 =>
 (8 : Int) ≠ 0 ∧
 let J7 : Int → Prop := fun j8 =>
 (let J9 : Int → Prop := fun j10 =>
 (Ld (.int .i64) w4.drew (a5.add 0) fun x11 =>
 Ld (.int .i64) w4.drew (a5.add 1) fun x12 =>
 Ld (.int .i64) w4.drew (a5.add 2) fun x13 =>
 Ld (.int .i64) w4.drew (a5.add 3) fun x14 =>
 Ld (.int .i64) w4.drew (a5.add 4) fun x15 =>
 Ld (.int .i64) w4.drew (a5.add 5) fun x16 =>
 Ld (.int .i64) w4.drew (a5.add 6) fun x17 =>
 Ld .bool w4.drew (a5.add 7) fun x18 =>
 Ld .bool w4.drew (a5.add 8) fun x19 =>
 Ld .slice w4.drew (a5.add 9) fun x20 =>
 Ld .slice w4.drew (a5.add 10) fun x21 =>
 Ld (.int .i64) w4.drew a5 fun x22 =>
 c_ref05_Head x11 x12 x13 x14 x15 x16 x17 x18 x19 x20 x21 w4.drew fun r23 w24 =>
 w24.cell? a5 = some (Value.int .i64 x22) ∧
 (4 : Int) ≠ 0 ∧
 Al w24 (.cells ⟨[(Value.int .u8 (IntKind.u8.wrap (IntKind.i64.wrap (64 + (IntKind.i64.wrap (Int.tdiv r23 4)))))), (Value.int .u8 (IntKind.u8.wrap x22))]⟩ 5) fun a26 w25 =>
 Ld (.int .i64) w25.drew (a5.add 1) fun x27 =>
 c_ref01_Put ⟨(some a26), 2, 2⟩ a1 2 w25.drew fun r28 w29 =>
 w29.cell? (a5.add 1) = some (Value.int .i64 x27) ∧
 c_ref01_Put r28 x27 2 w29 fun r30 w31 =>
 c_ref01_Put r30 j10 2 w31 fun r32 w33 =>
 Ld (.int .i64) w33 (a5.add 3) fun x34 =>
 Ld (.int .i64) w33 (a5.add 4) fun x35 =>
 Al w33 (.cells ⟨[(Value.int .u8 (IntKind.u8.wrap x34)), (Value.int .u8 (IntKind.u8.wrap x35))]⟩ 5) fun a37 w36 =>
 AppSl 5 1 1 [(Value.int .u8 0)] r32 ⟨(some a37), 2, 2⟩ w36 fun s38 w39 =>
 c_ref01_Put s38 a2 2 w39 fun r40 w41 =>
 Ld (.int .i64) w41.drew (a5.add 5) fun x42 =>
 Ld (.int .i64) w41.drew (a5.add 6) fun x43 =>
 c_ref01_Put r40 x42 4 w41.drew fun r44 w45 =>
 w45.cell? (a5.add 6) = some (Value.int .i64 x43) ∧
 c_ref01_Put r44 x43 4 w45 fun r46 w47 =>
 Ld .slice w47 (a5.add 9) fun x48 =>
 AppSl 5 1 1 [(Value.int .u8 0)] r46 x48 w47 fun s49 w50 =>
 K s49 w50)
 Ld .bool w4 (a5.add 8) fun x51 =>
 (bif x51 then
 J9 (IntKind.i64.wrap (j8 + 8192))
 else
 J9 j8))
 Ld .bool w4 (a5.add 7) fun x52 =>
 (bif x52 then
 J7 (IntKind.i64.wrap ((IntKind.i64.wrap (Int.tdiv x6 8)) + 16384))
 else
 J7 (IntKind.i64.wrap (Int.tdiv x6 8))))
theorem e_ref05_head (a0_0 : Int) (a0_1 : Int) (a0_2 : Int) (a0_3 : Int) (a0_4 : Int) (a0_5 : Int) (a0_6 : Int) (a0_7 : Bool) (a0_8 : Bool) (a0_9 : SliceV) (a0_10 : SliceV) (a1 : Int) (a2 : Int) (w : World) (K : SliceV → World → Prop) : den Try.prog 59 (bodyOf Try.f40) none (.seq .leaf (.seq .leaf (.seq (.seq .leaf (.cond .leaf .leaf)) (.seq (.seq .leaf (.cond .leaf .leaf)) (.seq .leaf (.seq .leaf (.seq .leaf (.seq .leaf (.seq .leaf .leaf))))))))) (argEnv 0 [(Value.agg ⟨[(Value.int .i64 a0_0), (Value.int .i64 a0_1), (Value.int .i64 a0_2), (Value.int .i64 a0_3), (Value.int .i64 a0_4), (Value.int .i64 a0_5), (Value.int .i64 a0_6), (Value.bool a0_7), (Value.bool a0_8), (Value.slice a0_9.a a0_9.len a0_9.cap), (Value.slice a0_10.a a0_10.len a0_10.cap)]⟩), (Value.int .i64 a1), (Value.int .i64 a2)]) [] w (retK Try.prog [.tmp 6] [.one .slice] K) = s_ref05_head a0_0 a0_1 a0_2 a0_3 a0_4 a0_5 a0_6 a0_7 a0_8 a0_9 a0_10 a1 a2 w K := by kernel_rfl
theorem ok_ref05_head {a0_0 a0_1 a0_2 a0_3 a0_4 a0_5 a0_6 a0_7 a0_8 a0_9 a0_10 a1 a2 w K} (h : s_ref05_head a0_0 a0_1 a0_2 a0_3 a0_4 a0_5 a0_6 a0_7 a0_8 a0_9 a0_10 a1 a2 w K) : c_ref05_head a0_0 a0_1 a0_2 a0_3 a0_4 a0_5 a0_6 a0_7 a0_8 a0_9 a0_10 a1 a2 w K :=
  fn_sound pok Try.func40 (fn := Try.f40) (c := bodyOf Try.f40) (nt := 59) (by kernel_rfl) (by kernel_rfl) (rs := [.tmp 6]) (by kernel_rfl) [.one .slice] K (.seq .leaf (.seq .leaf (.seq (.seq .leaf (.cond .leaf .leaf)) (.seq (.seq .leaf (.cond .leaf .leaf)) (.seq .leaf (.seq .leaf (.seq .leaf (.seq .leaf (.seq .leaf .leaf))))))))) [(Value.agg ⟨[(Value.int .i64 a0_0), (Value.int .i64 a0_1), (Value.int .i64 a0_2), (Value.int .i64 a0_3), (Value.int .i64 a0_4), (Value.int .i64 a0_5), (Value.int .i64 a0_6), (Value.bool a0_7), (Value.bool a0_8), (Value.slice a0_9.a a0_9.len a0_9.cap), (Value.slice a0_10.a a0_10.len a0_10.cap)]⟩), (Value.int .i64 a1), (Value.int .i64 a2)] (by kernel_rfl) w ((e_ref05_head a0_0 a0_1 a0_2 a0_3 a0_4 a0_5 a0_6 a0_7 a0_8 a0_9 a0_10 a1 a2 w K).mpr h)

/-- goosepond/goosepondref05.Size -/
def s_ref05_Size (a0_0 : Int) (a0_1 : Int) (a0_2 : Int) (a0_3 : Int) (a0_4 : Int) (a0_5 : Int) (a0_6 : Int) (a0_7 : Bool) (a0_8 : Bool) (a0_9 : SliceV) (a0_10 : SliceV) (w : World) (K : Int → World → Prop) : Prop :=
 (Al w (.cells ⟨[(Value.int .i64 a0_0), (Value.int .i64 a0_1), (Value.int .i64 a0_2), (Value.int .i64 a0_3), (Value.int .i64 a0_4), (Value.int .i64 a0_5), (Value.int .i64 a0_6), (Value.bool a0_7), (Value.bool a0_8), (Value.slice a0_9.a a0_9.len a0_9.cap), (Value.slice a0_10.a a0_10.len a0_10.cap)]⟩ 46) fun a3 w2 =>
 Ld (.int .i64) w2.drew (a3.add 0) fun x4 =>
 Ld (.int .i64) w2.drew (a3.add 1) fun x5 =>
 Ld (.int .i64) w2.drew (a3.add 2) fun x6 =>
 Ld (.int .i64) w2.drew (a3.add 3) fun x7 =>
 Ld (.int .i64) w2.drew (a3.add 4) fun x8 =>
 Ld (.int .i64) w2.drew (a3.add 5) fun x9 =>
 Ld (.int .i64) w2.drew (a3.add 6) fun x10 =>
 Ld .bool w2.drew (a3.add 7) fun x11 =>
 Ld .bool w2.drew (a3.add 8) fun x12 =>
 Ld .slice w2.drew (a3.add 9) fun x13 =>
 Ld .slice w2.drew (a3.add 10) fun x14 =>
 Ld .slice w2.drew (a3.add 10) fun x15 =>
 c_ref05_Head x4 x5 x6 x7 x8 x9 x10 x11 x12 x13 x14 w2.drew fun r16 w17 =>
 w17.cell? (a3.add 10) = some (Value.slice x15.a x15.len x15.cap) ∧
 K (IntKind.i64.wrap (r16 + (x15.len : Int))) w17)
theorem e_ref05_Size (a0_0 : Int) (a0_1 : Int) (a0_2 : Int) (a0_3 : Int) (a0_4 : Int) (a0_5 : Int) (a0_6 : Int) (a0_7 : Bool) (a0_8 : Bool) (a0_9 : SliceV) (a0_10 : SliceV) (w : World) (K : Int → World → Prop) : den Try.prog 9 (bodyOf Try.f41) none (.seq .leaf (.seq .leaf .leaf)) (argEnv 0 [(Value.agg ⟨[(Value.int .i64 a0_0), (Value.int .i64 a0_1), (Value.int .i64 a0_2), (Value.int .i64 a0_3), (Value.int .i64 a0_4), (Value.int .i64 a0_5), (Value.int .i64 a0_6), (Value.bool a0_7), (Value.bool a0_8), (Value.slice a0_9.a a0_9.len a0_9.cap), (Value.slice a0_10.a a0_10.len a0_10.cap)]⟩)]) [] w (retK Try.prog [.tmp 2] [.one (.int .i64)] K) = s_ref05_Size a0_0 a0_1 a0_2 a0_3 a0_4 a0_5 a0_6 a0_7 a0_8 a0_9 a0_10 w K := by kernel_rfl
theorem ok_ref05_Size {a0_0 a0_1 a0_2 a0_3 a0_4 a0_5 a0_6 a0_7 a0_8 a0_9 a0_10 w K} (h : s_ref05_Size a0_0 a0_1 a0_2 a0_3 a0_4 a0_5 a0_6 a0_7 a0_8 a0_9 a0_10 w K) : c_ref05_Size a0_0 a0_1 a0_2 a0_3 a0_4 a0_5 a0_6 a0_7 a0_8 a0_9 a0_10 w K :=
  fn_sound pok Try.func41 (fn := Try.f41) (c := bodyOf Try.f41) (nt := 9) (by kernel_rfl) (by kernel_rfl) (rs := [.tmp 2]) (by kernel_rfl) [.one (.int .i64)] K (.seq .leaf (.seq .leaf .leaf)) [(Value.agg ⟨[(Value.int .i64 a0_0), (Value.int .i64 a0_1), (Value.int .i64 a0_2), (Value.int .i64 a0_3), (Value.int .i64 a0_4), (Value.int .i64 a0_5), (Value.int .i64 a0_6), (Value.bool a0_7), (Value.bool a0_8), (Value.slice a0_9.a a0_9.len a0_9.cap), (Value.slice a0_10.a a0_10.len a0_10.cap)]⟩)] (by kernel_rfl) w ((e_ref05_Size a0_0 a0_1 a0_2 a0_3 a0_4 a0_5 a0_6 a0_7 a0_8 a0_9 a0_10 w K).mpr h)

/-- goosepond/goosepondref05.Quoted -/
def s_ref05_Quoted (a0 : SliceV) (w : World) (K : Int → Int → Int → Int → Int → Int → Int → Bool → Bool → SliceV → SliceV → Int → World → Prop) : Prop :=
 (Al w (.cells ⟨[(Value.int .i64 0), (Value.int .i64 0), (Value.int .i64 0), (Value.int .i64 0), (Value.int .i64 0), (Value.int .i64 0), (Value.int .i64 0), (Value.bool false), (Value.bool false), (Value.slice none 0 0), (Value.slice none 0 0)]⟩ 46) fun a3 w2 =>
 c_ref05_read a0 true w2 fun r4 r5 r6 r7 r8 r9 r10 r11 r12 r13 r14 r15 w16 =>
 StN [(Value.int .i64 r4), (Value.int .i64 r5), (Value.int .i64 r6), (Value.int .i64 r7), (Value.int .i64 r8), (Value.int .i64 r9), (Value.int .i64 r10), (Value.bool r11), (Value.bool r12), (Value.slice r13.a r13.len r13.cap), (Value.slice r14.a r14.len r14.cap)] w16 a3 0 fun w17 =>
 Ld (.int .i64) w17 (a3.add 0) fun y18 =>
 Ld (.int .i64) w17 (a3.add 1) fun y19 =>
 Ld (.int .i64) w17 (a3.add 2) fun y20 =>
 Ld (.int .i64) w17 (a3.add 3) fun y21 =>
 Ld (.int .i64) w17 (a3.add 4) fun y22 =>
 Ld (.int .i64) w17 (a3.add 5) fun y23 =>
 Ld (.int .i64) w17 (a3.add 6) fun y24 =>
 Ld .bool w17 (a3.add 7) fun y25 =>
 Ld .bool w17 (a3.add 8) fun y26 =>
 Ld .slice w17 (a3.add 9) fun y27 =>
 Ld .slice w17 (a3.add 10) fun y28 =>
 K y18 y19 y20 y21 y22 y23 y24 y25 y26 y27 y28 r15 w17)
theorem e_ref05_Quoted (a0 : SliceV) (w : World) (K : Int → Int → Int → Int → Int → Int → Int → Bool → Bool → SliceV → SliceV → Int → World → Prop) : den Try.prog 8 (bodyOf Try.f44) none (.seq .leaf (.seq .leaf .leaf)) (argEnv 0 [(Value.slice a0.a a0.len a0.cap)]) [] w (retK Try.prog [.cell 2 46, .tmp 3] [.agg [(.int .i64), (.int .i64), (.int .i64), (.int .i64), (.int .i64), (.int .i64), (.int .i64), .bool, .bool, .slice, .slice], .one (.int .i64)] K) = s_ref05_Quoted a0 w K := by kernel_rfl
theorem ok_ref05_Quoted {a0 w K} (h : s_ref05_Quoted a0 w K) : c_ref05_Quoted a0 w K :=
  fn_sound pok Try.func44 (fn := Try.f44) (c := bodyOf Try.f44) (nt := 8) (by kernel_rfl) (by kernel_rfl) (rs := [.cell 2 46, .tmp 3]) (by kernel_rfl) [.agg [(.int .i64), (.int .i64), (.int .i64), (.int .i64), (.int .i64), (.int .i64), (.int .i64), .bool, .bool, .slice, .slice], .one (.int .i64)] K (.seq .leaf (.seq .leaf .leaf)) [(Value.slice a0.a a0.len a0.cap)] (by kernel_rfl) w ((e_ref05_Quoted a0 w K).mpr h)

/-- goosepond/goosepondref28.Make -/
def s_ref28_Make (a0 : Int) (a1 : Int) (a2 : Int) (a3 : Int) (a4 : SliceV) (w : World) (K : Int → Int → Int → Int → Int → Int → Int → Bool → Bool → SliceV → SliceV → Int → World → Prop) : Prop :=
 (Al w (.cells ⟨[(Value.int .i64 0), (Value.int .i64 0), (Value.int .i64 0), (Value.int .i64 0), (Value.int .i64 0), (Value.int .i64 0), (Value.int .i64 0), (Value.bool false), (Value.bool false), (Value.slice none 0 0), (Value.slice none 0 0)]⟩ 46) fun a7 w6 =>
 c_ref28_May a4 w6 fun r8 w9 =>
 (bif (!r8) then
 StN [(Value.int .i64 0), (Value.int .i64 0), (Value.int .i64 0), (Value.int .i64 0), (Value.int .i64 0), (Value.int .i64 0), (Value.int .i64 0), (Value.bool false), (Value.bool false), (Value.slice none 0 0), (Value.slice none 0 0)] w9 a7 0 fun w10 =>
 Ld (.int .i64) w10 (a7.add 0) fun y11 =>
 Ld (.int .i64) w10 (a7.add 1) fun y12 =>
 Ld (.int .i64) w10 (a7.add 2) fun y13 =>
 Ld (.int .i64) w10 (a7.add 3) fun y14 =>
 Ld (.int .i64) w10 (a7.add 4) fun y15 =>
 Ld (.int .i64) w10 (a7.add 5) fun y16 =>
 Ld (.int .i64) w10 (a7.add 6) fun y17 =>
 Ld .bool w10 (a7.add 7) fun y18 =>
 Ld .bool w10 (a7.add 8) fun y19 =>
 Ld .slice w10 (a7.add 9) fun y20 =>
 Ld .slice w10 (a7.add 10) fun y21 =>
 K y11 y12 y13 y14 y15 y16 y17 y18 y19 y20 y21 11 w10
 else
 c_ref05_Quoted a4 w9 fun r22 r23 r24 r25 r26 r27 r28 r29 r30 r31 r32 r33 w34 =>
 Al w34 (.cells ⟨[(Value.int .i64 0), (Value.int .i64 0), (Value.int .i64 0), (Value.int .i64 0), (Value.int .i64 0), (Value.int .i64 0), (Value.int .i64 0), (Value.bool false), (Value.bool false), (Value.slice none 0 0), (Value.slice none 0 0)]⟩ 46) fun a36 w35 =>
 StN [(Value.int .i64 r22), (Value.int .i64 r23), (Value.int .i64 r24), (Value.int .i64 r25), (Value.int .i64 r26), (Value.int .i64 r27), (Value.int .i64 r28), (Value.bool r29), (Value.bool r30), (Value.slice r31.a r31.len r31.cap), (Value.slice r32.a r32.len r32.cap)] w35 a36 0 fun w37 =>
 Ld (.int .i64) w37 (a36.add 0) fun x38 =>
 Ld (.int .i64) w37 (a36.add 1) fun x39 =>
 Ld (.int .i64) w37 (a36.add 2) fun x40 =>
 Ld (.int .i64) w37 (a36.add 3) fun x41 =>
 Ld (.int .i64) w37 (a36.add 4) fun x42 =>
 Ld (.int .i64) w37 (a36.add 5) fun x43 =>
 Ld (.int .i64) w37 (a36.add 6) fun x44 =>
 Ld .bool w37 (a36.add 7) fun x45 =>
 Ld .bool w37 (a36.add 8) fun x46 =>
 Ld .slice w37 (a36.add 9) fun x47 =>
 Ld .slice w37 (a36.add 10) fun x48 =>
 c_ref05_Size x38 x39 x40 x41 x42 x43 x44 x45 x46 x47 x48 w37 fun r49 w50 =>
 SubSl a4 1 0 (if (548 : Int) < r49 then 548 else r49) fun s51 =>
 c_ref09_Build a1 a2 a3 s51 w50 fun r52 r53 w54 =>
 (bif (r53 != 0) then
 StN [(Value.int .i64 0), (Value.int .i64 0), (Value.int .i64 0), (Value.int .i64 0), (Value.int .i64 0), (Value.int .i64 0), (Value.int .i64 0), (Value.bool false), (Value.bool false), (Value.slice none 0 0), (Value.slice none 0 0)] w54 a7 0 fun w55 =>
 Ld (.int .i64) w55 (a7.add 0) fun y56 =>
 Ld (.int .i64) w55 (a7.add 1) fun y57 =>
 Ld (.int .i64) w55 (a7.add 2) fun y58 =>
 Ld (.int .i64) w55 (a7.add 3) fun y59 =>
 Ld (.int .i64) w55 (a7.add 4) fun y60 =>
 Ld (.int .i64) w55 (a7.add 5) fun y61 =>
 Ld (.int .i64) w55 (a7.add 6) fun y62 =>
 Ld .bool w55 (a7.add 7) fun y63 =>
 Ld .bool w55 (a7.add 8) fun y64 =>
 Ld .slice w55 (a7.add 9) fun y65 =>
 Ld .slice w55 (a7.add 10) fun y66 =>
 K y56 y57 y58 y59 y60 y61 y62 y63 y64 y65 y66 1 w55
 else
 Ld (.int .i64) w54 (a36.add 5) fun x67 =>
 Al w54 (.cells ⟨[(Value.int .i64 0), (Value.int .i64 0), (Value.int .i64 0), (Value.int .i64 0), (Value.int .i64 0), (Value.int .i64 0), (Value.int .i64 0), (Value.bool false), (Value.bool false), (Value.slice none 0 0), (Value.slice none 0 0)]⟩ 46) fun a69 w68 =>
 StN [(Value.int .i64 0), (Value.int .i64 0), (Value.int .i64 0), (Value.int .i64 64), (Value.int .i64 1), (Value.int .i64 a0), (Value.int .i64 x67), (Value.bool false), (Value.bool false), (Value.slice none 0 0), (Value.slice r52.a r52.len r52.cap)] w68 a69 0 fun w70 =>
 Ld (.int .i64) w70 (a69.add 0) fun x71 =>
 Ld (.int .i64) w70 (a69.add 1) fun x72 =>
 Ld (.int .i64) w70 (a69.add 2) fun x73 =>
 Ld (.int .i64) w70 (a69.add 3) fun x74 =>
 Ld (.int .i64) w70 (a69.add 4) fun x75 =>
 Ld (.int .i64) w70 (a69.add 5) fun x76 =>
 Ld (.int .i64) w70 (a69.add 6) fun x77 =>
 Ld .bool w70 (a69.add 7) fun x78 =>
 Ld .bool w70 (a69.add 8) fun x79 =>
 Ld .slice w70 (a69.add 9) fun x80 =>
 Ld .slice w70 (a69.add 10) fun x81 =>
 c_ref05_Check x71 x72 x73 x74 x75 x76 x77 x78 x79 x80 x81 w70 fun r82 w83 =>
 (bif (r82 != 0) then
 StN [(Value.int .i64 0), (Value.int .i64 0), (Value.int .i64 0), (Value.int .i64 0), (Value.int .i64 0), (Value.int .i64 0), (Value.int .i64 0), (Value.bool false), (Value.bool false), (Value.slice none 0 0), (Value.slice none 0 0)] w83 a7 0 fun w84 =>
 Ld (.int .i64) w84 (a7.add 0) fun y85 =>
 Ld (.int .i64) w84 (a7.add 1) fun y86 =>
 Ld (.int .i64) w84 (a7.add 2) fun y87 =>
 Ld (.int .i64) w84 (a7.add 3) fun y88 =>
 Ld (.int .i64) w84 (a7.add 4) fun y89 =>
 Ld (.int .i64) w84 (a7.add 5) fun y90 =>
 Ld (.int .i64) w84 (a7.add 6) fun y91 =>
 Ld .bool w84 (a7.add 7) fun y92 =>
 Ld .bool w84 (a7.add 8) fun y93 =>
 Ld .slice w84 (a7.add 9) fun y94 =>
 Ld .slice w84 (a7.add 10) fun y95 =>
 K y85 y86 y87 y88 y89 y90 y91 y92 y93 y94 y95 1 w84
 else
 Ld (.int .i64) w83 (a69.add 0) fun x96 =>
 Ld (.int .i64) w83 (a69.add 1) fun x97 =>
 Ld (.int .i64) w83 (a69.add 2) fun x98 =>
 Ld (.int .i64) w83 (a69.add 3) fun x99 =>
 Ld (.int .i64) w83 (a69.add 4) fun x100 =>
 Ld (.int .i64) w83 (a69.add 5) fun x101 =>
 Ld (.int .i64) w83 (a69.add 6) fun x102 =>
 Ld .bool w83 (a69.add 7) fun x103 =>
 Ld .bool w83 (a69.add 8) fun x104 =>
 Ld .slice w83 (a69.add 9) fun x105 =>
 Ld .slice w83 (a69.add 10) fun x106 =>
 StN [(Value.int .i64 x96), (Value.int .i64 x97), (Value.int .i64 x98), (Value.int .i64 x99), (Value.int .i64 x100), (Value.int .i64 x101), (Value.int .i64 x102), (Value.bool x103), (Value.bool x104), (Value.slice x105.a x105.len x105.cap), (Value.slice x106.a x106.len x106.cap)] w83 a7 0 fun w107 =>
 Ld (.int .i64) w107 (a7.add 0) fun y108 =>
 Ld (.int .i64) w107 (a7.add 1) fun y109 =>
 Ld (.int .i64) w107 (a7.add 2) fun y110 =>
 Ld (.int .i64) w107 (a7.add 3) fun y111 =>
 Ld (.int .i64) w107 (a7.add 4) fun y112 =>
 Ld (.int .i64) w107 (a7.add 5) fun y113 =>
 Ld (.int .i64) w107 (a7.add 6) fun y114 =>
 Ld .bool w107 (a7.add 7) fun y115 =>
 Ld .bool w107 (a7.add 8) fun y116 =>
 Ld .slice w107 (a7.add 9) fun y117 =>
 Ld .slice w107 (a7.add 10) fun y118 =>
 K y108 y109 y110 y111 y112 y113 y114 y115 y116 y117 y118 0 w107))))
theorem e_ref28_Make (a0 : Int) (a1 : Int) (a2 : Int) (a3 : Int) (a4 : SliceV) (w : World) (K : Int → Int → Int → Int → Int → Int → Int → Bool → Bool → SliceV → SliceV → Int → World → Prop) : den Try.prog 54 (bodyOf Try.f45) none (.seq .leaf (.seq (.seq .leaf (.cond (.seq .leaf .leaf) .leaf)) (.seq .leaf (.seq .leaf (.seq .leaf (.seq (.seq .leaf (.cond (.seq .leaf .leaf) .leaf)) (.seq .leaf (.seq (.seq .leaf (.cond (.seq .leaf .leaf) .leaf)) (.seq .leaf .leaf))))))))) (argEnv 0 [(Value.int .i64 a0), (Value.int .i64 a1), (Value.int .i64 a2), (Value.int .i64 a3), (Value.slice a4.a a4.len a4.cap)]) [] w (retK Try.prog [.cell 10 46, .tmp 11] [.agg [(.int .i64), (.int .i64), (.int .i64), (.int .i64), (.int .i64), (.int .i64), (.int .i64), .bool, .bool, .slice, .slice], .one (.int .i64)] K) = s_ref28_Make a0 a1 a2 a3 a4 w K := by kernel_rfl
theorem ok_ref28_Make {a0 a1 a2 a3 a4 w K} (h : s_ref28_Make a0 a1 a2 a3 a4 w K) : c_ref28_Make a0 a1 a2 a3 a4 w K :=
  fn_sound pok Try.func45 (fn := Try.f45) (c := bodyOf Try.f45) (nt := 54) (by kernel_rfl) (by kernel_rfl) (rs := [.cell 10 46, .tmp 11]) (by kernel_rfl) [.agg [(.int .i64), (.int .i64), (.int .i64), (.int .i64), (.int .i64), (.int .i64), (.int .i64), .bool, .bool, .slice, .slice], .one (.int .i64)] K (.seq .leaf (.seq (.seq .leaf (.cond (.seq .leaf .leaf) .leaf)) (.seq .leaf (.seq .leaf (.seq .leaf (.seq (.seq .leaf (.cond (.seq .leaf .leaf) .leaf)) (.seq .leaf (.seq (.seq .leaf (.cond (.seq .leaf .leaf) .leaf)) (.seq .leaf .leaf))))))))) [(Value.int .i64 a0), (Value.int .i64 a1), (Value.int .i64 a2), (Value.int .i64 a3), (Value.slice a4.a a4.len a4.cap)] (by kernel_rfl) w ((e_ref28_Make a0 a1 a2 a3 a4 w K).mpr h)

/-- goosepond/goosepondref07.Check -/
def s_ref07_Check (a0_0 : Int) (a0_1 : Int) (a0_2 : Bool) (a0_3 : SliceV) (w : World) (K : Int → World → Prop) : Prop :=
 (Al w (.cells ⟨[(Value.int .i64 a0_0), (Value.int .i64 a0_1), (Value.bool a0_2), (Value.slice a0_3.a a0_3.len a0_3.cap)]⟩ 76) fun a3 w2 =>
 let J4 : Bool → World → Prop := fun j5 w6 =>
 ((bif j5 then
 K 1 w6
 else
 Ld .slice w6 (a3.add 3) fun x7 =>
 (bif (decide ((x7.len : Int) > 65527)) then
 K 6 w6
 else
 K 0 w6)))
 Ld (.int .i64) w2 a3 fun x8 =>
 c_ref01_Fits x8 2 w2 fun r9 w10 =>
 (bif (!r9) then
 J4 true w10
 else
 Ld (.int .i64) w10 (a3.add 1) fun x11 =>
 c_ref01_Fits x11 2 w10 fun r12 w13 =>
 J4 (!r12) w13))
theorem e_ref07_Check (a0_0 : Int) (a0_1 : Int) (a0_2 : Bool) (a0_3 : SliceV) (w : World) (K : Int → World → Prop) : den Try.prog 17 (bodyOf Try.f52) none (.seq .leaf (.seq (.seq .leaf (.cond (.seq .leaf .leaf) .leaf)) (.seq (.seq .leaf (.cond (.seq .leaf .leaf) .leaf)) (.seq .leaf .leaf)))) (argEnv 0 [(Value.agg ⟨[(Value.int .i64 a0_0), (Value.int .i64 a0_1), (Value.bool a0_2), (Value.slice a0_3.a a0_3.len a0_3.cap)]⟩)]) [] w (retK Try.prog [.tmp 2] [.one (.int .i64)] K) = s_ref07_Check a0_0 a0_1 a0_2 a0_3 w K := by kernel_rfl
theorem ok_ref07_Check {a0_0 a0_1 a0_2 a0_3 w K} (h : s_ref07_Check a0_0 a0_1 a0_2 a0_3 w K) : c_ref07_Check a0_0 a0_1 a0_2 a0_3 w K :=
  fn_sound pok Try.func52 (fn := Try.f52) (c := bodyOf Try.f52) (nt := 17) (by kernel_rfl) (by kernel_rfl) (rs := [.tmp 2]) (by kernel_rfl) [.one (.int .i64)] K (.seq .leaf (.seq (.seq .leaf (.cond (.seq .leaf .leaf) .leaf)) (.seq (.seq .leaf (.cond (.seq .leaf .leaf) .leaf)) (.seq .leaf .leaf)))) [(Value.agg ⟨[(Value.int .i64 a0_0), (Value.int .i64 a0_1), (Value.bool a0_2), (Value.slice a0_3.a a0_3.len a0_3.cap)]⟩)] (by kernel_rfl) w ((e_ref07_Check a0_0 a0_1 a0_2 a0_3 w K).mpr h)

/-- goosepond/goosepondref07.bytes -/
def s_ref07_bytes (a0_0 : Int) (a0_1 : Int) (a0_2 : Bool) (a0_3 : SliceV) (a1 : Int) (w : World) (K : SliceV → World → Prop) : Prop :=
 (Al w (.cells ⟨[(Value.int .i64 a0_0), (Value.int .i64 a0_1), (Value.bool a0_2), (Value.slice a0_3.a a0_3.len a0_3.cap)]⟩ 76) fun a4 w3 =>
 Ld (.int .i64) w3.drew a4 fun x5 =>
 Ld (.int .i64) w3.drew (a4.add 1) fun x6 =>
 c_ref01_Put ⟨none, 0, 0⟩ x5 2 w3.drew fun r7 w8 =>
 w8.cell? (a4.add 1) = some (Value.int .i64 x6) ∧
 c_ref01_Put r7 x6 2 w8 fun r9 w10 =>
 Ld .slice w10 (a4.add 3) fun x11 =>
 c_ref01_Put r9 (IntKind.i64.wrap (8 + (x11.len : Int))) 2 w10 fun r12 w13 =>
 c_ref01_Put r12 a1 2 w13 fun r14 w15 =>
 Ld .slice w15 (a4.add 3) fun x16 =>
 AppSl 5 1 1 [(Value.int .u8 0)] r14 x16 w15 fun s17 w18 =>
 K s17 w18)
theorem e_ref07_bytes (a0_0 : Int) (a0_1 : Int) (a0_2 : Bool) (a0_3 : SliceV) (a1 : Int) (w : World) (K : SliceV → World → Prop) : den Try.prog 24 (bodyOf Try.f53) none (.seq .leaf (.seq .leaf (.seq .leaf (.seq .leaf .leaf)))) (argEnv 0 [(Value.agg ⟨[(Value.int .i64 a0_0), (Value.int .i64 a0_1), (Value.bool a0_2), (Value.slice a0_3.a a0_3.len a0_3.cap)]⟩), (Value.int .i64 a1)]) [] w (retK Try.prog [.tmp 4] [.one .slice] K) = s_ref07_bytes a0_0 a0_1 a0_2 a0_3 a1 w K := by kernel_rfl
theorem ok_ref07_bytes {a0_0 a0_1 a0_2 a0_3 a1 w K} (h : s_ref07_bytes a0_0 a0_1 a0_2 a0_3 a1 w K) : c_ref07_bytes a0_0 a0_1 a0_2 a0_3 a1 w K :=
  fn_sound pok Try.func53 (fn := Try.f53) (c := bodyOf Try.f53) (nt := 24) (by kernel_rfl) (by kernel_rfl) (rs := [.tmp 4]) (by kernel_rfl) [.one .slice] K (.seq .leaf (.seq .leaf (.seq .leaf (.seq .leaf .leaf)))) [(Value.agg ⟨[(Value.int .i64 a0_0), (Value.int .i64 a0_1), (Value.bool a0_2), (Value.slice a0_3.a a0_3.len a0_3.cap)]⟩), (Value.int .i64 a1)] (by kernel_rfl) w ((e_ref07_bytes a0_0 a0_1 a0_2 a0_3 a1 w K).mpr h)

/-- goosepond/goosepondref07.Pseudo -/
def s_ref07_Pseudo (a0 : Int) (a1 : Int) (a2 : Int) (a3 : Int) (w : World) (K : SliceV → World → Prop) : Prop :=
 (c_ref07_mod a0 4294967296 w fun r5 w6 =>
 c_ref01_Put ⟨none, 0, 0⟩ r5 4 w6 fun r7 w8 =>
 c_ref07_mod a1 4294967296 w8 fun r9 w10 =>
 c_ref01_Put r7 r9 4 w10 fun r11 w12 =>
 Al w12 (.cells ⟨[(Value.int .u8 0)]⟩ 5) fun a14 w13 =>
 AppSl 5 1 1 [(Value.int .u8 0)] r11 ⟨(some a14), 1, 1⟩ w13 fun s15 w16 =>
 c_ref07_mod a2 256 w16 fun r17 w18 =>
 c_ref01_Put s15 r17 1 w18 fun r19 w20 =>
 c_ref07_mod a3 65536 w20 fun r21 w22 =>
 c_ref01_Put r19 r21 2 w22 fun r23 w24 =>
 K r23 w24)
theorem e_ref07_Pseudo (a0 : Int) (a1 : Int) (a2 : Int) (a3 : Int) (w : World) (K : SliceV → World → Prop) : den Try.prog 25 (bodyOf Try.f54) none (.seq .leaf (.seq .leaf (.seq .leaf .leaf))) (argEnv 0 [(Value.int .i64 a0), (Value.int .i64 a1), (Value.int .i64 a2), (Value.int .i64 a3)]) [] w (retK Try.prog [.tmp 8] [.one .slice] K) = s_ref07_Pseudo a0 a1 a2 a3 w K := by kernel_rfl
theorem ok_ref07_Pseudo {a0 a1 a2 a3 w K} (h : s_ref07_Pseudo a0 a1 a2 a3 w K) : c_ref07_Pseudo a0 a1 a2 a3 w K :=
  fn_sound pok Try.func54 (fn := Try.f54) (c := bodyOf Try.f54) (nt := 25) (by kernel_rfl) (by kernel_rfl) (rs := [.tmp 8]) (by kernel_rfl) [.one .slice] K (.seq .leaf (.seq .leaf (.seq .leaf .leaf))) [(Value.int .i64 a0), (Value.int .i64 a1), (Value.int .i64 a2), (Value.int .i64 a3)] (by kernel_rfl) w ((e_ref07_Pseudo a0 a1 a2 a3 w K).mpr h)

/-- goosepond/be.Fits -/
def s_be_Fits (a0 : Int) (a1 : Int) (w : World) (K : Bool → World → Prop) : Prop :=
 (let J3 : Bool → World → Prop := fun j4 w5 =>
 (K j4 w5)
 c_be_right a1 w fun r6 w7 =>
 (bif r6 then
 (bif (decide (a0 ≥ 0)) then
 0 ≤ (IntKind.i64.wrap (8 * a1)) ∧
 J3 ((shrI .i64 a0 (IntKind.i64.wrap (8 * a1))) == 0) w7
 else
 J3 false w7)
 else
 J3 false w7))
theorem e_be_Fits (a0 : Int) (a1 : Int) (w : World) (K : Bool → World → Prop) : den Try.prog 18 (bodyOf Try.f55) none (.seq .leaf (.seq .leaf .leaf)) (argEnv 0 [(Value.int .i64 a0), (Value.int .i64 a1)]) [] w (retK Try.prog [.tmp 4] [.one .bool] K) = s_be_Fits a0 a1 w K := by kernel_rfl
theorem ok_be_Fits {a0 a1 w K} (h : s_be_Fits a0 a1 w K) : c_be_Fits a0 a1 w K :=
  fn_sound pok Try.func55 (fn := Try.f55) (c := bodyOf Try.f55) (nt := 18) (by kernel_rfl) (by kernel_rfl) (rs := [.tmp 4]) (by kernel_rfl) [.one .bool] K (.seq .leaf (.seq .leaf .leaf)) [(Value.int .i64 a0), (Value.int .i64 a1)] (by kernel_rfl) w ((e_be_Fits a0 a1 w K).mpr h)

/-- slices.AppendSeq[[]byte,byte] -/
def s_slices_AppendSeq_byte_byte (a0 : SliceV) (a1 : Value) (w : World) (K : SliceV → World → Prop) : Prop :=
 (isOne (Value.slice a0.a a0.len a0.cap) = true ∧
 Al w (.cells ⟨[(Value.slice a0.a a0.len a0.cap)]⟩ 30) fun a4 w3 =>
 RngP Try.prog none [.one (.int .u8)] a1 w3 (fun l5 x6 W7 Kb8 =>
 W7.heap[l5]? = W7.heap[l5]? ∧
 Ld .slice (busyW W7 l5) a4 fun x9 =>
 Al (busyW W7 l5) (.cells ⟨[(Value.int .u8 x6.1)]⟩ 5) fun a11 w10 =>
 AppSl 5 1 1 [(Value.int .u8 0)] x9 ⟨(some a11), 1, 1⟩ w10 fun s12 w13 =>
 St w13 a4 (Value.slice s12.a s12.len s12.cap) fun w14 =>
 Kb8 .normal w14)
 (fun w15 =>
 Ld .slice w15 a4 fun x16 =>
 w15.heap[w3.heap.size]? = some (.deferred (some [])) ∧
 K x16 (w15.putObj w3.heap.size (.deferred none)))
 (fun w17 =>
 w17.heap[w3.heap.size]? = some (.deferred (some [])) ∧
 K ⟨none, 0, 0⟩ (w17.putObj w3.heap.size (.deferred none)))
 [])
theorem e_slices_AppendSeq_byte_byte (a0 : SliceV) (a1 : Value) (w : World) (K : SliceV → World → Prop) : den Try.prog 13 (bodyOf Try.f56) none (.seq .leaf (.seq (.seq .leaf (.blk (.rng [.one (.int .u8)] .leaf (.blk .leaf)))) (.seq .leaf .leaf))) (argEnv 0 [(Value.slice a0.a a0.len a0.cap), a1]) [] w (retK Try.prog [.tmp 4] [.one .slice] K) = s_slices_AppendSeq_byte_byte a0 a1 w K := by kernel_rfl
theorem ok_slices_AppendSeq_byte_byte {a0 a1 w K} (h : s_slices_AppendSeq_byte_byte a0 a1 w K) : c_slices_AppendSeq_byte_byte a0 a1 w K :=
  fn_sound pok Try.func56 (fn := Try.f56) (c := bodyOf Try.f56) (nt := 13) (by kernel_rfl) (by kernel_rfl) (rs := [.tmp 4]) (by kernel_rfl) [.one .slice] K (.seq .leaf (.seq (.seq .leaf (.blk (.rng [.one (.int .u8)] .leaf (.blk .leaf)))) (.seq .leaf .leaf))) [(Value.slice a0.a a0.len a0.cap), a1] (by kernel_rfl) w ((e_slices_AppendSeq_byte_byte a0 a1 w K).mpr h)

/-- goosepond/be.digits -/
def s_be_digits (a0 : Int) (a1 : Int) (w : World) (K : Value → World → Prop) : Prop :=
 (isOne (Value.int .i64 a0) = true ∧
 Al w (.cells ⟨[(Value.int .i64 a0)]⟩ 3) fun a4 w3 =>
 isOne (Value.int .i64 a1) = true ∧
 Al w3 (.cells ⟨[(Value.int .i64 a1)]⟩ 3) fun a6 w5 =>
 K (Value.func (.func 87) #[] #[(Value.pointer (some a6)), (Value.pointer (some a4))]) w5)
theorem e_be_digits (a0 : Int) (a1 : Int) (w : World) (K : Value → World → Prop) : den Try.prog 6 (bodyOf Try.f57) none (.seq .leaf (.seq .leaf .leaf)) (argEnv 0 [(Value.int .i64 a0), (Value.int .i64 a1)]) [] w (retK Try.prog [.tmp 4] [.one .any] K) = s_be_digits a0 a1 w K := by kernel_rfl
theorem ok_be_digits {a0 a1 w K} (h : s_be_digits a0 a1 w K) : c_be_digits a0 a1 w K :=
  fn_sound pok Try.func57 (fn := Try.f57) (c := bodyOf Try.f57) (nt := 6) (by kernel_rfl) (by kernel_rfl) (rs := [.tmp 4]) (by kernel_rfl) [.one .any] K (.seq .leaf (.seq .leaf .leaf)) [(Value.int .i64 a0), (Value.int .i64 a1)] (by kernel_rfl) w ((e_be_digits a0 a1 w K).mpr h)

/-- goosepond/v4.Quoted -/
def s_v4_Quoted (a0 : SliceV) (w : World) (K : Int → Int → Int → Int → Int → Int → Int → Bool → Bool → SliceV → SliceV → Int → World → Prop) : Prop :=
 (Al w (.cells ⟨[(Value.int .i64 0), (Value.int .i64 0), (Value.int .i64 0), (Value.int .i64 0), (Value.int .i64 0), (Value.int .i64 0), (Value.int .i64 0), (Value.bool false), (Value.bool false), (Value.slice none 0 0), (Value.slice none 0 0)]⟩ 46) fun a3 w2 =>
 c_v4_open a0 true w2 fun r4 r5 r6 r7 w8 =>
 Al w8 (.cells ⟨[(Value.slice none 0 0), (Value.int .i64 0), (Value.int .i64 0)]⟩ 141) fun a10 w9 =>
 StN [(Value.slice r4.a r4.len r4.cap), (Value.int .i64 r5), (Value.int .i64 r6)] w9 a10 0 fun w11 =>
 (bif (r7 != 0) then
 StN [(Value.int .i64 0), (Value.int .i64 0), (Value.int .i64 0), (Value.int .i64 0), (Value.int .i64 0), (Value.int .i64 0), (Value.int .i64 0), (Value.bool false), (Value.bool false), (Value.slice none 0 0), (Value.slice none 0 0)] w11 a3 0 fun w12 =>
 Ld (.int .i64) w12 (a3.add 0) fun y13 =>
 Ld (.int .i64) w12 (a3.add 1) fun y14 =>
 Ld (.int .i64) w12 (a3.add 2) fun y15 =>
 Ld (.int .i64) w12 (a3.add 3) fun y16 =>
 Ld (.int .i64) w12 (a3.add 4) fun y17 =>
 Ld (.int .i64) w12 (a3.add 5) fun y18 =>
 Ld (.int .i64) w12 (a3.add 6) fun y19 =>
 Ld .bool w12 (a3.add 7) fun y20 =>
 Ld .bool w12 (a3.add 8) fun y21 =>
 Ld .slice w12 (a3.add 9) fun y22 =>
 Ld .slice w12 (a3.add 10) fun y23 =>
 K y13 y14 y15 y16 y17 y18 y19 y20 y21 y22 y23 r7 w12
 else
 Ld .slice w11 (a10.add 0) fun x24 =>
 Ld (.int .i64) w11 (a10.add 1) fun x25 =>
 Ld (.int .i64) w11 (a10.add 2) fun x26 =>
 c_v4_reader_packet x24 x25 x26 w11 fun r27 r28 r29 r30 r31 r32 r33 r34 r35 r36 r37 w38 =>
 StN [(Value.int .i64 r27), (Value.int .i64 r28), (Value.int .i64 r29), (Value.int .i64 r30), (Value.int .i64 r31), (Value.int .i64 r32), (Value.int .i64 r33), (Value.bool r34), (Value.bool r35), (Value.slice r36.a r36.len r36.cap), (Value.slice r37.a r37.len r37.cap)] w38 a3 0 fun w39 =>
 Ld (.int .i64) w39 (a3.add 0) fun y40 =>
 Ld (.int .i64) w39 (a3.add 1) fun y41 =>
 Ld (.int .i64) w39 (a3.add 2) fun y42 =>
 Ld (.int .i64) w39 (a3.add 3) fun y43 =>
 Ld (.int .i64) w39 (a3.add 4) fun y44 =>
 Ld (.int .i64) w39 (a3.add 5) fun y45 =>
 Ld (.int .i64) w39 (a3.add 6) fun y46 =>
 Ld .bool w39 (a3.add 7) fun y47 =>
 Ld .bool w39 (a3.add 8) fun y48 =>
 Ld .slice w39 (a3.add 9) fun y49 =>
 Ld .slice w39 (a3.add 10) fun y50 =>
 K y40 y41 y42 y43 y44 y45 y46 y47 y48 y49 y50 0 w39))
theorem e_v4_Quoted (a0 : SliceV) (w : World) (K : Int → Int → Int → Int → Int → Int → Int → Bool → Bool → SliceV → SliceV → Int → World → Prop) : den Try.prog 17 (bodyOf Try.f61) none (.seq .leaf (.seq .leaf (.seq (.seq .leaf (.cond (.seq .leaf .leaf) .leaf)) (.seq .leaf .leaf)))) (argEnv 0 [(Value.slice a0.a a0.len a0.cap)]) [] w (retK Try.prog [.cell 2 46, .tmp 3] [.agg [(.int .i64), (.int .i64), (.int .i64), (.int .i64), (.int .i64), (.int .i64), (.int .i64), .bool, .bool, .slice, .slice], .one (.int .i64)] K) = s_v4_Quoted a0 w K := by kernel_rfl
theorem ok_v4_Quoted {a0 w K} (h : s_v4_Quoted a0 w K) : c_v4_Quoted a0 w K :=
  fn_sound pok Try.func61 (fn := Try.f61) (c := bodyOf Try.f61) (nt := 17) (by kernel_rfl) (by kernel_rfl) (rs := [.cell 2 46, .tmp 3]) (by kernel_rfl) [.agg [(.int .i64), (.int .i64), (.int .i64), (.int .i64), (.int .i64), (.int .i64), (.int .i64), .bool, .bool, .slice, .slice], .one (.int .i64)] K (.seq .leaf (.seq .leaf (.seq (.seq .leaf (.cond (.seq .leaf .leaf) .leaf)) (.seq .leaf .leaf)))) [(Value.slice a0.a a0.len a0.cap)] (by kernel_rfl) w ((e_v4_Quoted a0 w K).mpr h)

/-- goosepond/errs.open -/
def s_errs_open (a0 : SliceV) (w : World) (K : Int → Int → Int → Int → Int → Int → Int → Bool → Bool → SliceV → SliceV → Bool → World → Prop) : Prop :=
 (Al w (.cells ⟨[(Value.int .i64 0), (Value.int .i64 0), (Value.int .i64 0), (Value.int .i64 0), (Value.int .i64 0), (Value.int .i64 0), (Value.int .i64 0), (Value.bool false), (Value.bool false), (Value.slice none 0 0), (Value.slice none 0 0)]⟩ 46) fun a3 w2 =>
 c_v4_Quoted a0 w2 fun r4 r5 r6 r7 r8 r9 r10 r11 r12 r13 r14 r15 w16 =>
 Al w16 (.cells ⟨[(Value.int .i64 0), (Value.int .i64 0), (Value.int .i64 0), (Value.int .i64 0), (Value.int .i64 0), (Value.int .i64 0), (Value.int .i64 0), (Value.bool false), (Value.bool false), (Value.slice none 0 0), (Value.slice none 0 0)]⟩ 46) fun a18 w17 =>
 StN [(Value.int .i64 r4), (Value.int .i64 r5), (Value.int .i64 r6), (Value.int .i64 r7), (Value.int .i64 r8), (Value.int .i64 r9), (Value.int .i64 r10), (Value.bool r11), (Value.bool r12), (Value.slice r13.a r13.len r13.cap), (Value.slice r14.a r14.len r14.cap)] w17 a18 0 fun w19 =>
 let J20 : Bool → Prop := fun j21 =>
 ((bif j21 then
 StN [(Value.int .i64 0), (Value.int .i64 0), (Value.int .i64 0), (Value.int .i64 0), (Value.int .i64 0), (Value.int .i64 0), (Value.int .i64 0), (Value.bool false), (Value.bool false), (Value.slice none 0 0), (Value.slice none 0 0)] w19 a3 0 fun w22 =>
 Ld (.int .i64) w22 (a3.add 0) fun y23 =>
 Ld (.int .i64) w22 (a3.add 1) fun y24 =>
 Ld (.int .i64) w22 (a3.add 2) fun y25 =>
 Ld (.int .i64) w22 (a3.add 3) fun y26 =>
 Ld (.int .i64) w22 (a3.add 4) fun y27 =>
 Ld (.int .i64) w22 (a3.add 5) fun y28 =>
 Ld (.int .i64) w22 (a3.add 6) fun y29 =>
 Ld .bool w22 (a3.add 7) fun y30 =>
 Ld .bool w22 (a3.add 8) fun y31 =>
 Ld .slice w22 (a3.add 9) fun y32 =>
 Ld .slice w22 (a3.add 10) fun y33 =>
 K y23 y24 y25 y26 y27 y28 y29 y30 y31 y32 y33 false w22
 else
 let J34 : Bool → World → Prop := fun j35 w36 =>
 ((bif j35 then
 StN [(Value.int .i64 0), (Value.int .i64 0), (Value.int .i64 0), (Value.int .i64 0), (Value.int .i64 0), (Value.int .i64 0), (Value.int .i64 0), (Value.bool false), (Value.bool false), (Value.slice none 0 0), (Value.slice none 0 0)] w36 a3 0 fun w37 =>
 Ld (.int .i64) w37 (a3.add 0) fun y38 =>
 Ld (.int .i64) w37 (a3.add 1) fun y39 =>
 Ld (.int .i64) w37 (a3.add 2) fun y40 =>
 Ld (.int .i64) w37 (a3.add 3) fun y41 =>
 Ld (.int .i64) w37 (a3.add 4) fun y42 =>
 Ld (.int .i64) w37 (a3.add 5) fun y43 =>
 Ld (.int .i64) w37 (a3.add 6) fun y44 =>
 Ld .bool w37 (a3.add 7) fun y45 =>
 Ld .bool w37 (a3.add 8) fun y46 =>
 Ld .slice w37 (a3.add 9) fun y47 =>
 Ld .slice w37 (a3.add 10) fun y48 =>
 K y38 y39 y40 y41 y42 y43 y44 y45 y46 y47 y48 false w37
 else
 Ld (.int .i64) w36.drew (a18.add 0) fun x49 =>
 Ld (.int .i64) w36.drew (a18.add 1) fun x50 =>
 Ld (.int .i64) w36.drew (a18.add 2) fun x51 =>
 Ld (.int .i64) w36.drew (a18.add 3) fun x52 =>
 Ld (.int .i64) w36.drew (a18.add 4) fun x53 =>
 Ld (.int .i64) w36.drew (a18.add 5) fun x54 =>
 Ld (.int .i64) w36.drew (a18.add 6) fun x55 =>
 Ld .bool w36.drew (a18.add 7) fun x56 =>
 Ld .bool w36.drew (a18.add 8) fun x57 =>
 Ld .slice w36.drew (a18.add 9) fun x58 =>
 Ld .slice w36.drew (a18.add 10) fun x59 =>
 Ld (.int .i64) w36.drew (a18.add 0) fun x60 =>
 Ld (.int .i64) w36.drew (a18.add 1) fun x61 =>
 Ld (.int .i64) w36.drew (a18.add 2) fun x62 =>
 Ld (.int .i64) w36.drew (a18.add 3) fun x63 =>
 Ld (.int .i64) w36.drew (a18.add 4) fun x64 =>
 Ld (.int .i64) w36.drew (a18.add 5) fun x65 =>
 Ld (.int .i64) w36.drew (a18.add 6) fun x66 =>
 Ld .bool w36.drew (a18.add 7) fun x67 =>
 Ld .bool w36.drew (a18.add 8) fun x68 =>
 Ld .slice w36.drew (a18.add 9) fun x69 =>
 Ld .slice w36.drew (a18.add 10) fun x70 =>
 c_errs_plain x60 x61 x62 x63 x64 x65 x66 x67 x68 x69 x70 w36.drew fun r71 w72 =>
 w72.cell? (a18.add 0) = some (Value.int .i64 x49) ∧
 w72.cell? (a18.add 1) = some (Value.int .i64 x50) ∧
 w72.cell? (a18.add 2) = some (Value.int .i64 x51) ∧
 w72.cell? (a18.add 3) = some (Value.int .i64 x52) ∧
 w72.cell? (a18.add 4) = some (Value.int .i64 x53) ∧
 w72.cell? (a18.add 5) = some (Value.int .i64 x54) ∧
 w72.cell? (a18.add 6) = some (Value.int .i64 x55) ∧
 w72.cell? (a18.add 7) = some (Value.bool x56) ∧
 w72.cell? (a18.add 8) = some (Value.bool x57) ∧
 w72.cell? (a18.add 9) = some (Value.slice x58.a x58.len x58.cap) ∧
 w72.cell? (a18.add 10) = some (Value.slice x59.a x59.len x59.cap) ∧
 StN [(Value.int .i64 x49), (Value.int .i64 x50), (Value.int .i64 x51), (Value.int .i64 x52), (Value.int .i64 x53), (Value.int .i64 x54), (Value.int .i64 x55), (Value.bool x56), (Value.bool x57), (Value.slice x58.a x58.len x58.cap), (Value.slice x59.a x59.len x59.cap)] w72 a3 0 fun w73 =>
 Ld (.int .i64) w73 (a3.add 0) fun y74 =>
 Ld (.int .i64) w73 (a3.add 1) fun y75 =>
 Ld (.int .i64) w73 (a3.add 2) fun y76 =>
 Ld (.int .i64) w73 (a3.add 3) fun y77 =>
 Ld (.int .i64) w73 (a3.add 4) fun y78 =>
 Ld (.int .i64) w73 (a3.add 5) fun y79 =>
 Ld (.int .i64) w73 (a3.add 6) fun y80 =>
 Ld .bool w73 (a3.add 7) fun y81 =>
 Ld .bool w73 (a3.add 8) fun y82 =>
 Ld .slice w73 (a3.add 9) fun y83 =>
 Ld .slice w73 (a3.add 10) fun y84 =>
 K y74 y75 y76 y77 y78 y79 y80 y81 y82 y83 y84 r71 w73))
 Ld (.int .i64) w19 (a18.add 5) fun x85 =>
 c_four_Host x85 w19 fun r86 w87 =>
 (bif (!r86) then
 J34 (!r86) w87
 else
 Ld (.int .i64) w87 (a18.add 6) fun x88 =>
 c_four_Host x88 w87 fun r89 w90 =>
 J34 (!r89) w90)))
 (bif (r15 != 0) then
 J20 (r15 != 0)
 else
 Ld (.int .i64) w19 (a18.add 2) fun x91 =>
 J20 (decide (x91 > 0))))
theorem e_errs_open (a0 : SliceV) (w : World) (K : Int → Int → Int → Int → Int → Int → Int → Bool → Bool → SliceV → SliceV → Bool → World → Prop) : den Try.prog 31 (bodyOf Try.f62) none (.seq .leaf (.seq .leaf (.seq (.blk (.seq (.seq .leaf (.cond .leaf .leaf)) (.cond (.seq .leaf .leaf) (.seq (.seq .leaf (.cond .leaf .leaf)) (.cond (.seq .leaf .leaf) .leaf))))) (.seq .leaf .leaf)))) (argEnv 0 [(Value.slice a0.a a0.len a0.cap)]) [] w (retK Try.prog [.cell 2 46, .tmp 3] [.agg [(.int .i64), (.int .i64), (.int .i64), (.int .i64), (.int .i64), (.int .i64), (.int .i64), .bool, .bool, .slice, .slice], .one .bool] K) = s_errs_open a0 w K := by kernel_rfl
theorem ok_errs_open {a0 w K} (h : s_errs_open a0 w K) : c_errs_open a0 w K :=
  fn_sound pok Try.func62 (fn := Try.f62) (c := bodyOf Try.f62) (nt := 31) (by kernel_rfl) (by kernel_rfl) (rs := [.cell 2 46, .tmp 3]) (by kernel_rfl) [.agg [(.int .i64), (.int .i64), (.int .i64), (.int .i64), (.int .i64), (.int .i64), (.int .i64), .bool, .bool, .slice, .slice], .one .bool] K (.seq .leaf (.seq .leaf (.seq (.blk (.seq (.seq .leaf (.cond .leaf .leaf)) (.cond (.seq .leaf .leaf) (.seq (.seq .leaf (.cond .leaf .leaf)) (.cond (.seq .leaf .leaf) .leaf))))) (.seq .leaf .leaf)))) [(Value.slice a0.a a0.len a0.cap)] (by kernel_rfl) w ((e_errs_open a0 w K).mpr h)

/-- goosepond/errs.quote -/
def s_errs_quote (a0 : SliceV) (a1_0 : Int) (a1_1 : Int) (a1_2 : Int) (a1_3 : Int) (a1_4 : Int) (a1_5 : Int) (a1_6 : Int) (a1_7 : Bool) (a1_8 : Bool) (a1_9 : SliceV) (a1_10 : SliceV) (w : World) (K : SliceV → World → Prop) : Prop :=
 (Al w (.cells ⟨[(Value.int .i64 a1_0), (Value.int .i64 a1_1), (Value.int .i64 a1_2), (Value.int .i64 a1_3), (Value.int .i64 a1_4), (Value.int .i64 a1_5), (Value.int .i64 a1_6), (Value.bool a1_7), (Value.bool a1_8), (Value.slice a1_9.a a1_9.len a1_9.cap), (Value.slice a1_10.a a1_10.len a1_10.cap)]⟩ 46) fun a4 w3 =>
 Ld (.int .i64) w3 (a4.add 0) fun x5 =>
 Ld (.int .i64) w3 (a4.add 1) fun x6 =>
 Ld (.int .i64) w3 (a4.add 2) fun x7 =>
 Ld (.int .i64) w3 (a4.add 3) fun x8 =>
 Ld (.int .i64) w3 (a4.add 4) fun x9 =>
 Ld (.int .i64) w3 (a4.add 5) fun x10 =>
 Ld (.int .i64) w3 (a4.add 6) fun x11 =>
 Ld .bool w3 (a4.add 7) fun x12 =>
 Ld .bool w3 (a4.add 8) fun x13 =>
 Ld .slice w3 (a4.add 9) fun x14 =>
 Ld .slice w3 (a4.add 10) fun x15 =>
 c_v4_Size x5 x6 x7 x8 x9 x10 x11 x12 x13 x14 x15 w3 fun r16 w17 =>
 SubSl a0 1 0 (if (548 : Int) < r16 then 548 else r16) fun s18 =>
 c_slices_Clone_byte_byte s18 w17 fun r19 w20 =>
 K r19 w20)
theorem e_errs_quote (a0 : SliceV) (a1_0 : Int) (a1_1 : Int) (a1_2 : Int) (a1_3 : Int) (a1_4 : Int) (a1_5 : Int) (a1_6 : Int) (a1_7 : Bool) (a1_8 : Bool) (a1_9 : SliceV) (a1_10 : SliceV) (w : World) (K : SliceV → World → Prop) : den Try.prog 11 (bodyOf Try.f63) none (.seq .leaf (.seq .leaf .leaf)) (argEnv 0 [(Value.slice a0.a a0.len a0.cap), (Value.agg ⟨[(Value.int .i64 a1_0), (Value.int .i64 a1_1), (Value.int .i64 a1_2), (Value.int .i64 a1_3), (Value.int .i64 a1_4), (Value.int .i64 a1_5), (Value.int .i64 a1_6), (Value.bool a1_7), (Value.bool a1_8), (Value.slice a1_9.a a1_9.len a1_9.cap), (Value.slice a1_10.a a1_10.len a1_10.cap)]⟩)]) [] w (retK Try.prog [.tmp 4] [.one .slice] K) = s_errs_quote a0 a1_0 a1_1 a1_2 a1_3 a1_4 a1_5 a1_6 a1_7 a1_8 a1_9 a1_10 w K := by kernel_rfl
theorem ok_errs_quote {a0 a1_0 a1_1 a1_2 a1_3 a1_4 a1_5 a1_6 a1_7 a1_8 a1_9 a1_10 w K} (h : s_errs_quote a0 a1_0 a1_1 a1_2 a1_3 a1_4 a1_5 a1_6 a1_7 a1_8 a1_9 a1_10 w K) : c_errs_quote a0 a1_0 a1_1 a1_2 a1_3 a1_4 a1_5 a1_6 a1_7 a1_8 a1_9 a1_10 w K :=
  fn_sound pok Try.func63 (fn := Try.f63) (c := bodyOf Try.f63) (nt := 11) (by kernel_rfl) (by kernel_rfl) (rs := [.tmp 4]) (by kernel_rfl) [.one .slice] K (.seq .leaf (.seq .leaf .leaf)) [(Value.slice a0.a a0.len a0.cap), (Value.agg ⟨[(Value.int .i64 a1_0), (Value.int .i64 a1_1), (Value.int .i64 a1_2), (Value.int .i64 a1_3), (Value.int .i64 a1_4), (Value.int .i64 a1_5), (Value.int .i64 a1_6), (Value.bool a1_7), (Value.bool a1_8), (Value.slice a1_9.a a1_9.len a1_9.cap), (Value.slice a1_10.a a1_10.len a1_10.cap)]⟩)] (by kernel_rfl) w ((e_errs_quote a0 a1_0 a1_1 a1_2 a1_3 a1_4 a1_5 a1_6 a1_7 a1_8 a1_9 a1_10 w K).mpr h)

/-- goosepond/icmp.Build -/
def s_icmp_Build (a0_0 : Int) (a0_1 : Int) (a0_2 : Int) (a0_3 : SliceV) (w : World) (K : SliceV → Int → World → Prop) : Prop :=
 (Al w (.cells ⟨[(Value.int .i64 a0_0), (Value.int .i64 a0_1), (Value.int .i64 a0_2), (Value.slice a0_3.a a0_3.len a0_3.cap)]⟩ 44) fun a3 w2 =>
 Ld (.int .i64) w2 (a3.add 0) fun x4 =>
 Ld (.int .i64) w2 (a3.add 1) fun x5 =>
 Ld (.int .i64) w2 (a3.add 2) fun x6 =>
 Ld .slice w2 (a3.add 3) fun x7 =>
 c_icmp_Check x4 x5 x6 x7 w2 fun r8 w9 =>
 (bif (r8 != 0) then
 K ⟨none, 0, 0⟩ r8 w9
 else
 Ld (.int .i64) w9 a3 fun x10 =>
 Ld (.int .i64) w9 (a3.add 1) fun x11 =>
 Al w9 (.cells ⟨[(Value.int .u8 (IntKind.u8.wrap x10)), (Value.int .u8 (IntKind.u8.wrap x11)), (Value.int .u8 0), (Value.int .u8 0)]⟩ 5) fun a13 w12 =>
 Ld (.int .i64) w12 (a3.add 2) fun x14 =>
 c_be_Put ⟨(some a13), 4, 4⟩ x14 4 w12 fun r15 w16 =>
 Ld .slice w16 (a3.add 3) fun x17 =>
 AppSl 5 1 1 [(Value.int .u8 0)] r15 x17 w16 fun s18 w19 =>
 Al w19 (.cells ⟨[(Value.slice s18.a s18.len s18.cap)]⟩ 30) fun a21 w20 =>
 c_sum_Of ⟨(some a21), 1, 1⟩ w20 fun r22 w23 =>
 c_be_Set s18 2 r22 2 w23 fun r24 r25 w26 =>
 K r24 r25 w26))
theorem e_icmp_Build (a0_0 : Int) (a0_1 : Int) (a0_2 : Int) (a0_3 : SliceV) (w : World) (K : SliceV → Int → World → Prop) : den Try.prog 32 (bodyOf Try.f64) none (.seq .leaf (.seq (.seq .leaf (.seq .leaf (.cond (.seq .leaf .leaf) .leaf))) (.seq .leaf (.seq .leaf (.seq .leaf .leaf))))) (argEnv 0 [(Value.agg ⟨[(Value.int .i64 a0_0), (Value.int .i64 a0_1), (Value.int .i64 a0_2), (Value.slice a0_3.a a0_3.len a0_3.cap)]⟩)]) [] w (retK Try.prog [.tmp 2, .tmp 3] [.one .slice, .one (.int .i64)] K) = s_icmp_Build a0_0 a0_1 a0_2 a0_3 w K := by kernel_rfl
theorem ok_icmp_Build {a0_0 a0_1 a0_2 a0_3 w K} (h : s_icmp_Build a0_0 a0_1 a0_2 a0_3 w K) : c_icmp_Build a0_0 a0_1 a0_2 a0_3 w K :=
  fn_sound pok Try.func64 (fn := Try.f64) (c := bodyOf Try.f64) (nt := 32) (by kernel_rfl) (by kernel_rfl) (rs := [.tmp 2, .tmp 3]) (by kernel_rfl) [.one .slice, .one (.int .i64)] K (.seq .leaf (.seq (.seq .leaf (.seq .leaf (.cond (.seq .leaf .leaf) .leaf))) (.seq .leaf (.seq .leaf (.seq .leaf .leaf))))) [(Value.agg ⟨[(Value.int .i64 a0_0), (Value.int .i64 a0_1), (Value.int .i64 a0_2), (Value.slice a0_3.a a0_3.len a0_3.cap)]⟩)] (by kernel_rfl) w ((e_icmp_Build a0_0 a0_1 a0_2 a0_3 w K).mpr h)

/-- goosepond/v4.Check -/
def s_v4_Check (a0_0 : Int) (a0_1 : Int) (a0_2 : Int) (a0_3 : Int) (a0_4 : Int) (a0_5 : Int) (a0_6 : Int) (a0_7 : Bool) (a0_8 : Bool) (a0_9 : SliceV) (a0_10 : SliceV) (w : World) (K : Int → World → Prop) : Prop :=
 (Al w (.cells ⟨[(Value.int .i64 a0_0), (Value.int .i64 a0_1), (Value.int .i64 a0_2), (Value.int .i64 a0_3), (Value.int .i64 a0_4), (Value.int .i64 a0_5), (Value.int .i64 a0_6), (Value.bool a0_7), (Value.bool a0_8), (Value.slice a0_9.a a0_9.len a0_9.cap), (Value.slice a0_10.a a0_10.len a0_10.cap)]⟩ 46) fun a3 w2 =>
 Ld (.int .i64) w2.drew a3 fun x4 =>
 Ld (.int .i64) w2.drew (a3.add 3) fun x5 =>
 Ld (.int .i64) w2.drew (a3.add 4) fun x6 =>
 Ld (.int .i64) w2.drew (a3.add 1) fun x7 =>
 c_be_Fits x4 1 w2.drew fun r8 w9 =>
 w9.cell? (a3.add 1) = some (Value.int .i64 x7) ∧
 w9.cell? (a3.add 4) = some (Value.int .i64 x6) ∧
 w9.cell? (a3.add 3) = some (Value.int .i64 x5) ∧
 c_be_Fits x5 1 w9 fun r10 w11 =>
 w11.cell? (a3.add 1) = some (Value.int .i64 x7) ∧
 w11.cell? (a3.add 4) = some (Value.int .i64 x6) ∧
 c_be_Fits x6 1 w11 fun r12 w13 =>
 w13.cell? (a3.add 1) = some (Value.int .i64 x7) ∧
 c_be_Fits x7 2 w13 fun r14 w15 =>
 Al w15 (.cells ⟨[(Value.bool r8), (Value.bool r10), (Value.bool r12), (Value.bool r14)]⟩ 4) fun a17 w16 =>
 c_v4_all ⟨(some a17), 4, 4⟩ w16 fun r18 w19 =>
 Ld (.int .i64) w19.drew (a3.add 5) fun x20 =>
 Ld (.int .i64) w19.drew (a3.add 6) fun x21 =>
 c_four_Right x20 w19.drew fun r22 w23 =>
 w23.cell? (a3.add 6) = some (Value.int .i64 x21) ∧
 c_four_Right x21 w23 fun r24 w25 =>
 Al w25 (.cells ⟨[(Value.bool r22), (Value.bool r24)]⟩ 4) fun a27 w26 =>
 c_v4_all ⟨(some a27), 2, 2⟩ w26 fun r28 w29 =>
 let J30 : Bool → World → Prop := fun j31 w32 =>
 (Ld .slice w32 (a3.add 9) fun x33 =>
 Ld .slice w32 (a3.add 9) fun x34 =>
 (4 : Int) ≠ 0 ∧
 Al w32 (.cells ⟨[(Value.bool (decide ((x33.len : Int) ≤ 40))), (Value.bool ((Int.tmod (x34.len : Int) 4) == 0))]⟩ 4) fun a36 w35 =>
 c_v4_all ⟨(some a36), 2, 2⟩ w35 fun r37 w38 =>
 Al w38 (.cells ⟨[(Value.bool r18), (Value.bool r28), (Value.bool j31), (Value.bool r37)]⟩ 4) fun a40 w39 =>
 c_v4_all ⟨(some a40), 4, 4⟩ w39 fun r41 w42 =>
 (bif (!r41) then
 K 1 w42
 else
 let J43 : Bool → World → Prop := fun j44 w45 =>
 ((bif j44 then
 K 6 w45
 else
 K 0 w45))
 Ld (.int .i64) w42 (a3.add 0) fun x46 =>
 Ld (.int .i64) w42 (a3.add 1) fun x47 =>
 Ld (.int .i64) w42 (a3.add 2) fun x48 =>
 Ld (.int .i64) w42 (a3.add 3) fun x49 =>
 Ld (.int .i64) w42 (a3.add 4) fun x50 =>
 Ld (.int .i64) w42 (a3.add 5) fun x51 =>
 Ld (.int .i64) w42 (a3.add 6) fun x52 =>
 Ld .bool w42 (a3.add 7) fun x53 =>
 Ld .bool w42 (a3.add 8) fun x54 =>
 Ld .slice w42 (a3.add 9) fun x55 =>
 Ld .slice w42 (a3.add 10) fun x56 =>
 c_v4_Size x46 x47 x48 x49 x50 x51 x52 x53 x54 x55 x56 w42 fun r57 w58 =>
 (bif (decide (r57 > 65535)) then
 J43 true w58
 else
 Ld (.int .i64) w58 (a3.add 2) fun x59 =>
 Ld .slice w58 (a3.add 10) fun x60 =>
 J43 (decide (x59 > (IntKind.i64.wrap (65535 - (x60.len : Int))))) w58)))
 Ld (.int .i64) w29 (a3.add 2) fun x61 =>
 Ld (.int .i64) w29 (a3.add 2) fun x62 =>
 Ld (.int .i64) w29 (a3.add 2) fun x63 =>
 (8 : Int) ≠ 0 ∧
 Ld .bool w29 (a3.add 8) fun x64 =>
 (bif (!x64) then
 Al w29 (.cells ⟨[(Value.bool (decide (x61 ≥ 0))), (Value.bool (decide (x62 ≤ 65528))), (Value.bool ((Int.tmod x63 8) == 0)), (Value.bool true)]⟩ 4) fun a66 w65 =>
 c_v4_all ⟨(some a66), 4, 4⟩ w65 fun r67 w68 =>
 J30 r67 w68
 else
 Ld .slice w29 (a3.add 10) fun x69 =>
 (8 : Int) ≠ 0 ∧
 Al w29 (.cells ⟨[(Value.bool (decide (x61 ≥ 0))), (Value.bool (decide (x62 ≤ 65528))), (Value.bool ((Int.tmod x63 8) == 0)), (Value.bool ((Int.tmod (x69.len : Int) 8) == 0))]⟩ 4) fun a71 w70 =>
 c_v4_all ⟨(some a71), 4, 4⟩ w70 fun r72 w73 =>
 J30 r72 w73))
theorem e_v4_Check (a0_0 : Int) (a0_1 : Int) (a0_2 : Int) (a0_3 : Int) (a0_4 : Int) (a0_5 : Int) (a0_6 : Int) (a0_7 : Bool) (a0_8 : Bool) (a0_9 : SliceV) (a0_10 : SliceV) (w : World) (K : Int → World → Prop) : den Try.prog 81 (bodyOf Try.f65) none (.seq .leaf (.seq .leaf (.seq .leaf (.seq .leaf (.seq .leaf (.seq (.seq .leaf (.cond (.seq .leaf .leaf) .leaf)) (.seq (.seq .leaf (.cond (.seq .leaf .leaf) .leaf)) (.seq .leaf .leaf)))))))) (argEnv 0 [(Value.agg ⟨[(Value.int .i64 a0_0), (Value.int .i64 a0_1), (Value.int .i64 a0_2), (Value.int .i64 a0_3), (Value.int .i64 a0_4), (Value.int .i64 a0_5), (Value.int .i64 a0_6), (Value.bool a0_7), (Value.bool a0_8), (Value.slice a0_9.a a0_9.len a0_9.cap), (Value.slice a0_10.a a0_10.len a0_10.cap)]⟩)]) [] w (retK Try.prog [.tmp 2] [.one (.int .i64)] K) = s_v4_Check a0_0 a0_1 a0_2 a0_3 a0_4 a0_5 a0_6 a0_7 a0_8 a0_9 a0_10 w K := by kernel_rfl
theorem ok_v4_Check {a0_0 a0_1 a0_2 a0_3 a0_4 a0_5 a0_6 a0_7 a0_8 a0_9 a0_10 w K} (h : s_v4_Check a0_0 a0_1 a0_2 a0_3 a0_4 a0_5 a0_6 a0_7 a0_8 a0_9 a0_10 w K) : c_v4_Check a0_0 a0_1 a0_2 a0_3 a0_4 a0_5 a0_6 a0_7 a0_8 a0_9 a0_10 w K :=
  fn_sound pok Try.func65 (fn := Try.f65) (c := bodyOf Try.f65) (nt := 81) (by kernel_rfl) (by kernel_rfl) (rs := [.tmp 2]) (by kernel_rfl) [.one (.int .i64)] K (.seq .leaf (.seq .leaf (.seq .leaf (.seq .leaf (.seq .leaf (.seq (.seq .leaf (.cond (.seq .leaf .leaf) .leaf)) (.seq (.seq .leaf (.cond (.seq .leaf .leaf) .leaf)) (.seq .leaf .leaf)))))))) [(Value.agg ⟨[(Value.int .i64 a0_0), (Value.int .i64 a0_1), (Value.int .i64 a0_2), (Value.int .i64 a0_3), (Value.int .i64 a0_4), (Value.int .i64 a0_5), (Value.int .i64 a0_6), (Value.bool a0_7), (Value.bool a0_8), (Value.slice a0_9.a a0_9.len a0_9.cap), (Value.slice a0_10.a a0_10.len a0_10.cap)]⟩)] (by kernel_rfl) w ((e_v4_Check a0_0 a0_1 a0_2 a0_3 a0_4 a0_5 a0_6 a0_7 a0_8 a0_9 a0_10 w K).mpr h)

/-- goosepond/goosepondref01.Fits -/
def s_ref01_Fits (a0 : Int) (a1 : Int) (w : World) (K : Bool → World → Prop) : Prop :=
 (let J3 : Bool → World → Prop := fun j4 w5 =>
 (K j4 w5)
 (bif (decide (a1 ≥ 1)) then
 (bif (decide (a1 ≤ 4)) then
 (bif (decide (a0 ≥ 0)) then
 c_ref01_pow a1 w fun r6 w7 =>
 J3 (decide (a0 < r6)) w7
 else
 J3 false w)
 else
 J3 false w)
 else
 J3 false w))
theorem e_ref01_Fits (a0 : Int) (a1 : Int) (w : World) (K : Bool → World → Prop) : den Try.prog 21 (bodyOf Try.f66) none (.seq .leaf (.seq .leaf .leaf)) (argEnv 0 [(Value.int .i64 a0), (Value.int .i64 a1)]) [] w (retK Try.prog [.tmp 4] [.one .bool] K) = s_ref01_Fits a0 a1 w K := by kernel_rfl
theorem ok_ref01_Fits {a0 a1 w K} (h : s_ref01_Fits a0 a1 w K) : c_ref01_Fits a0 a1 w K :=
  fn_sound pok Try.func66 (fn := Try.f66) (c := bodyOf Try.f66) (nt := 21) (by kernel_rfl) (by kernel_rfl) (rs := [.tmp 4]) (by kernel_rfl) [.one .bool] K (.seq .leaf (.seq .leaf .leaf)) [(Value.int .i64 a0), (Value.int .i64 a1)] (by kernel_rfl) w ((e_ref01_Fits a0 a1 w K).mpr h)

/-- goosepond/goosepondref03.Right -/
def s_ref03_Right (a0 : Int) (w : World) (K : Bool → World → Prop) : Prop :=
 (let J2 : Bool → Prop := fun j3 =>
 (K j3 w)
 (bif (decide (a0 ≥ 0)) then
 J2 (decide (a0 < 4294967296))
 else
 J2 false))
theorem e_ref03_Right (a0 : Int) (w : World) (K : Bool → World → Prop) : den Try.prog 9 (bodyOf Try.f67) none (.seq .leaf (.seq .leaf .leaf)) (argEnv 0 [(Value.int .i64 a0)]) [] w (retK Try.prog [.tmp 2] [.one .bool] K) = s_ref03_Right a0 w K := by kernel_rfl
theorem ok_ref03_Right {a0 w K} (h : s_ref03_Right a0 w K) : c_ref03_Right a0 w K :=
  fn_sound pok Try.func67 (fn := Try.f67) (c := bodyOf Try.f67) (nt := 9) (by kernel_rfl) (by kernel_rfl) (rs := [.tmp 2]) (by kernel_rfl) [.one .bool] K (.seq .leaf (.seq .leaf .leaf)) [(Value.int .i64 a0)] (by kernel_rfl) w ((e_ref03_Right a0 w K).mpr h)

/-- goosepond/goosepondref02.Add -/
def s_ref02_Add (a0 : SliceV) (w : World) (K : Int → World → Prop) : Prop :=
 (LoopP (S := Int × Int × Unit) (fun s2 w3 next4 =>
 (bif (decide (s2.2.1 < (a0.len : Int))) then
 LoopP (S := Int × Int × Unit) (fun s5 w6 next7 =>
 AtIx a0 1 s2.2.1 fun a8 =>
 Ld .slice w6 a8 fun x9 =>
 (bif (decide (s5.2.1 < (x9.len : Int))) then
 AtIx a0 1 s2.2.1 fun a10 =>
 Ld .slice w6 a10 fun x11 =>
 c_ref01_Word x11 s5.2.1 w6 fun r12 w13 =>
 next7 ((IntKind.i64.wrap (s5.1 + r12)), (IntKind.i64.wrap (s5.2.1 + 2)), ()) w13
 else
 next4 (s5.1, (IntKind.i64.wrap (s2.2.1 + 1)), ()) w6)) (s2.1, 0, ()) w3
 else
 c_ref02_Fold s2.1 w3 fun r14 w15 =>
 K r14 w15)) (0, 0, ()) w)
theorem e_ref02_Add (a0 : SliceV) (w : World) (K : Int → World → Prop) : den Try.prog 31 (bodyOf Try.f68) none (.seq .leaf (.seq .leaf (.seq (.seq .leaf (.blk (.loop [(3, (.int .i64)), (4, (.int .i64))] (.seq (.seq .leaf (.cond .leaf .leaf)) (.seq (.blk (.seq .leaf (.blk (.loop [(3, (.int .i64)), (5, (.int .i64))] (.seq (.seq .leaf (.cond .leaf .leaf)) (.seq (.blk .leaf) .leaf)))))) .leaf))))) (.seq .leaf .leaf)))) (argEnv 0 [(Value.slice a0.a a0.len a0.cap)]) [] w (retK Try.prog [.tmp 2] [.one (.int .i64)] K) = s_ref02_Add a0 w K := by kernel_rfl
theorem ok_ref02_Add {a0 w K} (h : s_ref02_Add a0 w K) : c_ref02_Add a0 w K :=
  fn_sound pok Try.func68 (fn := Try.f68) (c := bodyOf Try.f68) (nt := 31) (by kernel_rfl) (by kernel_rfl) (rs := [.tmp 2]) (by kernel_rfl) [.one (.int .i64)] K (.seq .leaf (.seq .leaf (.seq (.seq .leaf (.blk (.loop [(3, (.int .i64)), (4, (.int .i64))] (.seq (.seq .leaf (.cond .leaf .leaf)) (.seq (.blk (.seq .leaf (.blk (.loop [(3, (.int .i64)), (5, (.int .i64))] (.seq (.seq .leaf (.cond .leaf .leaf)) (.seq (.blk .leaf) .leaf)))))) .leaf))))) (.seq .leaf .leaf)))) [(Value.slice a0.a a0.len a0.cap)] (by kernel_rfl) w ((e_ref02_Add a0 w K).mpr h)

/-- goosepond/goosepondref05.Head -/
def s_ref05_Head (a0_0 : Int) (a0_1 : Int) (a0_2 : Int) (a0_3 : Int) (a0_4 : Int) (a0_5 : Int) (a0_6 : Int) (a0_7 : Bool) (a0_8 : Bool) (a0_9 : SliceV) (a0_10 : SliceV) (w : World) (K : Int → World → Prop) : Prop :=
 (Al w (.cells ⟨[(Value.int .i64 a0_0), (Value.int .i64 a0_1), (Value.int .i64 a0_2), (Value.int .i64 a0_3), (Value.int .i64 a0_4), (Value.int .i64 a0_5), (Value.int .i64 a0_6), (Value.bool a0_7), (Value.bool a0_8), (Value.slice a0_9.a a0_9.len a0_9.cap), (Value.slice a0_10.a a0_10.len a0_10.cap)]⟩ 46) fun a3 w2 =>
 Ld .slice w2 (a3.add 9) fun x4 =>
 K (IntKind.i64.wrap (20 + (x4.len : Int))) w2)
theorem e_ref05_Head (a0_0 : Int) (a0_1 : Int) (a0_2 : Int) (a0_3 : Int) (a0_4 : Int) (a0_5 : Int) (a0_6 : Int) (a0_7 : Bool) (a0_8 : Bool) (a0_9 : SliceV) (a0_10 : SliceV) (w : World) (K : Int → World → Prop) : den Try.prog 7 (bodyOf Try.f69) none (.seq .leaf (.seq .leaf .leaf)) (argEnv 0 [(Value.agg ⟨[(Value.int .i64 a0_0), (Value.int .i64 a0_1), (Value.int .i64 a0_2), (Value.int .i64 a0_3), (Value.int .i64 a0_4), (Value.int .i64 a0_5), (Value.int .i64 a0_6), (Value.bool a0_7), (Value.bool a0_8), (Value.slice a0_9.a a0_9.len a0_9.cap), (Value.slice a0_10.a a0_10.len a0_10.cap)]⟩)]) [] w (retK Try.prog [.tmp 2] [.one (.int .i64)] K) = s_ref05_Head a0_0 a0_1 a0_2 a0_3 a0_4 a0_5 a0_6 a0_7 a0_8 a0_9 a0_10 w K := by kernel_rfl
theorem ok_ref05_Head {a0_0 a0_1 a0_2 a0_3 a0_4 a0_5 a0_6 a0_7 a0_8 a0_9 a0_10 w K} (h : s_ref05_Head a0_0 a0_1 a0_2 a0_3 a0_4 a0_5 a0_6 a0_7 a0_8 a0_9 a0_10 w K) : c_ref05_Head a0_0 a0_1 a0_2 a0_3 a0_4 a0_5 a0_6 a0_7 a0_8 a0_9 a0_10 w K :=
  fn_sound pok Try.func69 (fn := Try.f69) (c := bodyOf Try.f69) (nt := 7) (by kernel_rfl) (by kernel_rfl) (rs := [.tmp 2]) (by kernel_rfl) [.one (.int .i64)] K (.seq .leaf (.seq .leaf .leaf)) [(Value.agg ⟨[(Value.int .i64 a0_0), (Value.int .i64 a0_1), (Value.int .i64 a0_2), (Value.int .i64 a0_3), (Value.int .i64 a0_4), (Value.int .i64 a0_5), (Value.int .i64 a0_6), (Value.bool a0_7), (Value.bool a0_8), (Value.slice a0_9.a a0_9.len a0_9.cap), (Value.slice a0_10.a a0_10.len a0_10.cap)]⟩)] (by kernel_rfl) w ((e_ref05_Head a0_0 a0_1 a0_2 a0_3 a0_4 a0_5 a0_6 a0_7 a0_8 a0_9 a0_10 w K).mpr h)

/-- goosepond/goosepondref01.Put -/
def s_ref01_Put (a0 : SliceV) (a1 : Int) (a2 : Int) (w : World) (K : SliceV → World → Prop) : Prop :=
 (AppSl 5 1 1 [(Value.int .u8 0)] ⟨none, 0, 0⟩ a0 w fun s4 w5 =>
 c_ref01_Fits a1 a2 w5 fun r6 w7 =>
 (bif (!r6) then
 K s4 w7
 else
 LoopP (S := SliceV × Int × Unit) (fun s8 w9 next10 =>
 (bif (decide (s8.2.1 ≥ 0)) then
 c_ref01_pow s8.2.1 w9 fun r11 w12 =>
 r11 ≠ 0 ∧
 (256 : Int) ≠ 0 ∧
 Al w12 (.cells ⟨[(Value.int .u8 (IntKind.u8.wrap (Int.tmod (IntKind.i64.wrap (Int.tdiv a1 r11)) 256)))]⟩ 5) fun a14 w13 =>
 AppSl 5 1 1 [(Value.int .u8 0)] s8.1 ⟨(some a14), 1, 1⟩ w13 fun s15 w16 =>
 next10 (s15, (IntKind.i64.wrap (s8.2.1 - 1)), ()) w16
 else
 K s8.1 w9)) (s4, (IntKind.i64.wrap (a2 - 1)), ()) w7))
theorem e_ref01_Put (a0 : SliceV) (a1 : Int) (a2 : Int) (w : World) (K : SliceV → World → Prop) : den Try.prog 32 (bodyOf Try.f70) none (.seq .leaf (.seq .leaf (.seq (.seq .leaf (.cond (.seq .leaf .leaf) .leaf)) (.seq (.seq .leaf (.blk (.loop [(7, .slice), (8, (.int .i64))] (.seq (.seq .leaf (.cond .leaf .leaf)) (.seq (.blk .leaf) .leaf))))) (.seq .leaf .leaf))))) (argEnv 0 [(Value.slice a0.a a0.len a0.cap), (Value.int .i64 a1), (Value.int .i64 a2)]) [] w (retK Try.prog [.tmp 6] [.one .slice] K) = s_ref01_Put a0 a1 a2 w K := by kernel_rfl
theorem ok_ref01_Put {a0 a1 a2 w K} (h : s_ref01_Put a0 a1 a2 w K) : c_ref01_Put a0 a1 a2 w K :=
  fn_sound pok Try.func70 (fn := Try.f70) (c := bodyOf Try.f70) (nt := 32) (by kernel_rfl) (by kernel_rfl) (rs := [.tmp 6]) (by kernel_rfl) [.one .slice] K (.seq .leaf (.seq .leaf (.seq (.seq .leaf (.cond (.seq .leaf .leaf) .leaf)) (.seq (.seq .leaf (.blk (.loop [(7, .slice), (8, (.int .i64))] (.seq (.seq .leaf (.cond .leaf .leaf)) (.seq (.blk .leaf) .leaf))))) (.seq .leaf .leaf))))) [(Value.slice a0.a a0.len a0.cap), (Value.int .i64 a1), (Value.int .i64 a2)] (by kernel_rfl) w ((e_ref01_Put a0 a1 a2 w K).mpr h)

/-- goosepond/goosepondref05.read -/
def s_ref05_read (a0 : SliceV) (a1 : Bool) (w : World) (K : Int → Int → Int → Int → Int → Int → Int → Bool → Bool → SliceV → SliceV → Int → World → Prop) : Prop :=
 (Al w (.cells ⟨[(Value.int .i64 0), (Value.int .i64 0), (Value.int .i64 0), (Value.int .i64 0), (Value.int .i64 0), (Value.int .i64 0), (Value.int .i64 0), (Value.bool false), (Value.bool false), (Value.slice none 0 0), (Value.slice none 0 0)]⟩ 46) fun a4 w3 =>
 (bif (decide ((a0.len : Int) < 20)) then
 StN [(Value.int .i64 0), (Value.int .i64 0), (Value.int .i64 0), (Value.int .i64 0), (Value.int .i64 0), (Value.int .i64 0), (Value.int .i64 0), (Value.bool false), (Value.bool false), (Value.slice none 0 0), (Value.slice none 0 0)] w3 a4 0 fun w5 =>
 Ld (.int .i64) w5 (a4.add 0) fun y6 =>
 Ld (.int .i64) w5 (a4.add 1) fun y7 =>
 Ld (.int .i64) w5 (a4.add 2) fun y8 =>
 Ld (.int .i64) w5 (a4.add 3) fun y9 =>
 Ld (.int .i64) w5 (a4.add 4) fun y10 =>
 Ld (.int .i64) w5 (a4.add 5) fun y11 =>
 Ld (.int .i64) w5 (a4.add 6) fun y12 =>
 Ld .bool w5 (a4.add 7) fun y13 =>
 Ld .bool w5 (a4.add 8) fun y14 =>
 Ld .slice w5 (a4.add 9) fun y15 =>
 Ld .slice w5 (a4.add 10) fun y16 =>
 K y6 y7 y8 y9 y10 y11 y12 y13 y14 y15 y16 3 w5
 else
 AtIx a0 1 0 fun a17 =>
 Ld (.int .u8) w3.drew a17 fun x18 =>
 (16 : Int) ≠ 0 ∧
 c_ref05_num a0 2 2 w3.drew fun r19 w20 =>
 w20.cell? a17 = some (Value.int .u8 x18) ∧
 let J21 : Bool → Prop := fun j22 =>
 ((bif j22 then
 StN [(Value.int .i64 0), (Value.int .i64 0), (Value.int .i64 0), (Value.int .i64 0), (Value.int .i64 0), (Value.int .i64 0), (Value.int .i64 0), (Value.bool false), (Value.bool false), (Value.slice none 0 0), (Value.slice none 0 0)] w20 a4 0 fun w23 =>
 Ld (.int .i64) w23 (a4.add 0) fun y24 =>
 Ld (.int .i64) w23 (a4.add 1) fun y25 =>
 Ld (.int .i64) w23 (a4.add 2) fun y26 =>
 Ld (.int .i64) w23 (a4.add 3) fun y27 =>
 Ld (.int .i64) w23 (a4.add 4) fun y28 =>
 Ld (.int .i64) w23 (a4.add 5) fun y29 =>
 Ld (.int .i64) w23 (a4.add 6) fun y30 =>
 Ld .bool w23 (a4.add 7) fun y31 =>
 Ld .bool w23 (a4.add 8) fun y32 =>
 Ld .slice w23 (a4.add 9) fun y33 =>
 Ld .slice w23 (a4.add 10) fun y34 =>
 K y24 y25 y26 y27 y28 y29 y30 y31 y32 y33 y34 4 w23
 else
 let J35 : Bool → Prop := fun j36 =>
 ((bif j36 then
 StN [(Value.int .i64 0), (Value.int .i64 0), (Value.int .i64 0), (Value.int .i64 0), (Value.int .i64 0), (Value.int .i64 0), (Value.int .i64 0), (Value.bool false), (Value.bool false), (Value.slice none 0 0), (Value.slice none 0 0)] w20 a4 0 fun w37 =>
 Ld (.int .i64) w37 (a4.add 0) fun y38 =>
 Ld (.int .i64) w37 (a4.add 1) fun y39 =>
 Ld (.int .i64) w37 (a4.add 2) fun y40 =>
 Ld (.int .i64) w37 (a4.add 3) fun y41 =>
 Ld (.int .i64) w37 (a4.add 4) fun y42 =>
 Ld (.int .i64) w37 (a4.add 5) fun y43 =>
 Ld (.int .i64) w37 (a4.add 6) fun y44 =>
 Ld .bool w37 (a4.add 7) fun y45 =>
 Ld .bool w37 (a4.add 8) fun y46 =>
 Ld .slice w37 (a4.add 9) fun y47 =>
 Ld .slice w37 (a4.add 10) fun y48 =>
 K y38 y39 y40 y41 y42 y43 y44 y45 y46 y47 y48 3 w37
 else
 let J49 : Bool → World → Prop := fun j50 w51 =>
 ((bif j50 then
 StN [(Value.int .i64 0), (Value.int .i64 0), (Value.int .i64 0), (Value.int .i64 0), (Value.int .i64 0), (Value.int .i64 0), (Value.int .i64 0), (Value.bool false), (Value.bool false), (Value.slice none 0 0), (Value.slice none 0 0)] w51 a4 0 fun w52 =>
 Ld (.int .i64) w52 (a4.add 0) fun y53 =>
 Ld (.int .i64) w52 (a4.add 1) fun y54 =>
 Ld (.int .i64) w52 (a4.add 2) fun y55 =>
 Ld (.int .i64) w52 (a4.add 3) fun y56 =>
 Ld (.int .i64) w52 (a4.add 4) fun y57 =>
 Ld (.int .i64) w52 (a4.add 5) fun y58 =>
 Ld (.int .i64) w52 (a4.add 6) fun y59 =>
 Ld .bool w52 (a4.add 7) fun y60 =>
 Ld .bool w52 (a4.add 8) fun y61 =>
 Ld .slice w52 (a4.add 9) fun y62 =>
 Ld .slice w52 (a4.add 10) fun y63 =>
 K y53 y54 y55 y56 y57 y58 y59 y60 y61 y62 y63 4 w52
 else
 let J64 : Bool → World → Prop := fun j65 w66 =>
 ((bif j65 then
 StN [(Value.int .i64 0), (Value.int .i64 0), (Value.int .i64 0), (Value.int .i64 0), (Value.int .i64 0), (Value.int .i64 0), (Value.int .i64 0), (Value.bool false), (Value.bool false), (Value.slice none 0 0), (Value.slice none 0 0)] w66 a4 0 fun w67 =>
 Ld (.int .i64) w67 (a4.add 0) fun y68 =>
 Ld (.int .i64) w67 (a4.add 1) fun y69 =>
 Ld (.int .i64) w67 (a4.add 2) fun y70 =>
 Ld (.int .i64) w67 (a4.add 3) fun y71 =>
 Ld (.int .i64) w67 (a4.add 4) fun y72 =>
 Ld (.int .i64) w67 (a4.add 5) fun y73 =>
 Ld (.int .i64) w67 (a4.add 6) fun y74 =>
 Ld .bool w67 (a4.add 7) fun y75 =>
 Ld .bool w67 (a4.add 8) fun y76 =>
 Ld .slice w67 (a4.add 9) fun y77 =>
 Ld .slice w67 (a4.add 10) fun y78 =>
 K y68 y69 y70 y71 y72 y73 y74 y75 y76 y77 y78 5 w67
 else
 SubSl a0 1 (IntKind.i64.wrap ((IntKind.i64.wrap (Int.tmod x18 16)) * 4)) (if (a0.len : Int) < r19 then (a0.len : Int) else r19) fun s79 =>
 c_ref05_fields a0 s79 w66 fun r80 r81 r82 r83 r84 r85 r86 r87 r88 r89 r90 w91 =>
 Al w91 (.cells ⟨[(Value.int .i64 0), (Value.int .i64 0), (Value.int .i64 0), (Value.int .i64 0), (Value.int .i64 0), (Value.int .i64 0), (Value.int .i64 0), (Value.bool false), (Value.bool false), (Value.slice none 0 0), (Value.slice none 0 0)]⟩ 46) fun a93 w92 =>
 StN [(Value.int .i64 r80), (Value.int .i64 r81), (Value.int .i64 r82), (Value.int .i64 r83), (Value.int .i64 r84), (Value.int .i64 r85), (Value.int .i64 r86), (Value.bool r87), (Value.bool r88), (Value.slice r89.a r89.len r89.cap), (Value.slice r90.a r90.len r90.cap)] w92 a93 0 fun w94 =>
 let J95 : Bool → World → Prop := fun j96 w97 =>
 ((bif j96 then
 StN [(Value.int .i64 0), (Value.int .i64 0), (Value.int .i64 0), (Value.int .i64 0), (Value.int .i64 0), (Value.int .i64 0), (Value.int .i64 0), (Value.bool false), (Value.bool false), (Value.slice none 0 0), (Value.slice none 0 0)] w97 a4 0 fun w98 =>
 Ld (.int .i64) w98 (a4.add 0) fun y99 =>
 Ld (.int .i64) w98 (a4.add 1) fun y100 =>
 Ld (.int .i64) w98 (a4.add 2) fun y101 =>
 Ld (.int .i64) w98 (a4.add 3) fun y102 =>
 Ld (.int .i64) w98 (a4.add 4) fun y103 =>
 Ld (.int .i64) w98 (a4.add 5) fun y104 =>
 Ld (.int .i64) w98 (a4.add 6) fun y105 =>
 Ld .bool w98 (a4.add 7) fun y106 =>
 Ld .bool w98 (a4.add 8) fun y107 =>
 Ld .slice w98 (a4.add 9) fun y108 =>
 Ld .slice w98 (a4.add 10) fun y109 =>
 K y99 y100 y101 y102 y103 y104 y105 y106 y107 y108 y109 4 w98
 else
 Ld (.int .i64) w97 (a93.add 0) fun x110 =>
 Ld (.int .i64) w97 (a93.add 1) fun x111 =>
 Ld (.int .i64) w97 (a93.add 2) fun x112 =>
 Ld (.int .i64) w97 (a93.add 3) fun x113 =>
 Ld (.int .i64) w97 (a93.add 4) fun x114 =>
 Ld (.int .i64) w97 (a93.add 5) fun x115 =>
 Ld (.int .i64) w97 (a93.add 6) fun x116 =>
 Ld .bool w97 (a93.add 7) fun x117 =>
 Ld .bool w97 (a93.add 8) fun x118 =>
 Ld .slice w97 (a93.add 9) fun x119 =>
 Ld .slice w97 (a93.add 10) fun x120 =>
 StN [(Value.int .i64 x110), (Value.int .i64 x111), (Value.int .i64 x112), (Value.int .i64 x113), (Value.int .i64 x114), (Value.int .i64 x115), (Value.int .i64 x116), (Value.bool x117), (Value.bool x118), (Value.slice x119.a x119.len x119.cap), (Value.slice x120.a x120.len x120.cap)] w97 a4 0 fun w121 =>
 Ld (.int .i64) w121 (a4.add 0) fun y122 =>
 Ld (.int .i64) w121 (a4.add 1) fun y123 =>
 Ld (.int .i64) w121 (a4.add 2) fun y124 =>
 Ld (.int .i64) w121 (a4.add 3) fun y125 =>
 Ld (.int .i64) w121 (a4.add 4) fun y126 =>
 Ld (.int .i64) w121 (a4.add 5) fun y127 =>
 Ld (.int .i64) w121 (a4.add 6) fun y128 =>
 Ld .bool w121 (a4.add 7) fun y129 =>
 Ld .bool w121 (a4.add 8) fun y130 =>
 Ld .slice w121 (a4.add 9) fun y131 =>
 Ld .slice w121 (a4.add 10) fun y132 =>
 K y122 y123 y124 y125 y126 y127 y128 y129 y130 y131 y132 0 w121))
 (bif (!a1) then
 Ld (.int .i64) w94 (a93.add 0) fun x133 =>
 Ld (.int .i64) w94 (a93.add 1) fun x134 =>
 Ld (.int .i64) w94 (a93.add 2) fun x135 =>
 Ld (.int .i64) w94 (a93.add 3) fun x136 =>
 Ld (.int .i64) w94 (a93.add 4) fun x137 =>
 Ld (.int .i64) w94 (a93.add 5) fun x138 =>
 Ld (.int .i64) w94 (a93.add 6) fun x139 =>
 Ld .bool w94 (a93.add 7) fun x140 =>
 Ld .bool w94 (a93.add 8) fun x141 =>
 Ld .slice w94 (a93.add 9) fun x142 =>
 Ld .slice w94 (a93.add 10) fun x143 =>
 c_ref05_Check x133 x134 x135 x136 x137 x138 x139 x140 x141 x142 x143 w94 fun r144 w145 =>
 J95 (r144 != 0) w145
 else
 J95 false w94)))
 (bif (!a1) then
 SubSl a0 1 0 (IntKind.i64.wrap ((IntKind.i64.wrap (Int.tmod x18 16)) * 4)) fun s146 =>
 Al w51 (.cells ⟨[(Value.slice s146.a s146.len s146.cap)]⟩ 30) fun a148 w147 =>
 c_ref02_Right ⟨(some a148), 1, 1⟩ w147 fun r149 w150 =>
 J64 (!r149) w150
 else
 J64 false w51)))
 (bif (decide (r19 < (IntKind.i64.wrap ((IntKind.i64.wrap (Int.tmod x18 16)) * 4)))) then
 J49 true w20
 else
 c_ref05_num a0 6 2 w20 fun r151 w152 =>
 J49 (decide (r151 ≥ 32768)) w152)))
 (bif (decide ((IntKind.i64.wrap ((IntKind.i64.wrap (Int.tmod x18 16)) * 4)) > (a0.len : Int))) then
 J35 true
 else
 (bif (!a1) then
 J35 (decide (r19 > (a0.len : Int)))
 else
 J35 false))))
 AtIx a0 1 0 fun a153 =>
 Ld (.int .u8) w20 a153 fun x154 =>
 (16 : Int) ≠ 0 ∧
 (bif ((IntKind.u8.wrap (Int.tdiv x154 16)) != 4) then
 J21 true
 else
 J21 (decide ((IntKind.i64.wrap ((IntKind.i64.wrap (Int.tmod x18 16)) * 4)) < 20)))))
theorem e_ref05_read (a0 : SliceV) (a1 : Bool) (w : World) (K : Int → Int → Int → Int → Int → Int → Int → Bool → Bool → SliceV → SliceV → Int → World → Prop) : den Try.prog 88 (bodyOf Try.f73) none (.seq .leaf (.seq (.seq .leaf (.cond (.seq .leaf .leaf) .leaf)) (.seq .leaf (.seq (.blk (.seq .leaf (.cond (.seq .leaf .leaf) (.seq .leaf (.cond (.seq .leaf .leaf) (.seq .leaf (.cond (.seq .leaf .leaf) (.seq .leaf (.cond (.seq .leaf .leaf) .leaf))))))))) (.seq .leaf (.seq (.seq .leaf (.cond (.seq .leaf .leaf) .leaf)) (.seq .leaf .leaf))))))) (argEnv 0 [(Value.slice a0.a a0.len a0.cap), (Value.bool a1)]) [] w (retK Try.prog [.cell 4 46, .tmp 5] [.agg [(.int .i64), (.int .i64), (.int .i64), (.int .i64), (.int .i64), (.int .i64), (.int .i64), .bool, .bool, .slice, .slice], .one (.int .i64)] K) = s_ref05_read a0 a1 w K := by kernel_rfl
theorem ok_ref05_read {a0 a1 w K} (h : s_ref05_read a0 a1 w K) : c_ref05_read a0 a1 w K :=
  fn_sound pok Try.func73 (fn := Try.f73) (c := bodyOf Try.f73) (nt := 88) (by kernel_rfl) (by kernel_rfl) (rs := [.cell 4 46, .tmp 5]) (by kernel_rfl) [.agg [(.int .i64), (.int .i64), (.int .i64), (.int .i64), (.int .i64), (.int .i64), (.int .i64), .bool, .bool, .slice, .slice], .one (.int .i64)] K (.seq .leaf (.seq (.seq .leaf (.cond (.seq .leaf .leaf) .leaf)) (.seq .leaf (.seq (.blk (.seq .leaf (.cond (.seq .leaf .leaf) (.seq .leaf (.cond (.seq .leaf .leaf) (.seq .leaf (.cond (.seq .leaf .leaf) (.seq .leaf (.cond (.seq .leaf .leaf) .leaf))))))))) (.seq .leaf (.seq (.seq .leaf (.cond (.seq .leaf .leaf) .leaf)) (.seq .leaf .leaf))))))) [(Value.slice a0.a a0.len a0.cap), (Value.bool a1)] (by kernel_rfl) w ((e_ref05_read a0 a1 w K).mpr h)

/-- goosepond/goosepondref28.May -/
def s_ref28_May (a0 : SliceV) (w : World) (K : Bool → World → Prop) : Prop :=
 (c_ref05_Quoted a0 w fun r2 r3 r4 r5 r6 r7 r8 r9 r10 r11 r12 r13 w14 =>
 Al w14 (.cells ⟨[(Value.int .i64 0), (Value.int .i64 0), (Value.int .i64 0), (Value.int .i64 0), (Value.int .i64 0), (Value.int .i64 0), (Value.int .i64 0), (Value.bool false), (Value.bool false), (Value.slice none 0 0), (Value.slice none 0 0)]⟩ 46) fun a16 w15 =>
 StN [(Value.int .i64 r2), (Value.int .i64 r3), (Value.int .i64 r4), (Value.int .i64 r5), (Value.int .i64 r6), (Value.int .i64 r7), (Value.int .i64 r8), (Value.bool r9), (Value.bool r10), (Value.slice r11.a r11.len r11.cap), (Value.slice r12.a r12.len r12.cap)] w15 a16 0 fun w17 =>
 let J18 : Bool → World → Prop := fun j19 w20 =>
 ((bif j19 then
 K false w20
 else
 let J21 : Bool → World → Prop := fun j22 w23 =>
 (K j22 w23)
 Ld (.int .i64) w20 (a16.add 4) fun x24 =>
 (bif (x24 != 1) then
 J21 true w20
 else
 Ld .slice w20 (a16.add 10) fun x25 =>
 (bif (decide ((x25.len : Int) > 0)) then
 Ld .slice w20 (a16.add 10) fun x26 =>
 AtIx x26 1 0 fun a27 =>
 Ld (.int .u8) w20 a27 fun x28 =>
 c_ref09_Fault (IntKind.i64.wrap x28) w20 fun r29 w30 =>
 J21 (!r29) w30
 else
 J21 false w20))))
 (bif (r13 != 0) then
 J18 true w17
 else
 Ld (.int .i64) w17 (a16.add 2) fun x31 =>
 (bif (decide (x31 > 0)) then
 J18 true w17
 else
 Ld (.int .i64) w17 (a16.add 5) fun x32 =>
 c_ref03_Host x32 w17 fun r33 w34 =>
 (bif (!r33) then
 J18 true w34
 else
 Ld (.int .i64) w34 (a16.add 6) fun x35 =>
 c_ref03_Host x35 w34 fun r36 w37 =>
 J18 (!r36) w37))))
theorem e_ref28_May (a0 : SliceV) (w : World) (K : Bool → World → Prop) : den Try.prog 47 (bodyOf Try.f74) none (.seq .leaf (.seq .leaf (.seq (.seq .leaf (.cond (.seq .leaf .leaf) .leaf)) (.seq .leaf .leaf)))) (argEnv 0 [(Value.slice a0.a a0.len a0.cap)]) [] w (retK Try.prog [.tmp 2] [.one .bool] K) = s_ref28_May a0 w K := by kernel_rfl
theorem ok_ref28_May {a0 w K} (h : s_ref28_May a0 w K) : c_ref28_May a0 w K :=
  fn_sound pok Try.func74 (fn := Try.f74) (c := bodyOf Try.f74) (nt := 47) (by kernel_rfl) (by kernel_rfl) (rs := [.tmp 2]) (by kernel_rfl) [.one .bool] K (.seq .leaf (.seq .leaf (.seq (.seq .leaf (.cond (.seq .leaf .leaf) .leaf)) (.seq .leaf .leaf)))) [(Value.slice a0.a a0.len a0.cap)] (by kernel_rfl) w ((e_ref28_May a0 w K).mpr h)

/-- goosepond/goosepondref09.Build -/
def s_ref09_Build (a0_0 : Int) (a0_1 : Int) (a0_2 : Int) (a0_3 : SliceV) (w : World) (K : SliceV → Int → World → Prop) : Prop :=
 (Al w (.cells ⟨[(Value.int .i64 a0_0), (Value.int .i64 a0_1), (Value.int .i64 a0_2), (Value.slice a0_3.a a0_3.len a0_3.cap)]⟩ 44) fun a3 w2 =>
 Ld (.int .i64) w2 (a3.add 0) fun x4 =>
 Ld (.int .i64) w2 (a3.add 1) fun x5 =>
 Ld (.int .i64) w2 (a3.add 2) fun x6 =>
 Ld .slice w2 (a3.add 3) fun x7 =>
 c_ref09_Check x4 x5 x6 x7 w2 fun r8 w9 =>
 (bif (r8 != 0) then
 K ⟨none, 0, 0⟩ r8 w9
 else
 Ld (.int .i64) w9.drew (a3.add 0) fun x10 =>
 Ld (.int .i64) w9.drew (a3.add 1) fun x11 =>
 Ld (.int .i64) w9.drew (a3.add 2) fun x12 =>
 Ld .slice w9.drew (a3.add 3) fun x13 =>
 Ld (.int .i64) w9.drew (a3.add 0) fun x14 =>
 Ld (.int .i64) w9.drew (a3.add 1) fun x15 =>
 Ld (.int .i64) w9.drew (a3.add 2) fun x16 =>
 Ld .slice w9.drew (a3.add 3) fun x17 =>
 c_ref09_Bytes x14 x15 x16 x17 0 w9.drew fun r18 w19 =>
 w19.cell? (a3.add 0) = some (Value.int .i64 x10) ∧
 w19.cell? (a3.add 1) = some (Value.int .i64 x11) ∧
 w19.cell? (a3.add 2) = some (Value.int .i64 x12) ∧
 w19.cell? (a3.add 3) = some (Value.slice x13.a x13.len x13.cap) ∧
 Al w19 (.cells ⟨[(Value.slice r18.a r18.len r18.cap)]⟩ 30) fun a21 w20 =>
 w20.cell? (a3.add 0) = some (Value.int .i64 x10) ∧
 w20.cell? (a3.add 1) = some (Value.int .i64 x11) ∧
 w20.cell? (a3.add 2) = some (Value.int .i64 x12) ∧
 w20.cell? (a3.add 3) = some (Value.slice x13.a x13.len x13.cap) ∧
 c_ref02_Of ⟨(some a21), 1, 1⟩ w20 fun r22 w23 =>
 w23.cell? (a3.add 0) = some (Value.int .i64 x10) ∧
 w23.cell? (a3.add 1) = some (Value.int .i64 x11) ∧
 w23.cell? (a3.add 2) = some (Value.int .i64 x12) ∧
 w23.cell? (a3.add 3) = some (Value.slice x13.a x13.len x13.cap) ∧
 c_ref09_Bytes x10 x11 x12 x13 r22 w23 fun r24 w25 =>
 K r24 0 w25))
theorem e_ref09_Build (a0_0 : Int) (a0_1 : Int) (a0_2 : Int) (a0_3 : SliceV) (w : World) (K : SliceV → Int → World → Prop) : den Try.prog 16 (bodyOf Try.f75) none (.seq .leaf (.seq (.seq .leaf (.seq .leaf (.cond (.seq .leaf .leaf) .leaf))) (.seq .leaf .leaf))) (argEnv 0 [(Value.agg ⟨[(Value.int .i64 a0_0), (Value.int .i64 a0_1), (Value.int .i64 a0_2), (Value.slice a0_3.a a0_3.len a0_3.cap)]⟩)]) [] w (retK Try.prog [.tmp 2, .tmp 3] [.one .slice, .one (.int .i64)] K) = s_ref09_Build a0_0 a0_1 a0_2 a0_3 w K := by kernel_rfl
theorem ok_ref09_Build {a0_0 a0_1 a0_2 a0_3 w K} (h : s_ref09_Build a0_0 a0_1 a0_2 a0_3 w K) : c_ref09_Build a0_0 a0_1 a0_2 a0_3 w K :=
  fn_sound pok Try.func75 (fn := Try.f75) (c := bodyOf Try.f75) (nt := 16) (by kernel_rfl) (by kernel_rfl) (rs := [.tmp 2, .tmp 3]) (by kernel_rfl) [.one .slice, .one (.int .i64)] K (.seq .leaf (.seq (.seq .leaf (.seq .leaf (.cond (.seq .leaf .leaf) .leaf))) (.seq .leaf .leaf))) [(Value.agg ⟨[(Value.int .i64 a0_0), (Value.int .i64 a0_1), (Value.int .i64 a0_2), (Value.slice a0_3.a a0_3.len a0_3.cap)]⟩)] (by kernel_rfl) w ((e_ref09_Build a0_0 a0_1 a0_2 a0_3 w K).mpr h)

/-- goosepond/goosepondref07.mod -/
def s_ref07_mod (a0 : Int) (a1 : Int) (w : World) (K : Int → World → Prop) : Prop :=
 (a1 ≠ 0 ∧
 a1 ≠ 0 ∧
 K (Int.tmod (IntKind.i64.wrap ((Int.tmod a0 a1) + a1)) a1) w)
theorem e_ref07_mod (a0 : Int) (a1 : Int) (w : World) (K : Int → World → Prop) : den Try.prog 12 (bodyOf Try.f85) none (.seq .leaf (.seq .leaf .leaf)) (argEnv 0 [(Value.int .i64 a0), (Value.int .i64 a1)]) [] w (retK Try.prog [.tmp 4] [.one (.int .i64)] K) = s_ref07_mod a0 a1 w K := by kernel_rfl
theorem ok_ref07_mod {a0 a1 w K} (h : s_ref07_mod a0 a1 w K) : c_ref07_mod a0 a1 w K :=
  fn_sound pok Try.func85 (fn := Try.f85) (c := bodyOf Try.f85) (nt := 12) (by kernel_rfl) (by kernel_rfl) (rs := [.tmp 4]) (by kernel_rfl) [.one (.int .i64)] K (.seq .leaf (.seq .leaf .leaf)) [(Value.int .i64 a0), (Value.int .i64 a1)] (by kernel_rfl) w ((e_ref07_mod a0 a1 w K).mpr h)

/-- goosepond/be.right -/
def s_be_right (a0 : Int) (w : World) (K : Bool → World → Prop) : Prop :=
 (let J2 : Bool → Prop := fun j3 =>
 (K j3 w)
 (bif (decide (a0 ≥ 1)) then
 J2 (decide (a0 ≤ 4))
 else
 J2 false))
theorem e_be_right (a0 : Int) (w : World) (K : Bool → World → Prop) : den Try.prog 9 (bodyOf Try.f86) none (.seq .leaf (.seq .leaf .leaf)) (argEnv 0 [(Value.int .i64 a0)]) [] w (retK Try.prog [.tmp 2] [.one .bool] K) = s_be_right a0 w K := by kernel_rfl
theorem ok_be_right {a0 w K} (h : s_be_right a0 w K) : c_be_right a0 w K :=
  fn_sound pok Try.func86 (fn := Try.f86) (c := bodyOf Try.f86) (nt := 9) (by kernel_rfl) (by kernel_rfl) (rs := [.tmp 2]) (by kernel_rfl) [.one .bool] K (.seq .leaf (.seq .leaf .leaf)) [(Value.int .i64 a0)] (by kernel_rfl) w ((e_be_right a0 w K).mpr h)

/-- goosepond/be.digits$1 -/
def s_be_digits_1 (a0 : Value) (f0 : Addr) (f1 : Addr) (w : World) (K : World → Prop) : Prop :=
 (Ld (.int .i64) w f0 fun x2 =>
 LoopP (S := Int × Unit) (fun s3 w4 next5 =>
 (bif (decide (s3.1 ≥ 0)) then
 Ld (.int .i64) w4 f1 fun x6 =>
 0 ≤ (IntKind.i64.wrap (8 * s3.1)) ∧
 CallV Try.prog [.one .bool] a0 [(Value.int .u8 (IntKind.u8.wrap (shrI .i64 x6 (IntKind.i64.wrap (8 * s3.1)))))] w4 fun r7 w8 =>
 ∃ r9 : Bool, r7 = (Value.bool r9) ∧
 (bif (!r9) then
 K w8
 else
 next5 ((IntKind.i64.wrap (s3.1 - 1)), ()) w8)
 else
 K w4)) ((IntKind.i64.wrap (x2 - 1)), ()) w)
theorem e_be_digits_1 (a0 : Value) (f0 : Addr) (f1 : Addr) (w : World) (K : World → Prop) : den Try.prog 19 (bodyOf Try.f87) none (.seq .leaf (.blk (.loop [(4, (.int .i64))] (.seq (.seq .leaf (.cond .leaf .leaf)) (.seq (.blk (.seq .leaf (.cond .leaf .leaf))) .leaf))))) (argEnv 0 [a0, (Value.pointer (some f0)), (Value.pointer (some f1))]) [] w (retK Try.prog [] [] K) = s_be_digits_1 a0 f0 f1 w K := by kernel_rfl
theorem ok_be_digits_1 {a0 f0 f1 w K} (h : s_be_digits_1 a0 f0 f1 w K) : c_be_digits_1 a0 f0 f1 w K :=
  fn_sound pok Try.func87 (fn := Try.f87) (c := bodyOf Try.f87) (nt := 19) (by kernel_rfl) (by kernel_rfl) (rs := []) (by kernel_rfl) [] K (.seq .leaf (.blk (.loop [(4, (.int .i64))] (.seq (.seq .leaf (.cond .leaf .leaf)) (.seq (.blk (.seq .leaf (.cond .leaf .leaf))) .leaf))))) [a0, (Value.pointer (some f0)), (Value.pointer (some f1))] (by kernel_rfl) w ((e_be_digits_1 a0 f0 f1 w K).mpr h)

/-- goosepond/v4.open -/
def s_v4_open (a0 : SliceV) (a1 : Bool) (w : World) (K : SliceV → Int → Int → Int → World → Prop) : Prop :=
 (Al w (.cells ⟨[(Value.slice none 0 0), (Value.int .i64 0), (Value.int .i64 0)]⟩ 141) fun a4 w3 =>
 (bif (decide ((a0.len : Int) < 20)) then
 StN [(Value.slice none 0 0), (Value.int .i64 0), (Value.int .i64 0)] w3 a4 0 fun w5 =>
 Ld .slice w5 (a4.add 0) fun y6 =>
 Ld (.int .i64) w5 (a4.add 1) fun y7 =>
 Ld (.int .i64) w5 (a4.add 2) fun y8 =>
 K y6 y7 y8 3 w5
 else
 AtIx a0 1 0 fun a9 =>
 Ld (.int .u8) w3 a9 fun x10 =>
 Al w3 (.cells ⟨[(Value.slice none 0 0), (Value.int .i64 0), (Value.int .i64 0)]⟩ 141) fun a12 w11 =>
 StN [(Value.slice a0.a a0.len a0.cap), (Value.int .i64 (IntKind.i64.wrap ((IntKind.i64.wrap (andI .u8 x10 15)) * 4))), (Value.int .i64 0)] w11 a12 0 fun w13 =>
 Ld .slice w13 (a12.add 0) fun x14 =>
 Ld (.int .i64) w13 (a12.add 1) fun x15 =>
 Ld (.int .i64) w13 (a12.add 2) fun x16 =>
 c_v4_reader_num x14 x15 x16 2 2 w13 fun r17 w18 =>
 St w18 (a12.add 2) (Value.int .i64 r17) fun w19 =>
 let J20 : Bool → Prop := fun j21 =>
 ((bif j21 then
 StN [(Value.slice none 0 0), (Value.int .i64 0), (Value.int .i64 0)] w19 a4 0 fun w22 =>
 Ld .slice w22 (a4.add 0) fun y23 =>
 Ld (.int .i64) w22 (a4.add 1) fun y24 =>
 Ld (.int .i64) w22 (a4.add 2) fun y25 =>
 K y23 y24 y25 4 w22
 else
 let J26 : Bool → Prop := fun j27 =>
 ((bif j27 then
 StN [(Value.slice none 0 0), (Value.int .i64 0), (Value.int .i64 0)] w19 a4 0 fun w28 =>
 Ld .slice w28 (a4.add 0) fun y29 =>
 Ld (.int .i64) w28 (a4.add 1) fun y30 =>
 Ld (.int .i64) w28 (a4.add 2) fun y31 =>
 K y29 y30 y31 3 w28
 else
 let J32 : Bool → World → Prop := fun j33 w34 =>
 ((bif j33 then
 StN [(Value.slice none 0 0), (Value.int .i64 0), (Value.int .i64 0)] w34 a4 0 fun w35 =>
 Ld .slice w35 (a4.add 0) fun y36 =>
 Ld (.int .i64) w35 (a4.add 1) fun y37 =>
 Ld (.int .i64) w35 (a4.add 2) fun y38 =>
 K y36 y37 y38 4 w35
 else
 Ld .slice w34 (a12.add 0) fun x39 =>
 Ld (.int .i64) w34 (a12.add 1) fun x40 =>
 Ld (.int .i64) w34 (a12.add 2) fun x41 =>
 StN [(Value.slice x39.a x39.len x39.cap), (Value.int .i64 x40), (Value.int .i64 x41)] w34 a4 0 fun w42 =>
 Ld .slice w42 (a4.add 0) fun y43 =>
 Ld (.int .i64) w42 (a4.add 1) fun y44 =>
 Ld (.int .i64) w42 (a4.add 2) fun y45 =>
 K y43 y44 y45 0 w42))
 Ld (.int .i64) w19 (a12.add 2) fun x46 =>
 Ld (.int .i64) w19 (a12.add 1) fun x47 =>
 (bif (decide (x46 < x47)) then
 J32 (decide (x46 < x47)) w19
 else
 Ld .slice w19 (a12.add 0) fun x48 =>
 Ld (.int .i64) w19 (a12.add 1) fun x49 =>
 Ld (.int .i64) w19 (a12.add 2) fun x50 =>
 c_v4_reader_num x48 x49 x50 6 2 w19 fun r51 w52 =>
 J32 ((andI .i64 r51 32768) != 0) w52)))
 Ld (.int .i64) w19 (a12.add 1) fun x53 =>
 (bif (decide (x53 > (a0.len : Int))) then
 J26 (decide (x53 > (a0.len : Int)))
 else
 Ld (.int .i64) w19 (a12.add 2) fun x54 =>
 (bif (decide (x54 > (a0.len : Int))) then
 J26 (!a1)
 else
 J26 false))))
 AtIx a0 1 0 fun a55 =>
 Ld (.int .u8) w19 a55 fun x56 =>
 0 ≤ (4 : Int) ∧
 (bif ((shrI .u8 x56 4) != 4) then
 J20 ((shrI .u8 x56 4) != 4)
 else
 Ld (.int .i64) w19 (a12.add 1) fun x57 =>
 J20 (decide (x57 < 20)))))
theorem e_v4_open (a0 : SliceV) (a1 : Bool) (w : World) (K : SliceV → Int → Int → Int → World → Prop) : den Try.prog 60 (bodyOf Try.f90) none (.seq .leaf (.seq (.seq .leaf (.cond (.seq .leaf .leaf) .leaf)) (.seq .leaf (.seq .leaf (.seq (.blk (.seq (.seq .leaf (.cond .leaf .leaf)) (.cond (.seq .leaf .leaf) (.seq (.seq .leaf (.cond .leaf .leaf)) (.cond (.seq .leaf .leaf) (.seq (.seq .leaf (.cond .leaf .leaf)) (.cond (.seq .leaf .leaf) .leaf))))))) (.seq .leaf .leaf)))))) (argEnv 0 [(Value.slice a0.a a0.len a0.cap), (Value.bool a1)]) [] w (retK Try.prog [.cell 4 141, .tmp 5] [.agg [.slice, (.int .i64), (.int .i64)], .one (.int .i64)] K) = s_v4_open a0 a1 w K := by kernel_rfl
theorem ok_v4_open {a0 a1 w K} (h : s_v4_open a0 a1 w K) : c_v4_open a0 a1 w K :=
  fn_sound pok Try.func90 (fn := Try.f90) (c := bodyOf Try.f90) (nt := 60) (by kernel_rfl) (by kernel_rfl) (rs := [.cell 4 141, .tmp 5]) (by kernel_rfl) [.agg [.slice, (.int .i64), (.int .i64)], .one (.int .i64)] K (.seq .leaf (.seq (.seq .leaf (.cond (.seq .leaf .leaf) .leaf)) (.seq .leaf (.seq .leaf (.seq (.blk (.seq (.seq .leaf (.cond .leaf .leaf)) (.cond (.seq .leaf .leaf) (.seq (.seq .leaf (.cond .leaf .leaf)) (.cond (.seq .leaf .leaf) (.seq (.seq .leaf (.cond .leaf .leaf)) (.cond (.seq .leaf .leaf) .leaf))))))) (.seq .leaf .leaf)))))) [(Value.slice a0.a a0.len a0.cap), (Value.bool a1)] (by kernel_rfl) w ((e_v4_open a0 a1 w K).mpr h)

/-- (goosepond/v4.reader).packet -/
def s_v4_reader_packet (a0_0 : SliceV) (a0_1 : Int) (a0_2 : Int) (w : World) (K : Int → Int → Int → Int → Int → Int → Int → Bool → Bool → SliceV → SliceV → World → Prop) : Prop :=
 (Al w (.cells ⟨[(Value.slice a0_0.a a0_0.len a0_0.cap), (Value.int .i64 a0_1), (Value.int .i64 a0_2)]⟩ 141) fun a3 w2 =>
 Al w2 (.cells ⟨[(Value.int .i64 0), (Value.int .i64 0), (Value.int .i64 0), (Value.int .i64 0), (Value.int .i64 0), (Value.int .i64 0), (Value.int .i64 0), (Value.bool false), (Value.bool false), (Value.slice none 0 0), (Value.slice none 0 0)]⟩ 46) fun a5 w4 =>
 Ld .slice w4 (a3.add 0) fun x6 =>
 Ld (.int .i64) w4 (a3.add 1) fun x7 =>
 Ld (.int .i64) w4 (a3.add 2) fun x8 =>
 c_v4_reader_num x6 x7 x8 6 2 w4 fun r9 w10 =>
 let J11 : Addr → World → Prop := fun j12 w13 =>
 (St w13 (j12.add 2) (Value.int .i64 (IntKind.i64.wrap ((andI .i64 r9 8191) * 8))) fun w14 =>
 St w14 (j12.add 7) (Value.bool ((andI .i64 r9 16384) != 0)) fun w15 =>
 St w15 (j12.add 8) (Value.bool ((andI .i64 r9 8192) != 0)) fun w16 =>
 Ld .slice w16 a3 fun x17 =>
 Ld (.int .i64) w16 (a3.add 1) fun x18 =>
 SubSl x17 1 20 x18 fun s19 =>
 c_slices_Clone_byte_byte s19 w16 fun r20 w21 =>
 St w21 (j12.add 9) (Value.slice r20.a r20.len r20.cap) fun w22 =>
 Ld .slice w22 a3 fun x23 =>
 Ld (.int .i64) w22 (a3.add 1) fun x24 =>
 Ld (.int .i64) w22 (a3.add 2) fun x25 =>
 Ld .slice w22 a3 fun x26 =>
 SubSl x23 1 x24 (if (x26.len : Int) < x25 then (x26.len : Int) else x25) fun s27 =>
 c_slices_Clone_byte_byte s27 w22 fun r28 w29 =>
 St w29 (j12.add 10) (Value.slice r28.a r28.len r28.cap) fun w30 =>
 Ld (.int .i64) w30 (j12.add 0) fun x31 =>
 Ld (.int .i64) w30 (j12.add 1) fun x32 =>
 Ld (.int .i64) w30 (j12.add 2) fun x33 =>
 Ld (.int .i64) w30 (j12.add 3) fun x34 =>
 Ld (.int .i64) w30 (j12.add 4) fun x35 =>
 Ld (.int .i64) w30 (j12.add 5) fun x36 =>
 Ld (.int .i64) w30 (j12.add 6) fun x37 =>
 Ld .bool w30 (j12.add 7) fun x38 =>
 Ld .bool w30 (j12.add 8) fun x39 =>
 Ld .slice w30 (j12.add 9) fun x40 =>
 Ld .slice w30 (j12.add 10) fun x41 =>
 StN [(Value.int .i64 x31), (Value.int .i64 x32), (Value.int .i64 x33), (Value.int .i64 x34), (Value.int .i64 x35), (Value.int .i64 x36), (Value.int .i64 x37), (Value.bool x38), (Value.bool x39), (Value.slice x40.a x40.len x40.cap), (Value.slice x41.a x41.len x41.cap)] w30 a5 0 fun w42 =>
 Ld (.int .i64) w42 (a5.add 0) fun y43 =>
 Ld (.int .i64) w42 (a5.add 1) fun y44 =>
 Ld (.int .i64) w42 (a5.add 2) fun y45 =>
 Ld (.int .i64) w42 (a5.add 3) fun y46 =>
 Ld (.int .i64) w42 (a5.add 4) fun y47 =>
 Ld (.int .i64) w42 (a5.add 5) fun y48 =>
 Ld (.int .i64) w42 (a5.add 6) fun y49 =>
 Ld .bool w42 (a5.add 7) fun y50 =>
 Ld .bool w42 (a5.add 8) fun y51 =>
 Ld .slice w42 (a5.add 9) fun y52 =>
 Ld .slice w42 (a5.add 10) fun y53 =>
 K y43 y44 y45 y46 y47 y48 y49 y50 y51 y52 y53 w42)
 Ld .slice w10.drew (a3.add 0) fun x54 =>
 Ld (.int .i64) w10.drew (a3.add 1) fun x55 =>
 Ld (.int .i64) w10.drew (a3.add 2) fun x56 =>
 Ld .slice w10.drew (a3.add 0) fun x57 =>
 Ld (.int .i64) w10.drew (a3.add 1) fun x58 =>
 Ld (.int .i64) w10.drew (a3.add 2) fun x59 =>
 Ld .slice w10.drew (a3.add 0) fun x60 =>
 Ld (.int .i64) w10.drew (a3.add 1) fun x61 =>
 Ld (.int .i64) w10.drew (a3.add 2) fun x62 =>
 Ld .slice w10.drew (a3.add 0) fun x63 =>
 Ld (.int .i64) w10.drew (a3.add 1) fun x64 =>
 Ld (.int .i64) w10.drew (a3.add 2) fun x65 =>
 Ld .slice w10.drew (a3.add 0) fun x66 =>
 Ld (.int .i64) w10.drew (a3.add 1) fun x67 =>
 Ld (.int .i64) w10.drew (a3.add 2) fun x68 =>
 Ld .slice w10.drew (a3.add 0) fun x69 =>
 Ld (.int .i64) w10.drew (a3.add 1) fun x70 =>
 Ld (.int .i64) w10.drew (a3.add 2) fun x71 =>
 (c_v4_reader_num x54 x55 x56 1 1 w10.drew fun r72 w73 =>
 w73.cell? (a3.add 0) = some (Value.slice x69.a x69.len x69.cap) ∧
 w73.cell? (a3.add 1) = some (Value.int .i64 x70) ∧
 w73.cell? (a3.add 2) = some (Value.int .i64 x71) ∧
 w73.cell? (a3.add 0) = some (Value.slice x66.a x66.len x66.cap) ∧
 w73.cell? (a3.add 1) = some (Value.int .i64 x67) ∧
 w73.cell? (a3.add 2) = some (Value.int .i64 x68) ∧
 w73.cell? (a3.add 0) = some (Value.slice x63.a x63.len x63.cap) ∧
 w73.cell? (a3.add 1) = some (Value.int .i64 x64) ∧
 w73.cell? (a3.add 2) = some (Value.int .i64 x65) ∧
 w73.cell? (a3.add 0) = some (Value.slice x60.a x60.len x60.cap) ∧
 w73.cell? (a3.add 1) = some (Value.int .i64 x61) ∧
 w73.cell? (a3.add 2) = some (Value.int .i64 x62) ∧
 w73.cell? (a3.add 0) = some (Value.slice x57.a x57.len x57.cap) ∧
 w73.cell? (a3.add 1) = some (Value.int .i64 x58) ∧
 w73.cell? (a3.add 2) = some (Value.int .i64 x59) ∧
 (c_v4_reader_num x57 x58 x59 4 2 w73 fun r74 w75 =>
 w75.cell? (a3.add 0) = some (Value.slice x69.a x69.len x69.cap) ∧
 w75.cell? (a3.add 1) = some (Value.int .i64 x70) ∧
 w75.cell? (a3.add 2) = some (Value.int .i64 x71) ∧
 w75.cell? (a3.add 0) = some (Value.slice x66.a x66.len x66.cap) ∧
 w75.cell? (a3.add 1) = some (Value.int .i64 x67) ∧
 w75.cell? (a3.add 2) = some (Value.int .i64 x68) ∧
 w75.cell? (a3.add 0) = some (Value.slice x63.a x63.len x63.cap) ∧
 w75.cell? (a3.add 1) = some (Value.int .i64 x64) ∧
 w75.cell? (a3.add 2) = some (Value.int .i64 x65) ∧
 w75.cell? (a3.add 0) = some (Value.slice x60.a x60.len x60.cap) ∧
 w75.cell? (a3.add 1) = some (Value.int .i64 x61) ∧
 w75.cell? (a3.add 2) = some (Value.int .i64 x62) ∧
 (c_v4_reader_num x60 x61 x62 8 1 w75 fun r76 w77 =>
 w77.cell? (a3.add 0) = some (Value.slice x69.a x69.len x69.cap) ∧
 w77.cell? (a3.add 1) = some (Value.int .i64 x70) ∧
 w77.cell? (a3.add 2) = some (Value.int .i64 x71) ∧
 w77.cell? (a3.add 0) = some (Value.slice x66.a x66.len x66.cap) ∧
 w77.cell? (a3.add 1) = some (Value.int .i64 x67) ∧
 w77.cell? (a3.add 2) = some (Value.int .i64 x68) ∧
 w77.cell? (a3.add 0) = some (Value.slice x63.a x63.len x63.cap) ∧
 w77.cell? (a3.add 1) = some (Value.int .i64 x64) ∧
 w77.cell? (a3.add 2) = some (Value.int .i64 x65) ∧
 (c_v4_reader_num x63 x64 x65 9 1 w77 fun r78 w79 =>
 w79.cell? (a3.add 0) = some (Value.slice x69.a x69.len x69.cap) ∧
 w79.cell? (a3.add 1) = some (Value.int .i64 x70) ∧
 w79.cell? (a3.add 2) = some (Value.int .i64 x71) ∧
 w79.cell? (a3.add 0) = some (Value.slice x66.a x66.len x66.cap) ∧
 w79.cell? (a3.add 1) = some (Value.int .i64 x67) ∧
 w79.cell? (a3.add 2) = some (Value.int .i64 x68) ∧
 (c_v4_reader_num x66 x67 x68 12 4 w79 fun r80 w81 =>
 w81.cell? (a3.add 0) = some (Value.slice x69.a x69.len x69.cap) ∧
 w81.cell? (a3.add 1) = some (Value.int .i64 x70) ∧
 w81.cell? (a3.add 2) = some (Value.int .i64 x71) ∧
 (c_v4_reader_num x69 x70 x71 16 4 w81 fun r82 w83 =>
 Al w83 (.cells ⟨[(Value.int .i64 0), (Value.int .i64 0), (Value.int .i64 0), (Value.int .i64 0), (Value.int .i64 0), (Value.int .i64 0), (Value.int .i64 0), (Value.bool false), (Value.bool false), (Value.slice none 0 0), (Value.slice none 0 0)]⟩ 46) fun a85 w84 =>
 w84.cell? (a3.add 0) = some (Value.slice x69.a x69.len x69.cap) ∧
 w84.cell? (a3.add 1) = some (Value.int .i64 x70) ∧
 w84.cell? (a3.add 2) = some (Value.int .i64 x71) ∧
 w84.cell? (a3.add 0) = some (Value.slice x66.a x66.len x66.cap) ∧
 w84.cell? (a3.add 1) = some (Value.int .i64 x67) ∧
 w84.cell? (a3.add 2) = some (Value.int .i64 x68) ∧
 w84.cell? (a3.add 0) = some (Value.slice x63.a x63.len x63.cap) ∧
 w84.cell? (a3.add 1) = some (Value.int .i64 x64) ∧
 w84.cell? (a3.add 2) = some (Value.int .i64 x65) ∧
 w84.cell? (a3.add 0) = some (Value.slice x60.a x60.len x60.cap) ∧
 w84.cell? (a3.add 1) = some (Value.int .i64 x61) ∧
 w84.cell? (a3.add 2) = some (Value.int .i64 x62) ∧
 w84.cell? (a3.add 0) = some (Value.slice x57.a x57.len x57.cap) ∧
 w84.cell? (a3.add 1) = some (Value.int .i64 x58) ∧
 w84.cell? (a3.add 2) = some (Value.int .i64 x59) ∧
 w84.cell? (a3.add 0) = some (Value.slice x54.a x54.len x54.cap) ∧
 w84.cell? (a3.add 1) = some (Value.int .i64 x55) ∧
 w84.cell? (a3.add 2) = some (Value.int .i64 x56) ∧
 StN [(Value.int .i64 r72), (Value.int .i64 r74), (Value.int .i64 0), (Value.int .i64 r76), (Value.int .i64 r78), (Value.int .i64 r80), (Value.int .i64 r82), (Value.bool false), (Value.bool false), (Value.slice none 0 0), (Value.slice none 0 0)] w84 a85 0 fun w86 =>
 J11 a85 w86) ∧
 (Al w81 (.cells ⟨[(Value.int .i64 0), (Value.int .i64 0), (Value.int .i64 0), (Value.int .i64 0), (Value.int .i64 0), (Value.int .i64 0), (Value.int .i64 0), (Value.bool false), (Value.bool false), (Value.slice none 0 0), (Value.slice none 0 0)]⟩ 46) fun a88 w87 =>
 w87.cell? (a3.add 0) = some (Value.slice x69.a x69.len x69.cap) ∧
 w87.cell? (a3.add 1) = some (Value.int .i64 x70) ∧
 w87.cell? (a3.add 2) = some (Value.int .i64 x71) ∧
 w87.cell? (a3.add 0) = some (Value.slice x66.a x66.len x66.cap) ∧
 w87.cell? (a3.add 1) = some (Value.int .i64 x67) ∧
 w87.cell? (a3.add 2) = some (Value.int .i64 x68) ∧
 w87.cell? (a3.add 0) = some (Value.slice x63.a x63.len x63.cap) ∧
 w87.cell? (a3.add 1) = some (Value.int .i64 x64) ∧
 w87.cell? (a3.add 2) = some (Value.int .i64 x65) ∧
 w87.cell? (a3.add 0) = some (Value.slice x60.a x60.len x60.cap) ∧
 w87.cell? (a3.add 1) = some (Value.int .i64 x61) ∧
 w87.cell? (a3.add 2) = some (Value.int .i64 x62) ∧
 w87.cell? (a3.add 0) = some (Value.slice x57.a x57.len x57.cap) ∧
 w87.cell? (a3.add 1) = some (Value.int .i64 x58) ∧
 w87.cell? (a3.add 2) = some (Value.int .i64 x59) ∧
 w87.cell? (a3.add 0) = some (Value.slice x54.a x54.len x54.cap) ∧
 w87.cell? (a3.add 1) = some (Value.int .i64 x55) ∧
 w87.cell? (a3.add 2) = some (Value.int .i64 x56) ∧
 c_v4_reader_num x69 x70 x71 16 4 w87 fun r89 w90 =>
 StN [(Value.int .i64 r72), (Value.int .i64 r74), (Value.int .i64 0), (Value.int .i64 r76), (Value.int .i64 r78), (Value.int .i64 r80), (Value.int .i64 r89), (Value.bool false), (Value.bool false), (Value.slice none 0 0), (Value.slice none 0 0)] w90 a88 0 fun w91 =>
 J11 a88 w91)) ∧
 (Al w79 (.cells ⟨[(Value.int .i64 0), (Value.int .i64 0), (Value.int .i64 0), (Value.int .i64 0), (Value.int .i64 0), (Value.int .i64 0), (Value.int .i64 0), (Value.bool false), (Value.bool false), (Value.slice none 0 0), (Value.slice none 0 0)]⟩ 46) fun a93 w92 =>
 w92.cell? (a3.add 0) = some (Value.slice x69.a x69.len x69.cap) ∧
 w92.cell? (a3.add 1) = some (Value.int .i64 x70) ∧
 w92.cell? (a3.add 2) = some (Value.int .i64 x71) ∧
 w92.cell? (a3.add 0) = some (Value.slice x66.a x66.len x66.cap) ∧
 w92.cell? (a3.add 1) = some (Value.int .i64 x67) ∧
 w92.cell? (a3.add 2) = some (Value.int .i64 x68) ∧
 w92.cell? (a3.add 0) = some (Value.slice x63.a x63.len x63.cap) ∧
 w92.cell? (a3.add 1) = some (Value.int .i64 x64) ∧
 w92.cell? (a3.add 2) = some (Value.int .i64 x65) ∧
 w92.cell? (a3.add 0) = some (Value.slice x60.a x60.len x60.cap) ∧
 w92.cell? (a3.add 1) = some (Value.int .i64 x61) ∧
 w92.cell? (a3.add 2) = some (Value.int .i64 x62) ∧
 w92.cell? (a3.add 0) = some (Value.slice x57.a x57.len x57.cap) ∧
 w92.cell? (a3.add 1) = some (Value.int .i64 x58) ∧
 w92.cell? (a3.add 2) = some (Value.int .i64 x59) ∧
 w92.cell? (a3.add 0) = some (Value.slice x54.a x54.len x54.cap) ∧
 w92.cell? (a3.add 1) = some (Value.int .i64 x55) ∧
 w92.cell? (a3.add 2) = some (Value.int .i64 x56) ∧
 c_v4_reader_num x66 x67 x68 12 4 w92 fun r94 w95 =>
 w95.cell? (a3.add 0) = some (Value.slice x69.a x69.len x69.cap) ∧
 w95.cell? (a3.add 1) = some (Value.int .i64 x70) ∧
 w95.cell? (a3.add 2) = some (Value.int .i64 x71) ∧
 c_v4_reader_num x69 x70 x71 16 4 w95 fun r96 w97 =>
 StN [(Value.int .i64 r72), (Value.int .i64 r74), (Value.int .i64 0), (Value.int .i64 r76), (Value.int .i64 r78), (Value.int .i64 r94), (Value.int .i64 r96), (Value.bool false), (Value.bool false), (Value.slice none 0 0), (Value.slice none 0 0)] w97 a93 0 fun w98 =>
 J11 a93 w98)) ∧
 (Al w77 (.cells ⟨[(Value.int .i64 0), (Value.int .i64 0), (Value.int .i64 0), (Value.int .i64 0), (Value.int .i64 0), (Value.int .i64 0), (Value.int .i64 0), (Value.bool false), (Value.bool false), (Value.slice none 0 0), (Value.slice none 0 0)]⟩ 46) fun a100 w99 =>
 w99.cell? (a3.add 0) = some (Value.slice x69.a x69.len x69.cap) ∧
 w99.cell? (a3.add 1) = some (Value.int .i64 x70) ∧
 w99.cell? (a3.add 2) = some (Value.int .i64 x71) ∧
 w99.cell? (a3.add 0) = some (Value.slice x66.a x66.len x66.cap) ∧
 w99.cell? (a3.add 1) = some (Value.int .i64 x67) ∧
 w99.cell? (a3.add 2) = some (Value.int .i64 x68) ∧
 w99.cell? (a3.add 0) = some (Value.slice x63.a x63.len x63.cap) ∧
 w99.cell? (a3.add 1) = some (Value.int .i64 x64) ∧
 w99.cell? (a3.add 2) = some (Value.int .i64 x65) ∧
 w99.cell? (a3.add 0) = some (Value.slice x60.a x60.len x60.cap) ∧
 w99.cell? (a3.add 1) = some (Value.int .i64 x61) ∧
 w99.cell? (a3.add 2) = some (Value.int .i64 x62) ∧
 w99.cell? (a3.add 0) = some (Value.slice x57.a x57.len x57.cap) ∧
 w99.cell? (a3.add 1) = some (Value.int .i64 x58) ∧
 w99.cell? (a3.add 2) = some (Value.int .i64 x59) ∧
 w99.cell? (a3.add 0) = some (Value.slice x54.a x54.len x54.cap) ∧
 w99.cell? (a3.add 1) = some (Value.int .i64 x55) ∧
 w99.cell? (a3.add 2) = some (Value.int .i64 x56) ∧
 c_v4_reader_num x63 x64 x65 9 1 w99 fun r101 w102 =>
 w102.cell? (a3.add 0) = some (Value.slice x69.a x69.len x69.cap) ∧
 w102.cell? (a3.add 1) = some (Value.int .i64 x70) ∧
 w102.cell? (a3.add 2) = some (Value.int .i64 x71) ∧
 w102.cell? (a3.add 0) = some (Value.slice x66.a x66.len x66.cap) ∧
 w102.cell? (a3.add 1) = some (Value.int .i64 x67) ∧
 w102.cell? (a3.add 2) = some (Value.int .i64 x68) ∧
 c_v4_reader_num x66 x67 x68 12 4 w102 fun r103 w104 =>
 w104.cell? (a3.add 0) = some (Value.slice x69.a x69.len x69.cap) ∧
 w104.cell? (a3.add 1) = some (Value.int .i64 x70) ∧
 w104.cell? (a3.add 2) = some (Value.int .i64 x71) ∧
 c_v4_reader_num x69 x70 x71 16 4 w104 fun r105 w106 =>
 StN [(Value.int .i64 r72), (Value.int .i64 r74), (Value.int .i64 0), (Value.int .i64 r76), (Value.int .i64 r101), (Value.int .i64 r103), (Value.int .i64 r105), (Value.bool false), (Value.bool false), (Value.slice none 0 0), (Value.slice none 0 0)] w106 a100 0 fun w107 =>
 J11 a100 w107)) ∧
 (Al w75 (.cells ⟨[(Value.int .i64 0), (Value.int .i64 0), (Value.int .i64 0), (Value.int .i64 0), (Value.int .i64 0), (Value.int .i64 0), (Value.int .i64 0), (Value.bool false), (Value.bool false), (Value.slice none 0 0), (Value.slice none 0 0)]⟩ 46) fun a109 w108 =>
 w108.cell? (a3.add 0) = some (Value.slice x69.a x69.len x69.cap) ∧
 w108.cell? (a3.add 1) = some (Value.int .i64 x70) ∧
 w108.cell? (a3.add 2) = some (Value.int .i64 x71) ∧
 w108.cell? (a3.add 0) = some (Value.slice x66.a x66.len x66.cap) ∧
 w108.cell? (a3.add 1) = some (Value.int .i64 x67) ∧
 w108.cell? (a3.add 2) = some (Value.int .i64 x68) ∧
 w108.cell? (a3.add 0) = some (Value.slice x63.a x63.len x63.cap) ∧
 w108.cell? (a3.add 1) = some (Value.int .i64 x64) ∧
 w108.cell? (a3.add 2) = some (Value.int .i64 x65) ∧
 w108.cell? (a3.add 0) = some (Value.slice x60.a x60.len x60.cap) ∧
 w108.cell? (a3.add 1) = some (Value.int .i64 x61) ∧
 w108.cell? (a3.add 2) = some (Value.int .i64 x62) ∧
 w108.cell? (a3.add 0) = some (Value.slice x57.a x57.len x57.cap) ∧
 w108.cell? (a3.add 1) = some (Value.int .i64 x58) ∧
 w108.cell? (a3.add 2) = some (Value.int .i64 x59) ∧
 w108.cell? (a3.add 0) = some (Value.slice x54.a x54.len x54.cap) ∧
 w108.cell? (a3.add 1) = some (Value.int .i64 x55) ∧
 w108.cell? (a3.add 2) = some (Value.int .i64 x56) ∧
 c_v4_reader_num x60 x61 x62 8 1 w108 fun r110 w111 =>
 w111.cell? (a3.add 0) = some (Value.slice x69.a x69.len x69.cap) ∧
 w111.cell? (a3.add 1) = some (Value.int .i64 x70) ∧
 w111.cell? (a3.add 2) = some (Value.int .i64 x71) ∧
 w111.cell? (a3.add 0) = some (Value.slice x66.a x66.len x66.cap) ∧
 w111.cell? (a3.add 1) = some (Value.int .i64 x67) ∧
 w111.cell? (a3.add 2) = some (Value.int .i64 x68) ∧
 w111.cell? (a3.add 0) = some (Value.slice x63.a x63.len x63.cap) ∧
 w111.cell? (a3.add 1) = some (Value.int .i64 x64) ∧
 w111.cell? (a3.add 2) = some (Value.int .i64 x65) ∧
 c_v4_reader_num x63 x64 x65 9 1 w111 fun r112 w113 =>
 w113.cell? (a3.add 0) = some (Value.slice x69.a x69.len x69.cap) ∧
 w113.cell? (a3.add 1) = some (Value.int .i64 x70) ∧
 w113.cell? (a3.add 2) = some (Value.int .i64 x71) ∧
 w113.cell? (a3.add 0) = some (Value.slice x66.a x66.len x66.cap) ∧
 w113.cell? (a3.add 1) = some (Value.int .i64 x67) ∧
 w113.cell? (a3.add 2) = some (Value.int .i64 x68) ∧
 c_v4_reader_num x66 x67 x68 12 4 w113 fun r114 w115 =>
 w115.cell? (a3.add 0) = some (Value.slice x69.a x69.len x69.cap) ∧
 w115.cell? (a3.add 1) = some (Value.int .i64 x70) ∧
 w115.cell? (a3.add 2) = some (Value.int .i64 x71) ∧
 c_v4_reader_num x69 x70 x71 16 4 w115 fun r116 w117 =>
 StN [(Value.int .i64 r72), (Value.int .i64 r74), (Value.int .i64 0), (Value.int .i64 r110), (Value.int .i64 r112), (Value.int .i64 r114), (Value.int .i64 r116), (Value.bool false), (Value.bool false), (Value.slice none 0 0), (Value.slice none 0 0)] w117 a109 0 fun w118 =>
 J11 a109 w118)) ∧
 (Al w73 (.cells ⟨[(Value.int .i64 0), (Value.int .i64 0), (Value.int .i64 0), (Value.int .i64 0), (Value.int .i64 0), (Value.int .i64 0), (Value.int .i64 0), (Value.bool false), (Value.bool false), (Value.slice none 0 0), (Value.slice none 0 0)]⟩ 46) fun a120 w119 =>
 w119.cell? (a3.add 0) = some (Value.slice x69.a x69.len x69.cap) ∧
 w119.cell? (a3.add 1) = some (Value.int .i64 x70) ∧
 w119.cell? (a3.add 2) = some (Value.int .i64 x71) ∧
 w119.cell? (a3.add 0) = some (Value.slice x66.a x66.len x66.cap) ∧
 w119.cell? (a3.add 1) = some (Value.int .i64 x67) ∧
 w119.cell? (a3.add 2) = some (Value.int .i64 x68) ∧
 w119.cell? (a3.add 0) = some (Value.slice x63.a x63.len x63.cap) ∧
 w119.cell? (a3.add 1) = some (Value.int .i64 x64) ∧
 w119.cell? (a3.add 2) = some (Value.int .i64 x65) ∧
 w119.cell? (a3.add 0) = some (Value.slice x60.a x60.len x60.cap) ∧
 w119.cell? (a3.add 1) = some (Value.int .i64 x61) ∧
 w119.cell? (a3.add 2) = some (Value.int .i64 x62) ∧
 w119.cell? (a3.add 0) = some (Value.slice x57.a x57.len x57.cap) ∧
 w119.cell? (a3.add 1) = some (Value.int .i64 x58) ∧
 w119.cell? (a3.add 2) = some (Value.int .i64 x59) ∧
 w119.cell? (a3.add 0) = some (Value.slice x54.a x54.len x54.cap) ∧
 w119.cell? (a3.add 1) = some (Value.int .i64 x55) ∧
 w119.cell? (a3.add 2) = some (Value.int .i64 x56) ∧
 c_v4_reader_num x57 x58 x59 4 2 w119 fun r121 w122 =>
 w122.cell? (a3.add 0) = some (Value.slice x69.a x69.len x69.cap) ∧
 w122.cell? (a3.add 1) = some (Value.int .i64 x70) ∧
 w122.cell? (a3.add 2) = some (Value.int .i64 x71) ∧
 w122.cell? (a3.add 0) = some (Value.slice x66.a x66.len x66.cap) ∧
 w122.cell? (a3.add 1) = some (Value.int .i64 x67) ∧
 w122.cell? (a3.add 2) = some (Value.int .i64 x68) ∧
 w122.cell? (a3.add 0) = some (Value.slice x63.a x63.len x63.cap) ∧
 w122.cell? (a3.add 1) = some (Value.int .i64 x64) ∧
 w122.cell? (a3.add 2) = some (Value.int .i64 x65) ∧
 w122.cell? (a3.add 0) = some (Value.slice x60.a x60.len x60.cap) ∧
 w122.cell? (a3.add 1) = some (Value.int .i64 x61) ∧
 w122.cell? (a3.add 2) = some (Value.int .i64 x62) ∧
 c_v4_reader_num x60 x61 x62 8 1 w122 fun r123 w124 =>
 w124.cell? (a3.add 0) = some (Value.slice x69.a x69.len x69.cap) ∧
 w124.cell? (a3.add 1) = some (Value.int .i64 x70) ∧
 w124.cell? (a3.add 2) = some (Value.int .i64 x71) ∧
 w124.cell? (a3.add 0) = some (Value.slice x66.a x66.len x66.cap) ∧
 w124.cell? (a3.add 1) = some (Value.int .i64 x67) ∧
 w124.cell? (a3.add 2) = some (Value.int .i64 x68) ∧
 w124.cell? (a3.add 0) = some (Value.slice x63.a x63.len x63.cap) ∧
 w124.cell? (a3.add 1) = some (Value.int .i64 x64) ∧
 w124.cell? (a3.add 2) = some (Value.int .i64 x65) ∧
 c_v4_reader_num x63 x64 x65 9 1 w124 fun r125 w126 =>
 w126.cell? (a3.add 0) = some (Value.slice x69.a x69.len x69.cap) ∧
 w126.cell? (a3.add 1) = some (Value.int .i64 x70) ∧
 w126.cell? (a3.add 2) = some (Value.int .i64 x71) ∧
 w126.cell? (a3.add 0) = some (Value.slice x66.a x66.len x66.cap) ∧
 w126.cell? (a3.add 1) = some (Value.int .i64 x67) ∧
 w126.cell? (a3.add 2) = some (Value.int .i64 x68) ∧
 c_v4_reader_num x66 x67 x68 12 4 w126 fun r127 w128 =>
 w128.cell? (a3.add 0) = some (Value.slice x69.a x69.len x69.cap) ∧
 w128.cell? (a3.add 1) = some (Value.int .i64 x70) ∧
 w128.cell? (a3.add 2) = some (Value.int .i64 x71) ∧
 c_v4_reader_num x69 x70 x71 16 4 w128 fun r129 w130 =>
 StN [(Value.int .i64 r72), (Value.int .i64 r121), (Value.int .i64 0), (Value.int .i64 r123), (Value.int .i64 r125), (Value.int .i64 r127), (Value.int .i64 r129), (Value.bool false), (Value.bool false), (Value.slice none 0 0), (Value.slice none 0 0)] w130 a120 0 fun w131 =>
 J11 a120 w131)) ∧
 (Al w10.drew (.cells ⟨[(Value.int .i64 0), (Value.int .i64 0), (Value.int .i64 0), (Value.int .i64 0), (Value.int .i64 0), (Value.int .i64 0), (Value.int .i64 0), (Value.bool false), (Value.bool false), (Value.slice none 0 0), (Value.slice none 0 0)]⟩ 46) fun a133 w132 =>
 w132.cell? (a3.add 0) = some (Value.slice x69.a x69.len x69.cap) ∧
 w132.cell? (a3.add 1) = some (Value.int .i64 x70) ∧
 w132.cell? (a3.add 2) = some (Value.int .i64 x71) ∧
 w132.cell? (a3.add 0) = some (Value.slice x66.a x66.len x66.cap) ∧
 w132.cell? (a3.add 1) = some (Value.int .i64 x67) ∧
 w132.cell? (a3.add 2) = some (Value.int .i64 x68) ∧
 w132.cell? (a3.add 0) = some (Value.slice x63.a x63.len x63.cap) ∧
 w132.cell? (a3.add 1) = some (Value.int .i64 x64) ∧
 w132.cell? (a3.add 2) = some (Value.int .i64 x65) ∧
 w132.cell? (a3.add 0) = some (Value.slice x60.a x60.len x60.cap) ∧
 w132.cell? (a3.add 1) = some (Value.int .i64 x61) ∧
 w132.cell? (a3.add 2) = some (Value.int .i64 x62) ∧
 w132.cell? (a3.add 0) = some (Value.slice x57.a x57.len x57.cap) ∧
 w132.cell? (a3.add 1) = some (Value.int .i64 x58) ∧
 w132.cell? (a3.add 2) = some (Value.int .i64 x59) ∧
 w132.cell? (a3.add 0) = some (Value.slice x54.a x54.len x54.cap) ∧
 w132.cell? (a3.add 1) = some (Value.int .i64 x55) ∧
 w132.cell? (a3.add 2) = some (Value.int .i64 x56) ∧
 c_v4_reader_num x54 x55 x56 1 1 w132 fun r134 w135 =>
 w135.cell? (a3.add 0) = some (Value.slice x69.a x69.len x69.cap) ∧
 w135.cell? (a3.add 1) = some (Value.int .i64 x70) ∧
 w135.cell? (a3.add 2) = some (Value.int .i64 x71) ∧
 w135.cell? (a3.add 0) = some (Value.slice x66.a x66.len x66.cap) ∧
 w135.cell? (a3.add 1) = some (Value.int .i64 x67) ∧
 w135.cell? (a3.add 2) = some (Value.int .i64 x68) ∧
 w135.cell? (a3.add 0) = some (Value.slice x63.a x63.len x63.cap) ∧
 w135.cell? (a3.add 1) = some (Value.int .i64 x64) ∧
 w135.cell? (a3.add 2) = some (Value.int .i64 x65) ∧
 w135.cell? (a3.add 0) = some (Value.slice x60.a x60.len x60.cap) ∧
 w135.cell? (a3.add 1) = some (Value.int .i64 x61) ∧
 w135.cell? (a3.add 2) = some (Value.int .i64 x62) ∧
 w135.cell? (a3.add 0) = some (Value.slice x57.a x57.len x57.cap) ∧
 w135.cell? (a3.add 1) = some (Value.int .i64 x58) ∧
 w135.cell? (a3.add 2) = some (Value.int .i64 x59) ∧
 c_v4_reader_num x57 x58 x59 4 2 w135 fun r136 w137 =>
 w137.cell? (a3.add 0) = some (Value.slice x69.a x69.len x69.cap) ∧
 w137.cell? (a3.add 1) = some (Value.int .i64 x70) ∧
 w137.cell? (a3.add 2) = some (Value.int .i64 x71) ∧
 w137.cell? (a3.add 0) = some (Value.slice x66.a x66.len x66.cap) ∧
 w137.cell? (a3.add 1) = some (Value.int .i64 x67) ∧
 w137.cell? (a3.add 2) = some (Value.int .i64 x68) ∧
 w137.cell? (a3.add 0) = some (Value.slice x63.a x63.len x63.cap) ∧
 w137.cell? (a3.add 1) = some (Value.int .i64 x64) ∧
 w137.cell? (a3.add 2) = some (Value.int .i64 x65) ∧
 w137.cell? (a3.add 0) = some (Value.slice x60.a x60.len x60.cap) ∧
 w137.cell? (a3.add 1) = some (Value.int .i64 x61) ∧
 w137.cell? (a3.add 2) = some (Value.int .i64 x62) ∧
 c_v4_reader_num x60 x61 x62 8 1 w137 fun r138 w139 =>
 w139.cell? (a3.add 0) = some (Value.slice x69.a x69.len x69.cap) ∧
 w139.cell? (a3.add 1) = some (Value.int .i64 x70) ∧
 w139.cell? (a3.add 2) = some (Value.int .i64 x71) ∧
 w139.cell? (a3.add 0) = some (Value.slice x66.a x66.len x66.cap) ∧
 w139.cell? (a3.add 1) = some (Value.int .i64 x67) ∧
 w139.cell? (a3.add 2) = some (Value.int .i64 x68) ∧
 w139.cell? (a3.add 0) = some (Value.slice x63.a x63.len x63.cap) ∧
 w139.cell? (a3.add 1) = some (Value.int .i64 x64) ∧
 w139.cell? (a3.add 2) = some (Value.int .i64 x65) ∧
 c_v4_reader_num x63 x64 x65 9 1 w139 fun r140 w141 =>
 w141.cell? (a3.add 0) = some (Value.slice x69.a x69.len x69.cap) ∧
 w141.cell? (a3.add 1) = some (Value.int .i64 x70) ∧
 w141.cell? (a3.add 2) = some (Value.int .i64 x71) ∧
 w141.cell? (a3.add 0) = some (Value.slice x66.a x66.len x66.cap) ∧
 w141.cell? (a3.add 1) = some (Value.int .i64 x67) ∧
 w141.cell? (a3.add 2) = some (Value.int .i64 x68) ∧
 c_v4_reader_num x66 x67 x68 12 4 w141 fun r142 w143 =>
 w143.cell? (a3.add 0) = some (Value.slice x69.a x69.len x69.cap) ∧
 w143.cell? (a3.add 1) = some (Value.int .i64 x70) ∧
 w143.cell? (a3.add 2) = some (Value.int .i64 x71) ∧
 c_v4_reader_num x69 x70 x71 16 4 w143 fun r144 w145 =>
 StN [(Value.int .i64 r134), (Value.int .i64 r136), (Value.int .i64 0), (Value.int .i64 r138), (Value.int .i64 r140), (Value.int .i64 r142), (Value.int .i64 r144), (Value.bool false), (Value.bool false), (Value.slice none 0 0), (Value.slice none 0 0)] w145 a133 0 fun w146 =>
 J11 a133 w146))
theorem e_v4_reader_packet (a0_0 : SliceV) (a0_1 : Int) (a0_2 : Int) (w : World) (K : Int → Int → Int → Int → Int → Int → Int → Bool → Bool → SliceV → SliceV → World → Prop) : den Try.prog 53 (bodyOf Try.f91) none (.seq .leaf (.seq .leaf (.seq .leaf (.seq .leaf (.seq .leaf (.seq .leaf (.seq .leaf .leaf))))))) (argEnv 0 [(Value.agg ⟨[(Value.slice a0_0.a a0_0.len a0_0.cap), (Value.int .i64 a0_1), (Value.int .i64 a0_2)]⟩)]) [] w (retK Try.prog [.cell 2 46] [.agg [(.int .i64), (.int .i64), (.int .i64), (.int .i64), (.int .i64), (.int .i64), (.int .i64), .bool, .bool, .slice, .slice]] K) = s_v4_reader_packet a0_0 a0_1 a0_2 w K := by kernel_rfl
theorem ok_v4_reader_packet {a0_0 a0_1 a0_2 w K} (h : s_v4_reader_packet a0_0 a0_1 a0_2 w K) : c_v4_reader_packet a0_0 a0_1 a0_2 w K :=
  fn_sound pok Try.func91 (fn := Try.f91) (c := bodyOf Try.f91) (nt := 53) (by kernel_rfl) (by kernel_rfl) (rs := [.cell 2 46]) (by kernel_rfl) [.agg [(.int .i64), (.int .i64), (.int .i64), (.int .i64), (.int .i64), (.int .i64), (.int .i64), .bool, .bool, .slice, .slice]] K (.seq .leaf (.seq .leaf (.seq .leaf (.seq .leaf (.seq .leaf (.seq .leaf (.seq .leaf .leaf))))))) [(Value.agg ⟨[(Value.slice a0_0.a a0_0.len a0_0.cap), (Value.int .i64 a0_1), (Value.int .i64 a0_2)]⟩)] (by kernel_rfl) w ((e_v4_reader_packet a0_0 a0_1 a0_2 w K).mpr h)

/-- goosepond/four.Host -/
def s_four_Host (a0 : Int) (w : World) (K : Bool → World → Prop) : Prop :=
 (c_four_Right a0 w fun r2 w3 =>
 (bif (!r2) then
 K false w3
 else
 Al w3 (.cells ⟨[(Value.int .i64 0), (Value.int .i64 8), (Value.int .i64 2130706432), (Value.int .i64 8), (Value.int .i64 3758096384), (Value.int .i64 3)]⟩ 164) fun a5 w4 =>
 c_four_one a0 ⟨(some a5), 3, 3⟩ w4 fun r6 w7 =>
 K (!r6) w7))
theorem e_four_Host (a0 : Int) (w : World) (K : Bool → World → Prop) : den Try.prog 13 (bodyOf Try.f92) none (.seq .leaf (.seq (.seq .leaf (.cond (.seq .leaf .leaf) .leaf)) (.seq .leaf .leaf))) (argEnv 0 [(Value.int .i64 a0)]) [] w (retK Try.prog [.tmp 2] [.one .bool] K) = s_four_Host a0 w K := by kernel_rfl
theorem ok_four_Host {a0 w K} (h : s_four_Host a0 w K) : c_four_Host a0 w K :=
  fn_sound pok Try.func92 (fn := Try.f92) (c := bodyOf Try.f92) (nt := 13) (by kernel_rfl) (by kernel_rfl) (rs := [.tmp 2]) (by kernel_rfl) [.one .bool] K (.seq .leaf (.seq (.seq .leaf (.cond (.seq .leaf .leaf) .leaf)) (.seq .leaf .leaf))) [(Value.int .i64 a0)] (by kernel_rfl) w ((e_four_Host a0 w K).mpr h)

/-- goosepond/errs.plain -/
def s_errs_plain (a0_0 : Int) (a0_1 : Int) (a0_2 : Int) (a0_3 : Int) (a0_4 : Int) (a0_5 : Int) (a0_6 : Int) (a0_7 : Bool) (a0_8 : Bool) (a0_9 : SliceV) (a0_10 : SliceV) (w : World) (K : Bool → World → Prop) : Prop :=
 (Al w (.cells ⟨[(Value.int .i64 a0_0), (Value.int .i64 a0_1), (Value.int .i64 a0_2), (Value.int .i64 a0_3), (Value.int .i64 a0_4), (Value.int .i64 a0_5), (Value.int .i64 a0_6), (Value.bool a0_7), (Value.bool a0_8), (Value.slice a0_9.a a0_9.len a0_9.cap), (Value.slice a0_10.a a0_10.len a0_10.cap)]⟩ 46) fun a3 w2 =>
 Ld (.int .i64) w2 (a3.add 4) fun x4 =>
 (bif (x4 != 1) then
 K true w2
 else
 let J5 : Bool → World → Prop := fun j6 w7 =>
 (K j6 w7)
 Ld .slice w2 (a3.add 10) fun x8 =>
 (bif (decide ((x8.len : Int) > 0)) then
 Ld .slice w2 (a3.add 10) fun x9 =>
 AtIx x9 1 0 fun a10 =>
 Ld (.int .u8) w2 a10 fun x11 =>
 c_icmp_Fault (IntKind.i64.wrap x11) w2 fun r12 w13 =>
 J5 (!r12) w13
 else
 J5 false w2)))
theorem e_errs_plain (a0_0 : Int) (a0_1 : Int) (a0_2 : Int) (a0_3 : Int) (a0_4 : Int) (a0_5 : Int) (a0_6 : Int) (a0_7 : Bool) (a0_8 : Bool) (a0_9 : SliceV) (a0_10 : SliceV) (w : World) (K : Bool → World → Prop) : den Try.prog 19 (bodyOf Try.f93) none (.seq .leaf (.seq (.seq .leaf (.cond (.seq .leaf .leaf) .leaf)) (.seq .leaf .leaf))) (argEnv 0 [(Value.agg ⟨[(Value.int .i64 a0_0), (Value.int .i64 a0_1), (Value.int .i64 a0_2), (Value.int .i64 a0_3), (Value.int .i64 a0_4), (Value.int .i64 a0_5), (Value.int .i64 a0_6), (Value.bool a0_7), (Value.bool a0_8), (Value.slice a0_9.a a0_9.len a0_9.cap), (Value.slice a0_10.a a0_10.len a0_10.cap)]⟩)]) [] w (retK Try.prog [.tmp 2] [.one .bool] K) = s_errs_plain a0_0 a0_1 a0_2 a0_3 a0_4 a0_5 a0_6 a0_7 a0_8 a0_9 a0_10 w K := by kernel_rfl
theorem ok_errs_plain {a0_0 a0_1 a0_2 a0_3 a0_4 a0_5 a0_6 a0_7 a0_8 a0_9 a0_10 w K} (h : s_errs_plain a0_0 a0_1 a0_2 a0_3 a0_4 a0_5 a0_6 a0_7 a0_8 a0_9 a0_10 w K) : c_errs_plain a0_0 a0_1 a0_2 a0_3 a0_4 a0_5 a0_6 a0_7 a0_8 a0_9 a0_10 w K :=
  fn_sound pok Try.func93 (fn := Try.f93) (c := bodyOf Try.f93) (nt := 19) (by kernel_rfl) (by kernel_rfl) (rs := [.tmp 2]) (by kernel_rfl) [.one .bool] K (.seq .leaf (.seq (.seq .leaf (.cond (.seq .leaf .leaf) .leaf)) (.seq .leaf .leaf))) [(Value.agg ⟨[(Value.int .i64 a0_0), (Value.int .i64 a0_1), (Value.int .i64 a0_2), (Value.int .i64 a0_3), (Value.int .i64 a0_4), (Value.int .i64 a0_5), (Value.int .i64 a0_6), (Value.bool a0_7), (Value.bool a0_8), (Value.slice a0_9.a a0_9.len a0_9.cap), (Value.slice a0_10.a a0_10.len a0_10.cap)]⟩)] (by kernel_rfl) w ((e_errs_plain a0_0 a0_1 a0_2 a0_3 a0_4 a0_5 a0_6 a0_7 a0_8 a0_9 a0_10 w K).mpr h)

/-- goosepond/v4.Size -/
def s_v4_Size (a0_0 : Int) (a0_1 : Int) (a0_2 : Int) (a0_3 : Int) (a0_4 : Int) (a0_5 : Int) (a0_6 : Int) (a0_7 : Bool) (a0_8 : Bool) (a0_9 : SliceV) (a0_10 : SliceV) (w : World) (K : Int → World → Prop) : Prop :=
 (Al w (.cells ⟨[(Value.int .i64 a0_0), (Value.int .i64 a0_1), (Value.int .i64 a0_2), (Value.int .i64 a0_3), (Value.int .i64 a0_4), (Value.int .i64 a0_5), (Value.int .i64 a0_6), (Value.bool a0_7), (Value.bool a0_8), (Value.slice a0_9.a a0_9.len a0_9.cap), (Value.slice a0_10.a a0_10.len a0_10.cap)]⟩ 46) fun a3 w2 =>
 Ld (.int .i64) w2.drew (a3.add 0) fun x4 =>
 Ld (.int .i64) w2.drew (a3.add 1) fun x5 =>
 Ld (.int .i64) w2.drew (a3.add 2) fun x6 =>
 Ld (.int .i64) w2.drew (a3.add 3) fun x7 =>
 Ld (.int .i64) w2.drew (a3.add 4) fun x8 =>
 Ld (.int .i64) w2.drew (a3.add 5) fun x9 =>
 Ld (.int .i64) w2.drew (a3.add 6) fun x10 =>
 Ld .bool w2.drew (a3.add 7) fun x11 =>
 Ld .bool w2.drew (a3.add 8) fun x12 =>
 Ld .slice w2.drew (a3.add 9) fun x13 =>
 Ld .slice w2.drew (a3.add 10) fun x14 =>
 Ld .slice w2.drew (a3.add 10) fun x15 =>
 c_v4_Head x4 x5 x6 x7 x8 x9 x10 x11 x12 x13 x14 w2.drew fun r16 w17 =>
 w17.cell? (a3.add 10) = some (Value.slice x15.a x15.len x15.cap) ∧
 K (IntKind.i64.wrap (r16 + (x15.len : Int))) w17)
theorem e_v4_Size (a0_0 : Int) (a0_1 : Int) (a0_2 : Int) (a0_3 : Int) (a0_4 : Int) (a0_5 : Int) (a0_6 : Int) (a0_7 : Bool) (a0_8 : Bool) (a0_9 : SliceV) (a0_10 : SliceV) (w : World) (K : Int → World → Prop) : den Try.prog 9 (bodyOf Try.f94) none (.seq .leaf (.seq .leaf .leaf)) (argEnv 0 [(Value.agg ⟨[(Value.int .i64 a0_0), (Value.int .i64 a0_1), (Value.int .i64 a0_2), (Value.int .i64 a0_3), (Value.int .i64 a0_4), (Value.int .i64 a0_5), (Value.int .i64 a0_6), (Value.bool a0_7), (Value.bool a0_8), (Value.slice a0_9.a a0_9.len a0_9.cap), (Value.slice a0_10.a a0_10.len a0_10.cap)]⟩)]) [] w (retK Try.prog [.tmp 2] [.one (.int .i64)] K) = s_v4_Size a0_0 a0_1 a0_2 a0_3 a0_4 a0_5 a0_6 a0_7 a0_8 a0_9 a0_10 w K := by kernel_rfl
theorem ok_v4_Size {a0_0 a0_1 a0_2 a0_3 a0_4 a0_5 a0_6 a0_7 a0_8 a0_9 a0_10 w K} (h : s_v4_Size a0_0 a0_1 a0_2 a0_3 a0_4 a0_5 a0_6 a0_7 a0_8 a0_9 a0_10 w K) : c_v4_Size a0_0 a0_1 a0_2 a0_3 a0_4 a0_5 a0_6 a0_7 a0_8 a0_9 a0_10 w K :=
  fn_sound pok Try.func94 (fn := Try.f94) (c := bodyOf Try.f94) (nt := 9) (by kernel_rfl) (by kernel_rfl) (rs := [.tmp 2]) (by kernel_rfl) [.one (.int .i64)] K (.seq .leaf (.seq .leaf .leaf)) [(Value.agg ⟨[(Value.int .i64 a0_0), (Value.int .i64 a0_1), (Value.int .i64 a0_2), (Value.int .i64 a0_3), (Value.int .i64 a0_4), (Value.int .i64 a0_5), (Value.int .i64 a0_6), (Value.bool a0_7), (Value.bool a0_8), (Value.slice a0_9.a a0_9.len a0_9.cap), (Value.slice a0_10.a a0_10.len a0_10.cap)]⟩)] (by kernel_rfl) w ((e_v4_Size a0_0 a0_1 a0_2 a0_3 a0_4 a0_5 a0_6 a0_7 a0_8 a0_9 a0_10 w K).mpr h)

/-- goosepond/icmp.Check -/
def s_icmp_Check (a0_0 : Int) (a0_1 : Int) (a0_2 : Int) (a0_3 : SliceV) (w : World) (K : Int → World → Prop) : Prop :=
 (Al w (.cells ⟨[(Value.int .i64 a0_0), (Value.int .i64 a0_1), (Value.int .i64 a0_2), (Value.slice a0_3.a a0_3.len a0_3.cap)]⟩ 44) fun a3 w2 =>
 let J4 : Bool → World → Prop := fun j5 w6 =>
 ((bif j5 then
 K 1 w6
 else
 Ld .slice w6 (a3.add 3) fun x7 =>
 (bif (decide ((x7.len : Int) > 65527)) then
 K 6 w6
 else
 K 0 w6)))
 Ld (.int .i64) w2 a3 fun x8 =>
 c_be_Fits x8 1 w2 fun r9 w10 =>
 (bif (!r9) then
 J4 true w10
 else
 Ld (.int .i64) w10 (a3.add 1) fun x11 =>
 c_be_Fits x11 1 w10 fun r12 w13 =>
 (bif (!r12) then
 J4 true w13
 else
 Ld (.int .i64) w13 (a3.add 2) fun x14 =>
 c_be_Fits x14 4 w13 fun r15 w16 =>
 J4 (!r15) w16)))
theorem e_icmp_Check (a0_0 : Int) (a0_1 : Int) (a0_2 : Int) (a0_3 : SliceV) (w : World) (K : Int → World → Prop) : den Try.prog 23 (bodyOf Try.f95) none (.seq .leaf (.seq (.seq .leaf (.cond (.seq .leaf .leaf) .leaf)) (.seq (.seq .leaf (.cond (.seq .leaf .leaf) .leaf)) (.seq .leaf .leaf)))) (argEnv 0 [(Value.agg ⟨[(Value.int .i64 a0_0), (Value.int .i64 a0_1), (Value.int .i64 a0_2), (Value.slice a0_3.a a0_3.len a0_3.cap)]⟩)]) [] w (retK Try.prog [.tmp 2] [.one (.int .i64)] K) = s_icmp_Check a0_0 a0_1 a0_2 a0_3 w K := by kernel_rfl
theorem ok_icmp_Check {a0_0 a0_1 a0_2 a0_3 w K} (h : s_icmp_Check a0_0 a0_1 a0_2 a0_3 w K) : c_icmp_Check a0_0 a0_1 a0_2 a0_3 w K :=
  fn_sound pok Try.func95 (fn := Try.f95) (c := bodyOf Try.f95) (nt := 23) (by kernel_rfl) (by kernel_rfl) (rs := [.tmp 2]) (by kernel_rfl) [.one (.int .i64)] K (.seq .leaf (.seq (.seq .leaf (.cond (.seq .leaf .leaf) .leaf)) (.seq (.seq .leaf (.cond (.seq .leaf .leaf) .leaf)) (.seq .leaf .leaf)))) [(Value.agg ⟨[(Value.int .i64 a0_0), (Value.int .i64 a0_1), (Value.int .i64 a0_2), (Value.slice a0_3.a a0_3.len a0_3.cap)]⟩)] (by kernel_rfl) w ((e_icmp_Check a0_0 a0_1 a0_2 a0_3 w K).mpr h)

/-- goosepond/be.Set -/
def s_be_Set (a0 : SliceV) (a1 : Int) (a2 : Int) (a3 : Int) (w : World) (K : SliceV → Int → World → Prop) : Prop :=
 (c_be_Fits a2 a3 w fun r5 w6 =>
 (bif (!r5) then
 K ⟨none, 0, 0⟩ 1 w6
 else
 c_slices_Clone_byte_byte a0 w6 fun r7 w8 =>
 c_be_window r7 a1 a3 w8 fun r9 r10 w11 =>
 (bif (r10 != 0) then
 K ⟨none, 0, 0⟩ r10 w11
 else
 c_be_digits a2 a3 w11 fun r12 w13 =>
 c_slices_Collect_byte r12 w13 fun r14 w15 =>
 LoopP (S := Int × Unit) (fun s16 w17 next18 =>
 (bif (decide (s16.1 < (r14.len : Int))) then
 AtIx r14 1 s16.1 fun a19 =>
 Ld (.int .u8) w17 a19 fun x20 =>
 AtIx r9 1 s16.1 fun a21 =>
 St w17 a21 (Value.int .u8 x20) fun w22 =>
 next18 ((IntKind.i64.wrap (s16.1 + 1)), ()) w22
 else
 K r7 0 w17)) (0, ()) w15)))
theorem e_be_Set (a0 : SliceV) (a1 : Int) (a2 : Int) (a3 : Int) (w : World) (K : SliceV → Int → World → Prop) : den Try.prog 47 (bodyOf Try.f96) none (.seq .leaf (.seq (.seq .leaf (.cond (.seq .leaf .leaf) .leaf)) (.seq .leaf (.seq .leaf (.seq (.seq .leaf (.cond (.seq .leaf .leaf) .leaf)) (.seq (.seq .leaf (.blk (.loop [(36, (.int .i64))] (.seq .leaf (.seq (.cond .leaf .leaf) (.seq (.blk (.seq .leaf .leaf)) .leaf)))))) (.seq .leaf .leaf))))))) (argEnv 0 [(Value.slice a0.a a0.len a0.cap), (Value.int .i64 a1), (Value.int .i64 a2), (Value.int .i64 a3)]) [] w (retK Try.prog [.tmp 8, .tmp 9] [.one .slice, .one (.int .i64)] K) = s_be_Set a0 a1 a2 a3 w K := by kernel_rfl
theorem ok_be_Set {a0 a1 a2 a3 w K} (h : s_be_Set a0 a1 a2 a3 w K) : c_be_Set a0 a1 a2 a3 w K :=
  fn_sound pok Try.func96 (fn := Try.f96) (c := bodyOf Try.f96) (nt := 47) (by kernel_rfl) (by kernel_rfl) (rs := [.tmp 8, .tmp 9]) (by kernel_rfl) [.one .slice, .one (.int .i64)] K (.seq .leaf (.seq (.seq .leaf (.cond (.seq .leaf .leaf) .leaf)) (.seq .leaf (.seq .leaf (.seq (.seq .leaf (.cond (.seq .leaf .leaf) .leaf)) (.seq (.seq .leaf (.blk (.loop [(36, (.int .i64))] (.seq .leaf (.seq (.cond .leaf .leaf) (.seq (.blk (.seq .leaf .leaf)) .leaf)))))) (.seq .leaf .leaf))))))) [(Value.slice a0.a a0.len a0.cap), (Value.int .i64 a1), (Value.int .i64 a2), (Value.int .i64 a3)] (by kernel_rfl) w ((e_be_Set a0 a1 a2 a3 w K).mpr h)

/-- goosepond/sum.Of -/
def s_sum_Of (a0 : SliceV) (w : World) (K : Int → World → Prop) : Prop :=
 (c_sum_Add a0 w fun r2 w3 =>
 K (IntKind.i64.wrap (65535 - r2)) w3)
theorem e_sum_Of (a0 : SliceV) (w : World) (K : Int → World → Prop) : den Try.prog 6 (bodyOf Try.f97) none (.seq .leaf (.seq .leaf .leaf)) (argEnv 0 [(Value.slice a0.a a0.len a0.cap)]) [] w (retK Try.prog [.tmp 2] [.one (.int .i64)] K) = s_sum_Of a0 w K := by kernel_rfl
theorem ok_sum_Of {a0 w K} (h : s_sum_Of a0 w K) : c_sum_Of a0 w K :=
  fn_sound pok Try.func97 (fn := Try.f97) (c := bodyOf Try.f97) (nt := 6) (by kernel_rfl) (by kernel_rfl) (rs := [.tmp 2]) (by kernel_rfl) [.one (.int .i64)] K (.seq .leaf (.seq .leaf .leaf)) [(Value.slice a0.a a0.len a0.cap)] (by kernel_rfl) w ((e_sum_Of a0 w K).mpr h)

/-- goosepond/v4.all -/
def s_v4_all (a0 : SliceV) (w : World) (K : Bool → World → Prop) : Prop :=
 (c_slices_Contains_bool_bool a0 false w fun r2 w3 =>
 K (!r2) w3)
theorem e_v4_all (a0 : SliceV) (w : World) (K : Bool → World → Prop) : den Try.prog 6 (bodyOf Try.f98) none (.seq .leaf (.seq .leaf .leaf)) (argEnv 0 [(Value.slice a0.a a0.len a0.cap)]) [] w (retK Try.prog [.tmp 2] [.one .bool] K) = s_v4_all a0 w K := by kernel_rfl
theorem ok_v4_all {a0 w K} (h : s_v4_all a0 w K) : c_v4_all a0 w K :=
  fn_sound pok Try.func98 (fn := Try.f98) (c := bodyOf Try.f98) (nt := 6) (by kernel_rfl) (by kernel_rfl) (rs := [.tmp 2]) (by kernel_rfl) [.one .bool] K (.seq .leaf (.seq .leaf .leaf)) [(Value.slice a0.a a0.len a0.cap)] (by kernel_rfl) w ((e_v4_all a0 w K).mpr h)

/-- goosepond/four.Right -/
def s_four_Right (a0 : Int) (w : World) (K : Bool → World → Prop) : Prop :=
 (let J2 : Bool → Prop := fun j3 =>
 (K j3 w)
 (bif (decide (a0 ≥ 0)) then
 J2 (decide (a0 < 4294967296))
 else
 J2 false))
theorem e_four_Right (a0 : Int) (w : World) (K : Bool → World → Prop) : den Try.prog 9 (bodyOf Try.f99) none (.seq .leaf (.seq .leaf .leaf)) (argEnv 0 [(Value.int .i64 a0)]) [] w (retK Try.prog [.tmp 2] [.one .bool] K) = s_four_Right a0 w K := by kernel_rfl
theorem ok_four_Right {a0 w K} (h : s_four_Right a0 w K) : c_four_Right a0 w K :=
  fn_sound pok Try.func99 (fn := Try.f99) (c := bodyOf Try.f99) (nt := 9) (by kernel_rfl) (by kernel_rfl) (rs := [.tmp 2]) (by kernel_rfl) [.one .bool] K (.seq .leaf (.seq .leaf .leaf)) [(Value.int .i64 a0)] (by kernel_rfl) w ((e_four_Right a0 w K).mpr h)

/-- goosepond/goosepondref01.pow -/
def s_ref01_pow (a0 : Int) (w : World) (K : Int → World → Prop) : Prop :=
 (LoopP (S := Int × Int × Unit) (fun s2 w3 next4 =>
 (bif (decide (s2.2.1 < a0)) then
 next4 ((IntKind.i64.wrap (s2.1 * 256)), (IntKind.i64.wrap (s2.2.1 + 1)), ()) w3
 else
 K s2.1 w3)) (1, 0, ()) w)
theorem e_ref01_pow (a0 : Int) (w : World) (K : Int → World → Prop) : den Try.prog 13 (bodyOf Try.f100) none (.seq .leaf (.seq .leaf (.seq (.seq .leaf (.blk (.loop [(3, (.int .i64)), (4, (.int .i64))] (.seq (.seq .leaf (.cond .leaf .leaf)) (.seq (.blk .leaf) .leaf))))) (.seq .leaf .leaf)))) (argEnv 0 [(Value.int .i64 a0)]) [] w (retK Try.prog [.tmp 2] [.one (.int .i64)] K) = s_ref01_pow a0 w K := by kernel_rfl
theorem ok_ref01_pow {a0 w K} (h : s_ref01_pow a0 w K) : c_ref01_pow a0 w K :=
  fn_sound pok Try.func100 (fn := Try.f100) (c := bodyOf Try.f100) (nt := 13) (by kernel_rfl) (by kernel_rfl) (rs := [.tmp 2]) (by kernel_rfl) [.one (.int .i64)] K (.seq .leaf (.seq .leaf (.seq (.seq .leaf (.blk (.loop [(3, (.int .i64)), (4, (.int .i64))] (.seq (.seq .leaf (.cond .leaf .leaf)) (.seq (.blk .leaf) .leaf))))) (.seq .leaf .leaf)))) [(Value.int .i64 a0)] (by kernel_rfl) w ((e_ref01_pow a0 w K).mpr h)

/-- goosepond/goosepondref01.Word -/
def s_ref01_Word (a0 : SliceV) (a1 : Int) (w : World) (K : Int → World → Prop) : Prop :=
 ((bif (decide ((IntKind.i64.wrap (a1 + 1)) < (a0.len : Int))) then
 AtIx a0 1 a1 fun a3 =>
 Ld (.int .u8) w.drew a3 fun x4 =>
 AtIx a0 1 (IntKind.i64.wrap (a1 + 1)) fun a5 =>
 Ld (.int .u8) w.drew a5 fun x6 =>
 K (IntKind.i64.wrap ((IntKind.i64.wrap ((IntKind.i64.wrap x4) * 256)) + (IntKind.i64.wrap x6))) w.drew
 else
 AtIx a0 1 a1 fun a7 =>
 Ld (.int .u8) w a7 fun x8 =>
 K (IntKind.i64.wrap ((IntKind.i64.wrap x8) * 256)) w))
theorem e_ref01_Word (a0 : SliceV) (a1 : Int) (w : World) (K : Int → World → Prop) : den Try.prog 29 (bodyOf Try.f101) none (.seq .leaf (.seq (.seq .leaf (.cond (.seq .leaf .leaf) .leaf)) (.seq .leaf .leaf))) (argEnv 0 [(Value.slice a0.a a0.len a0.cap), (Value.int .i64 a1)]) [] w (retK Try.prog [.tmp 4] [.one (.int .i64)] K) = s_ref01_Word a0 a1 w K := by kernel_rfl
theorem ok_ref01_Word {a0 a1 w K} (h : s_ref01_Word a0 a1 w K) : c_ref01_Word a0 a1 w K :=
  fn_sound pok Try.func101 (fn := Try.f101) (c := bodyOf Try.f101) (nt := 29) (by kernel_rfl) (by kernel_rfl) (rs := [.tmp 4]) (by kernel_rfl) [.one (.int .i64)] K (.seq .leaf (.seq (.seq .leaf (.cond (.seq .leaf .leaf) .leaf)) (.seq .leaf .leaf))) [(Value.slice a0.a a0.len a0.cap), (Value.int .i64 a1)] (by kernel_rfl) w ((e_ref01_Word a0 a1 w K).mpr h)

/-- goosepond/goosepondref02.Fold -/
def s_ref02_Fold (a0 : Int) (w : World) (K : Int → World → Prop) : Prop :=
 ((bif (decide (a0 < 0)) then
 K 0 w
 else
 LoopP (S := Int × Unit) (fun s2 w3 next4 =>
 (bif (decide (s2.1 > 65535)) then
 (65536 : Int) ≠ 0 ∧
 (65536 : Int) ≠ 0 ∧
 next4 ((IntKind.i64.wrap ((Int.tmod s2.1 65536) + (IntKind.i64.wrap (Int.tdiv s2.1 65536)))), ()) w3
 else
 K s2.1 w3)) (a0, ()) w))
theorem e_ref02_Fold (a0 : Int) (w : World) (K : Int → World → Prop) : den Try.prog 13 (bodyOf Try.f102) none (.seq .leaf (.seq (.seq .leaf (.cond (.seq .leaf .leaf) .leaf)) (.seq (.blk (.loop [(0, (.int .i64))] (.seq (.seq .leaf (.cond .leaf .leaf)) (.blk .leaf)))) (.seq .leaf .leaf)))) (argEnv 0 [(Value.int .i64 a0)]) [] w (retK Try.prog [.tmp 2] [.one (.int .i64)] K) = s_ref02_Fold a0 w K := by kernel_rfl
theorem ok_ref02_Fold {a0 w K} (h : s_ref02_Fold a0 w K) : c_ref02_Fold a0 w K :=
  fn_sound pok Try.func102 (fn := Try.f102) (c := bodyOf Try.f102) (nt := 13) (by kernel_rfl) (by kernel_rfl) (rs := [.tmp 2]) (by kernel_rfl) [.one (.int .i64)] K (.seq .leaf (.seq (.seq .leaf (.cond (.seq .leaf .leaf) .leaf)) (.seq (.blk (.loop [(0, (.int .i64))] (.seq (.seq .leaf (.cond .leaf .leaf)) (.blk .leaf)))) (.seq .leaf .leaf)))) [(Value.int .i64 a0)] (by kernel_rfl) w ((e_ref02_Fold a0 w K).mpr h)

/-- goosepond/goosepondref01.Get -/
def s_ref01_Get (a0 : SliceV) (a1 : Int) (a2 : Int) (w : World) (K : Int → Int → World → Prop) : Prop :=
 (let J4 : Bool → Prop := fun j5 =>
 ((bif j5 then
 K 0 1 w
 else
 (bif (decide (a1 > (IntKind.i64.wrap ((a0.len : Int) - a2)))) then
 K 0 3 w
 else
 LoopP (S := Int × Int × Unit) (fun s6 w7 next8 =>
 (bif (decide (s6.2.1 < a2)) then
 AtIx a0 1 (IntKind.i64.wrap (a1 + s6.2.1)) fun a9 =>
 Ld (.int .u8) w7 a9 fun x10 =>
 next8 ((IntKind.i64.wrap ((IntKind.i64.wrap (s6.1 * 256)) + (IntKind.i64.wrap x10))), (IntKind.i64.wrap (s6.2.1 + 1)), ()) w7
 else
 K s6.1 0 w7)) (0, 0, ()) w)))
 (bif (decide (a2 < 1)) then
 J4 true
 else
 (bif (decide (a2 > 4)) then
 J4 true
 else
 J4 (decide (a1 < 0)))))
theorem e_ref01_Get (a0 : SliceV) (a1 : Int) (a2 : Int) (w : World) (K : Int → Int → World → Prop) : den Try.prog 42 (bodyOf Try.f103) none (.seq .leaf (.seq (.seq .leaf (.cond (.seq .leaf .leaf) .leaf)) (.seq (.seq .leaf (.cond (.seq .leaf .leaf) .leaf)) (.seq .leaf (.seq (.seq .leaf (.blk (.loop [(8, (.int .i64)), (9, (.int .i64))] (.seq (.seq .leaf (.cond .leaf .leaf)) (.seq (.blk .leaf) .leaf))))) (.seq .leaf .leaf)))))) (argEnv 0 [(Value.slice a0.a a0.len a0.cap), (Value.int .i64 a1), (Value.int .i64 a2)]) [] w (retK Try.prog [.tmp 6, .tmp 7] [.one (.int .i64), .one (.int .i64)] K) = s_ref01_Get a0 a1 a2 w K := by kernel_rfl
theorem ok_ref01_Get {a0 a1 a2 w K} (h : s_ref01_Get a0 a1 a2 w K) : c_ref01_Get a0 a1 a2 w K :=
  fn_sound pok Try.func103 (fn := Try.f103) (c := bodyOf Try.f103) (nt := 42) (by kernel_rfl) (by kernel_rfl) (rs := [.tmp 6, .tmp 7]) (by kernel_rfl) [.one (.int .i64), .one (.int .i64)] K (.seq .leaf (.seq (.seq .leaf (.cond (.seq .leaf .leaf) .leaf)) (.seq (.seq .leaf (.cond (.seq .leaf .leaf) .leaf)) (.seq .leaf (.seq (.seq .leaf (.blk (.loop [(8, (.int .i64)), (9, (.int .i64))] (.seq (.seq .leaf (.cond .leaf .leaf)) (.seq (.blk .leaf) .leaf))))) (.seq .leaf .leaf)))))) [(Value.slice a0.a a0.len a0.cap), (Value.int .i64 a1), (Value.int .i64 a2)] (by kernel_rfl) w ((e_ref01_Get a0 a1 a2 w K).mpr h)

/-- goosepond/goosepondref05.num -/
def s_ref05_num (a0 : SliceV) (a1 : Int) (a2 : Int) (w : World) (K : Int → World → Prop) : Prop :=
 (c_ref01_Get a0 a1 a2 w fun r4 r5 w6 =>
 K r4 w6)
theorem e_ref05_num (a0 : SliceV) (a1 : Int) (a2 : Int) (w : World) (K : Int → World → Prop) : den Try.prog 17 (bodyOf Try.f104) none (.seq .leaf (.seq .leaf (.seq .leaf .leaf))) (argEnv 0 [(Value.slice a0.a a0.len a0.cap), (Value.int .i64 a1), (Value.int .i64 a2)]) [] w (retK Try.prog [.tmp 6] [.one (.int .i64)] K) = s_ref05_num a0 a1 a2 w K := by kernel_rfl
theorem ok_ref05_num {a0 a1 a2 w K} (h : s_ref05_num a0 a1 a2 w K) : c_ref05_num a0 a1 a2 w K :=
  fn_sound pok Try.func104 (fn := Try.f104) (c := bodyOf Try.f104) (nt := 17) (by kernel_rfl) (by kernel_rfl) (rs := [.tmp 6]) (by kernel_rfl) [.one (.int .i64)] K (.seq .leaf (.seq .leaf (.seq .leaf .leaf))) [(Value.slice a0.a a0.len a0.cap), (Value.int .i64 a1), (Value.int .i64 a2)] (by kernel_rfl) w ((e_ref05_num a0 a1 a2 w K).mpr h)

/-- goosepond/goosepondref02.Right -/
def s_ref02_Right (a0 : SliceV) (w : World) (K : Bool → World → Prop) : Prop :=
 (c_ref02_Add a0 w fun r2 w3 =>
 K (r2 == 65535) w3)
theorem e_ref02_Right (a0 : SliceV) (w : World) (K : Bool → World → Prop) : den Try.prog 6 (bodyOf Try.f105) none (.seq .leaf (.seq .leaf .leaf)) (argEnv 0 [(Value.slice a0.a a0.len a0.cap)]) [] w (retK Try.prog [.tmp 2] [.one .bool] K) = s_ref02_Right a0 w K := by kernel_rfl
theorem ok_ref02_Right {a0 w K} (h : s_ref02_Right a0 w K) : c_ref02_Right a0 w K :=
  fn_sound pok Try.func105 (fn := Try.f105) (c := bodyOf Try.f105) (nt := 6) (by kernel_rfl) (by kernel_rfl) (rs := [.tmp 2]) (by kernel_rfl) [.one .bool] K (.seq .leaf (.seq .leaf .leaf)) [(Value.slice a0.a a0.len a0.cap)] (by kernel_rfl) w ((e_ref02_Right a0 w K).mpr h)

/-- goosepond/goosepondref05.fields -/
def s_ref05_fields (a0 : SliceV) (a1 : SliceV) (w : World) (K : Int → Int → Int → Int → Int → Int → Int → Bool → Bool → SliceV → SliceV → World → Prop) : Prop :=
 (Al w (.cells ⟨[(Value.int .i64 0), (Value.int .i64 0), (Value.int .i64 0), (Value.int .i64 0), (Value.int .i64 0), (Value.int .i64 0), (Value.int .i64 0), (Value.bool false), (Value.bool false), (Value.slice none 0 0), (Value.slice none 0 0)]⟩ 46) fun a4 w3 =>
 AtIx a0 1 0 fun a5 =>
 Ld (.int .u8) w3 a5 fun x6 =>
 (16 : Int) ≠ 0 ∧
 c_ref05_num a0 6 2 w3 fun r7 w8 =>
 let J9 : Addr → World → Prop := fun j10 w11 =>
 ((16384 : Int) ≠ 0 ∧
 (2 : Int) ≠ 0 ∧
 (8192 : Int) ≠ 0 ∧
 (2 : Int) ≠ 0 ∧
 St w11 (j10.add 7) (Value.bool ((Int.tmod (IntKind.i64.wrap (Int.tdiv r7 16384)) 2) == 1)) fun w12 =>
 St w12 (j10.add 8) (Value.bool ((Int.tmod (IntKind.i64.wrap (Int.tdiv r7 8192)) 2) == 1)) fun w13 =>
 SubSl a0 1 20 (IntKind.i64.wrap ((IntKind.i64.wrap (Int.tmod x6 16)) * 4)) fun s14 =>
 AppSl 5 1 1 [(Value.int .u8 0)] ⟨none, 0, 0⟩ s14 w13 fun s15 w16 =>
 AppSl 5 1 1 [(Value.int .u8 0)] ⟨none, 0, 0⟩ a1 w16 fun s17 w18 =>
 St w18 (j10.add 9) (Value.slice s15.a s15.len s15.cap) fun w19 =>
 St w19 (j10.add 10) (Value.slice s17.a s17.len s17.cap) fun w20 =>
 Ld (.int .i64) w20 (j10.add 0) fun x21 =>
 Ld (.int .i64) w20 (j10.add 1) fun x22 =>
 Ld (.int .i64) w20 (j10.add 2) fun x23 =>
 Ld (.int .i64) w20 (j10.add 3) fun x24 =>
 Ld (.int .i64) w20 (j10.add 4) fun x25 =>
 Ld (.int .i64) w20 (j10.add 5) fun x26 =>
 Ld (.int .i64) w20 (j10.add 6) fun x27 =>
 Ld .bool w20 (j10.add 7) fun x28 =>
 Ld .bool w20 (j10.add 8) fun x29 =>
 Ld .slice w20 (j10.add 9) fun x30 =>
 Ld .slice w20 (j10.add 10) fun x31 =>
 StN [(Value.int .i64 x21), (Value.int .i64 x22), (Value.int .i64 x23), (Value.int .i64 x24), (Value.int .i64 x25), (Value.int .i64 x26), (Value.int .i64 x27), (Value.bool x28), (Value.bool x29), (Value.slice x30.a x30.len x30.cap), (Value.slice x31.a x31.len x31.cap)] w20 a4 0 fun w32 =>
 Ld (.int .i64) w32 (a4.add 0) fun y33 =>
 Ld (.int .i64) w32 (a4.add 1) fun y34 =>
 Ld (.int .i64) w32 (a4.add 2) fun y35 =>
 Ld (.int .i64) w32 (a4.add 3) fun y36 =>
 Ld (.int .i64) w32 (a4.add 4) fun y37 =>
 Ld (.int .i64) w32 (a4.add 5) fun y38 =>
 Ld (.int .i64) w32 (a4.add 6) fun y39 =>
 Ld .bool w32 (a4.add 7) fun y40 =>
 Ld .bool w32 (a4.add 8) fun y41 =>
 Ld .slice w32 (a4.add 9) fun y42 =>
 Ld .slice w32 (a4.add 10) fun y43 =>
 K y33 y34 y35 y36 y37 y38 y39 y40 y41 y42 y43 w32)
 AtIx a0 1 1 fun a44 =>
 Ld (.int .u8) w8.drew a44 fun x45 =>
 (8192 : Int) ≠ 0 ∧
 AtIx a0 1 8 fun a46 =>
 Ld (.int .u8) w8.drew a46 fun x47 =>
 AtIx a0 1 9 fun a48 =>
 Ld (.int .u8) w8.drew a48 fun x49 =>
 (c_ref05_num a0 4 2 w8.drew fun r50 w51 =>
 w51.cell? a48 = some (Value.int .u8 x49) ∧
 w51.cell? a46 = some (Value.int .u8 x47) ∧
 w51.cell? a44 = some (Value.int .u8 x45) ∧
 (c_ref05_num a0 12 4 w51 fun r52 w53 =>
 w53.cell? a48 = some (Value.int .u8 x49) ∧
 w53.cell? a46 = some (Value.int .u8 x47) ∧
 w53.cell? a44 = some (Value.int .u8 x45) ∧
 (c_ref05_num a0 16 4 w53 fun r54 w55 =>
 w55.cell? a48 = some (Value.int .u8 x49) ∧
 w55.cell? a46 = some (Value.int .u8 x47) ∧
 w55.cell? a44 = some (Value.int .u8 x45) ∧
 Al w55 (.cells ⟨[(Value.int .i64 0), (Value.int .i64 0), (Value.int .i64 0), (Value.int .i64 0), (Value.int .i64 0), (Value.int .i64 0), (Value.int .i64 0), (Value.bool false), (Value.bool false), (Value.slice none 0 0), (Value.slice none 0 0)]⟩ 46) fun a57 w56 =>
 w56.cell? a48 = some (Value.int .u8 x49) ∧
 w56.cell? a46 = some (Value.int .u8 x47) ∧
 w56.cell? a44 = some (Value.int .u8 x45) ∧
 StN [(Value.int .i64 (IntKind.i64.wrap x45)), (Value.int .i64 r50), (Value.int .i64 (IntKind.i64.wrap ((Int.tmod r7 8192) * 8))), (Value.int .i64 (IntKind.i64.wrap x47)), (Value.int .i64 (IntKind.i64.wrap x49)), (Value.int .i64 r52), (Value.int .i64 r54), (Value.bool false), (Value.bool false), (Value.slice none 0 0), (Value.slice none 0 0)] w56 a57 0 fun w58 =>
 J9 a57 w58) ∧
 (Al w53 (.cells ⟨[(Value.int .i64 0), (Value.int .i64 0), (Value.int .i64 0), (Value.int .i64 0), (Value.int .i64 0), (Value.int .i64 0), (Value.int .i64 0), (Value.bool false), (Value.bool false), (Value.slice none 0 0), (Value.slice none 0 0)]⟩ 46) fun a60 w59 =>
 w59.cell? a48 = some (Value.int .u8 x49) ∧
 w59.cell? a46 = some (Value.int .u8 x47) ∧
 w59.cell? a44 = some (Value.int .u8 x45) ∧
 c_ref05_num a0 16 4 w59 fun r61 w62 =>
 w62.cell? a48 = some (Value.int .u8 x49) ∧
 w62.cell? a46 = some (Value.int .u8 x47) ∧
 w62.cell? a44 = some (Value.int .u8 x45) ∧
 StN [(Value.int .i64 (IntKind.i64.wrap x45)), (Value.int .i64 r50), (Value.int .i64 (IntKind.i64.wrap ((Int.tmod r7 8192) * 8))), (Value.int .i64 (IntKind.i64.wrap x47)), (Value.int .i64 (IntKind.i64.wrap x49)), (Value.int .i64 r52), (Value.int .i64 r61), (Value.bool false), (Value.bool false), (Value.slice none 0 0), (Value.slice none 0 0)] w62 a60 0 fun w63 =>
 J9 a60 w63)) ∧
 (Al w51 (.cells ⟨[(Value.int .i64 0), (Value.int .i64 0), (Value.int .i64 0), (Value.int .i64 0), (Value.int .i64 0), (Value.int .i64 0), (Value.int .i64 0), (Value.bool false), (Value.bool false), (Value.slice none 0 0), (Value.slice none 0 0)]⟩ 46) fun a65 w64 =>
 w64.cell? a48 = some (Value.int .u8 x49) ∧
 w64.cell? a46 = some (Value.int .u8 x47) ∧
 w64.cell? a44 = some (Value.int .u8 x45) ∧
 c_ref05_num a0 12 4 w64 fun r66 w67 =>
 w67.cell? a48 = some (Value.int .u8 x49) ∧
 w67.cell? a46 = some (Value.int .u8 x47) ∧
 w67.cell? a44 = some (Value.int .u8 x45) ∧
 c_ref05_num a0 16 4 w67 fun r68 w69 =>
 w69.cell? a48 = some (Value.int .u8 x49) ∧
 w69.cell? a46 = some (Value.int .u8 x47) ∧
 w69.cell? a44 = some (Value.int .u8 x45) ∧
 StN [(Value.int .i64 (IntKind.i64.wrap x45)), (Value.int .i64 r50), (Value.int .i64 (IntKind.i64.wrap ((Int.tmod r7 8192) * 8))), (Value.int .i64 (IntKind.i64.wrap x47)), (Value.int .i64 (IntKind.i64.wrap x49)), (Value.int .i64 r66), (Value.int .i64 r68), (Value.bool false), (Value.bool false), (Value.slice none 0 0), (Value.slice none 0 0)] w69 a65 0 fun w70 =>
 J9 a65 w70)) ∧
 (Al w8.drew (.cells ⟨[(Value.int .i64 0), (Value.int .i64 0), (Value.int .i64 0), (Value.int .i64 0), (Value.int .i64 0), (Value.int .i64 0), (Value.int .i64 0), (Value.bool false), (Value.bool false), (Value.slice none 0 0), (Value.slice none 0 0)]⟩ 46) fun a72 w71 =>
 w71.cell? a48 = some (Value.int .u8 x49) ∧
 w71.cell? a46 = some (Value.int .u8 x47) ∧
 w71.cell? a44 = some (Value.int .u8 x45) ∧
 c_ref05_num a0 4 2 w71 fun r73 w74 =>
 w74.cell? a48 = some (Value.int .u8 x49) ∧
 w74.cell? a46 = some (Value.int .u8 x47) ∧
 w74.cell? a44 = some (Value.int .u8 x45) ∧
 c_ref05_num a0 12 4 w74 fun r75 w76 =>
 w76.cell? a48 = some (Value.int .u8 x49) ∧
 w76.cell? a46 = some (Value.int .u8 x47) ∧
 w76.cell? a44 = some (Value.int .u8 x45) ∧
 c_ref05_num a0 16 4 w76 fun r77 w78 =>
 w78.cell? a48 = some (Value.int .u8 x49) ∧
 w78.cell? a46 = some (Value.int .u8 x47) ∧
 w78.cell? a44 = some (Value.int .u8 x45) ∧
 StN [(Value.int .i64 (IntKind.i64.wrap x45)), (Value.int .i64 r73), (Value.int .i64 (IntKind.i64.wrap ((Int.tmod r7 8192) * 8))), (Value.int .i64 (IntKind.i64.wrap x47)), (Value.int .i64 (IntKind.i64.wrap x49)), (Value.int .i64 r75), (Value.int .i64 r77), (Value.bool false), (Value.bool false), (Value.slice none 0 0), (Value.slice none 0 0)] w78 a72 0 fun w79 =>
 J9 a72 w79))
theorem e_ref05_fields (a0 : SliceV) (a1 : SliceV) (w : World) (K : Int → Int → Int → Int → Int → Int → Int → Bool → Bool → SliceV → SliceV → World → Prop) : den Try.prog 57 (bodyOf Try.f106) none (.seq .leaf (.seq .leaf (.seq .leaf (.seq .leaf (.seq .leaf (.seq .leaf (.seq .leaf .leaf))))))) (argEnv 0 [(Value.slice a0.a a0.len a0.cap), (Value.slice a1.a a1.len a1.cap)]) [] w (retK Try.prog [.cell 4 46] [.agg [(.int .i64), (.int .i64), (.int .i64), (.int .i64), (.int .i64), (.int .i64), (.int .i64), .bool, .bool, .slice, .slice]] K) = s_ref05_fields a0 a1 w K := by kernel_rfl
theorem ok_ref05_fields {a0 a1 w K} (h : s_ref05_fields a0 a1 w K) : c_ref05_fields a0 a1 w K :=
  fn_sound pok Try.func106 (fn := Try.f106) (c := bodyOf Try.f106) (nt := 57) (by kernel_rfl) (by kernel_rfl) (rs := [.cell 4 46]) (by kernel_rfl) [.agg [(.int .i64), (.int .i64), (.int .i64), (.int .i64), (.int .i64), (.int .i64), (.int .i64), .bool, .bool, .slice, .slice]] K (.seq .leaf (.seq .leaf (.seq .leaf (.seq .leaf (.seq .leaf (.seq .leaf (.seq .leaf .leaf))))))) [(Value.slice a0.a a0.len a0.cap), (Value.slice a1.a a1.len a1.cap)] (by kernel_rfl) w ((e_ref05_fields a0 a1 w K).mpr h)

/-- goosepond/goosepondref03.Host -/
def s_ref03_Host (a0 : Int) (w : World) (K : Bool → World → Prop) : Prop :=
 (let J2 : Bool → Prop := fun j3 =>
 (K j3 w)
 (bif (decide (a0 ≥ 16777216)) then
 (bif (decide (a0 < 3758096384)) then
 (16777216 : Int) ≠ 0 ∧
 J2 ((IntKind.i64.wrap (Int.tdiv a0 16777216)) != 127)
 else
 J2 false)
 else
 J2 false))
theorem e_ref03_Host (a0 : Int) (w : World) (K : Bool → World → Prop) : den Try.prog 14 (bodyOf Try.f107) none (.seq .leaf (.seq .leaf .leaf)) (argEnv 0 [(Value.int .i64 a0)]) [] w (retK Try.prog [.tmp 2] [.one .bool] K) = s_ref03_Host a0 w K := by kernel_rfl
theorem ok_ref03_Host {a0 w K} (h : s_ref03_Host a0 w K) : c_ref03_Host a0 w K :=
  fn_sound pok Try.func107 (fn := Try.f107) (c := bodyOf Try.f107) (nt := 14) (by kernel_rfl) (by kernel_rfl) (rs := [.tmp 2]) (by kernel_rfl) [.one .bool] K (.seq .leaf (.seq .leaf .leaf)) [(Value.int .i64 a0)] (by kernel_rfl) w ((e_ref03_Host a0 w K).mpr h)

/-- goosepond/goosepondref09.Fault -/
def s_ref09_Fault (a0 : Int) (w : World) (K : Bool → World → Prop) : Prop :=
 (let J2 : Bool → Prop := fun j3 =>
 (K j3 w)
 (bif (decide (a0 ≥ 3)) then
 (bif (decide (a0 ≤ 5)) then
 J2 true
 else
 (bif (a0 == 11) then
 J2 true
 else
 J2 (a0 == 12)))
 else
 (bif (a0 == 11) then
 J2 true
 else
 J2 (a0 == 12))))
theorem e_ref09_Fault (a0 : Int) (w : World) (K : Bool → World → Prop) : den Try.prog 17 (bodyOf Try.f108) none (.seq .leaf (.seq .leaf .leaf)) (argEnv 0 [(Value.int .i64 a0)]) [] w (retK Try.prog [.tmp 2] [.one .bool] K) = s_ref09_Fault a0 w K := by kernel_rfl
theorem ok_ref09_Fault {a0 w K} (h : s_ref09_Fault a0 w K) : c_ref09_Fault a0 w K :=
  fn_sound pok Try.func108 (fn := Try.f108) (c := bodyOf Try.f108) (nt := 17) (by kernel_rfl) (by kernel_rfl) (rs := [.tmp 2]) (by kernel_rfl) [.one .bool] K (.seq .leaf (.seq .leaf .leaf)) [(Value.int .i64 a0)] (by kernel_rfl) w ((e_ref09_Fault a0 w K).mpr h)

/-- goosepond/goosepondref09.Check -/
def s_ref09_Check (a0_0 : Int) (a0_1 : Int) (a0_2 : Int) (a0_3 : SliceV) (w : World) (K : Int → World → Prop) : Prop :=
 (Al w (.cells ⟨[(Value.int .i64 a0_0), (Value.int .i64 a0_1), (Value.int .i64 a0_2), (Value.slice a0_3.a a0_3.len a0_3.cap)]⟩ 44) fun a3 w2 =>
 let J4 : Bool → World → Prop := fun j5 w6 =>
 ((bif j5 then
 K 1 w6
 else
 Ld .slice w6 (a3.add 3) fun x7 =>
 (bif (decide ((x7.len : Int) > 65527)) then
 K 6 w6
 else
 K 0 w6)))
 Ld (.int .i64) w2 a3 fun x8 =>
 c_ref01_Fits x8 1 w2 fun r9 w10 =>
 (bif (!r9) then
 J4 true w10
 else
 Ld (.int .i64) w10 (a3.add 1) fun x11 =>
 c_ref01_Fits x11 1 w10 fun r12 w13 =>
 (bif (!r12) then
 J4 true w13
 else
 Ld (.int .i64) w13 (a3.add 2) fun x14 =>
 c_ref01_Fits x14 4 w13 fun r15 w16 =>
 J4 (!r15) w16)))
theorem e_ref09_Check (a0_0 : Int) (a0_1 : Int) (a0_2 : Int) (a0_3 : SliceV) (w : World) (K : Int → World → Prop) : den Try.prog 23 (bodyOf Try.f109) none (.seq .leaf (.seq (.seq .leaf (.cond (.seq .leaf .leaf) .leaf)) (.seq (.seq .leaf (.cond (.seq .leaf .leaf) .leaf)) (.seq .leaf .leaf)))) (argEnv 0 [(Value.agg ⟨[(Value.int .i64 a0_0), (Value.int .i64 a0_1), (Value.int .i64 a0_2), (Value.slice a0_3.a a0_3.len a0_3.cap)]⟩)]) [] w (retK Try.prog [.tmp 2] [.one (.int .i64)] K) = s_ref09_Check a0_0 a0_1 a0_2 a0_3 w K := by kernel_rfl
theorem ok_ref09_Check {a0_0 a0_1 a0_2 a0_3 w K} (h : s_ref09_Check a0_0 a0_1 a0_2 a0_3 w K) : c_ref09_Check a0_0 a0_1 a0_2 a0_3 w K :=
  fn_sound pok Try.func109 (fn := Try.f109) (c := bodyOf Try.f109) (nt := 23) (by kernel_rfl) (by kernel_rfl) (rs := [.tmp 2]) (by kernel_rfl) [.one (.int .i64)] K (.seq .leaf (.seq (.seq .leaf (.cond (.seq .leaf .leaf) .leaf)) (.seq (.seq .leaf (.cond (.seq .leaf .leaf) .leaf)) (.seq .leaf .leaf)))) [(Value.agg ⟨[(Value.int .i64 a0_0), (Value.int .i64 a0_1), (Value.int .i64 a0_2), (Value.slice a0_3.a a0_3.len a0_3.cap)]⟩)] (by kernel_rfl) w ((e_ref09_Check a0_0 a0_1 a0_2 a0_3 w K).mpr h)

/-- goosepond/goosepondref09.Bytes -/
def s_ref09_Bytes (a0_0 : Int) (a0_1 : Int) (a0_2 : Int) (a0_3 : SliceV) (a1 : Int) (w : World) (K : SliceV → World → Prop) : Prop :=
 (Al w (.cells ⟨[(Value.int .i64 a0_0), (Value.int .i64 a0_1), (Value.int .i64 a0_2), (Value.slice a0_3.a a0_3.len a0_3.cap)]⟩ 44) fun a4 w3 =>
 Ld (.int .i64) w3 a4 fun x5 =>
 Ld (.int .i64) w3 (a4.add 1) fun x6 =>
 Al w3 (.cells ⟨[(Value.int .u8 (IntKind.u8.wrap x5)), (Value.int .u8 (IntKind.u8.wrap x6))]⟩ 5) fun a8 w7 =>
 c_ref01_Put ⟨(some a8), 2, 2⟩ a1 2 w7 fun r9 w10 =>
 Ld (.int .i64) w10.drew (a4.add 2) fun x11 =>
 Ld .slice w10.drew (a4.add 3) fun x12 =>
 c_ref01_Put r9 x11 4 w10.drew fun r13 w14 =>
 w14.cell? (a4.add 3) = some (Value.slice x12.a x12.len x12.cap) ∧
 AppSl 5 1 1 [(Value.int .u8 0)] r13 x12 w14 fun s15 w16 =>
 K s15 w16)
theorem e_ref09_Bytes (a0_0 : Int) (a0_1 : Int) (a0_2 : Int) (a0_3 : SliceV) (a1 : Int) (w : World) (K : SliceV → World → Prop) : den Try.prog 22 (bodyOf Try.f110) none (.seq .leaf (.seq .leaf (.seq .leaf .leaf))) (argEnv 0 [(Value.agg ⟨[(Value.int .i64 a0_0), (Value.int .i64 a0_1), (Value.int .i64 a0_2), (Value.slice a0_3.a a0_3.len a0_3.cap)]⟩), (Value.int .i64 a1)]) [] w (retK Try.prog [.tmp 4] [.one .slice] K) = s_ref09_Bytes a0_0 a0_1 a0_2 a0_3 a1 w K := by kernel_rfl
theorem ok_ref09_Bytes {a0_0 a0_1 a0_2 a0_3 a1 w K} (h : s_ref09_Bytes a0_0 a0_1 a0_2 a0_3 a1 w K) : c_ref09_Bytes a0_0 a0_1 a0_2 a0_3 a1 w K :=
  fn_sound pok Try.func110 (fn := Try.f110) (c := bodyOf Try.f110) (nt := 22) (by kernel_rfl) (by kernel_rfl) (rs := [.tmp 4]) (by kernel_rfl) [.one .slice] K (.seq .leaf (.seq .leaf (.seq .leaf .leaf))) [(Value.agg ⟨[(Value.int .i64 a0_0), (Value.int .i64 a0_1), (Value.int .i64 a0_2), (Value.slice a0_3.a a0_3.len a0_3.cap)]⟩), (Value.int .i64 a1)] (by kernel_rfl) w ((e_ref09_Bytes a0_0 a0_1 a0_2 a0_3 a1 w K).mpr h)

/-- goosepond/be.Get -/
def s_be_Get (a0 : SliceV) (a1 : Int) (a2 : Int) (w : World) (K : Int → Int → World → Prop) : Prop :=
 (c_be_window a0 a1 a2 w fun r4 r5 w6 =>
 LoopP (S := Int × Int × Unit) (fun s7 w8 next9 =>
 (bif (decide (s7.2.1 < (r4.len : Int))) then
 AtIx r4 1 s7.2.1 fun a10 =>
 Ld (.int .u8) w8 a10 fun x11 =>
 0 ≤ (8 : Int) ∧
 next9 ((orI .i64 (shlI .i64 s7.1 8) (IntKind.i64.wrap x11)), (IntKind.i64.wrap (s7.2.1 + 1)), ()) w8
 else
 K s7.1 r5 w8)) (0, 0, ()) w6)
theorem e_be_Get (a0 : SliceV) (a1 : Int) (a2 : Int) (w : World) (K : Int → Int → World → Prop) : den Try.prog 34 (bodyOf Try.f115) none (.seq .leaf (.seq .leaf (.seq .leaf (.seq (.seq .leaf (.blk (.loop [(10, (.int .i64)), (22, (.int .i64))] (.seq .leaf (.seq (.cond .leaf .leaf) (.seq (.blk (.seq .leaf .leaf)) .leaf)))))) (.seq .leaf .leaf))))) (argEnv 0 [(Value.slice a0.a a0.len a0.cap), (Value.int .i64 a1), (Value.int .i64 a2)]) [] w (retK Try.prog [.tmp 6, .tmp 7] [.one (.int .i64), .one (.int .i64)] K) = s_be_Get a0 a1 a2 w K := by kernel_rfl
theorem ok_be_Get {a0 a1 a2 w K} (h : s_be_Get a0 a1 a2 w K) : c_be_Get a0 a1 a2 w K :=
  fn_sound pok Try.func115 (fn := Try.f115) (c := bodyOf Try.f115) (nt := 34) (by kernel_rfl) (by kernel_rfl) (rs := [.tmp 6, .tmp 7]) (by kernel_rfl) [.one (.int .i64), .one (.int .i64)] K (.seq .leaf (.seq .leaf (.seq .leaf (.seq (.seq .leaf (.blk (.loop [(10, (.int .i64)), (22, (.int .i64))] (.seq .leaf (.seq (.cond .leaf .leaf) (.seq (.blk (.seq .leaf .leaf)) .leaf)))))) (.seq .leaf .leaf))))) [(Value.slice a0.a a0.len a0.cap), (Value.int .i64 a1), (Value.int .i64 a2)] (by kernel_rfl) w ((e_be_Get a0 a1 a2 w K).mpr h)

/-- (goosepond/v4.reader).num -/
def s_v4_reader_num (a0_0 : SliceV) (a0_1 : Int) (a0_2 : Int) (a1 : Int) (a2 : Int) (w : World) (K : Int → World → Prop) : Prop :=
 (Al w (.cells ⟨[(Value.slice a0_0.a a0_0.len a0_0.cap), (Value.int .i64 a0_1), (Value.int .i64 a0_2)]⟩ 141) fun a5 w4 =>
 Ld .slice w4 a5 fun x6 =>
 c_be_Get x6 a1 a2 w4 fun r7 r8 w9 =>
 K r7 w9)
theorem e_v4_reader_num (a0_0 : SliceV) (a0_1 : Int) (a0_2 : Int) (a1 : Int) (a2 : Int) (w : World) (K : Int → World → Prop) : den Try.prog 18 (bodyOf Try.f116) none (.seq .leaf (.seq .leaf (.seq .leaf .leaf))) (argEnv 0 [(Value.agg ⟨[(Value.slice a0_0.a a0_0.len a0_0.cap), (Value.int .i64 a0_1), (Value.int .i64 a0_2)]⟩), (Value.int .i64 a1), (Value.int .i64 a2)]) [] w (retK Try.prog [.tmp 6] [.one (.int .i64)] K) = s_v4_reader_num a0_0 a0_1 a0_2 a1 a2 w K := by kernel_rfl
theorem ok_v4_reader_num {a0_0 a0_1 a0_2 a1 a2 w K} (h : s_v4_reader_num a0_0 a0_1 a0_2 a1 a2 w K) : c_v4_reader_num a0_0 a0_1 a0_2 a1 a2 w K :=
  fn_sound pok Try.func116 (fn := Try.f116) (c := bodyOf Try.f116) (nt := 18) (by kernel_rfl) (by kernel_rfl) (rs := [.tmp 6]) (by kernel_rfl) [.one (.int .i64)] K (.seq .leaf (.seq .leaf (.seq .leaf .leaf))) [(Value.agg ⟨[(Value.slice a0_0.a a0_0.len a0_0.cap), (Value.int .i64 a0_1), (Value.int .i64 a0_2)]⟩), (Value.int .i64 a1), (Value.int .i64 a2)] (by kernel_rfl) w ((e_v4_reader_num a0_0 a0_1 a0_2 a1 a2 w K).mpr h)

/-- goosepond/four.one -/
def s_four_one (a0 : Int) (a1 : SliceV) (w : World) (K : Bool → World → Prop) : Prop :=
 (LoopP (S := Int × Unit) (fun s3 w4 next5 =>
 (bif (decide (s3.1 < (a1.len : Int))) then
 AtIx a1 2 s3.1 fun a6 =>
 Ld (.int .i64) w4 (a6.add 0) fun x7 =>
 Ld (.int .i64) w4 (a6.add 1) fun x8 =>
 Al w4 (.cells ⟨[(Value.int .i64 0), (Value.int .i64 0)]⟩ 164) fun a10 w9 =>
 StN [(Value.int .i64 x7), (Value.int .i64 x8)] w9 a10 0 fun w11 =>
 Ld (.int .i64) w11 (a10.add 0) fun x12 =>
 Ld (.int .i64) w11 (a10.add 1) fun x13 =>
 c_four_block_has x12 x13 a0 w11 fun r14 w15 =>
 (bif r14 then
 K true w15
 else
 next5 ((IntKind.i64.wrap (s3.1 + 1)), ()) w15)
 else
 K false w4)) (0, ()) w)
theorem e_four_one (a0 : Int) (a1 : SliceV) (w : World) (K : Bool → World → Prop) : den Try.prog 17 (bodyOf Try.f117) none (.seq .leaf (.seq (.seq .leaf (.blk (.loop [(9, (.int .i64))] (.seq .leaf (.seq (.cond .leaf .leaf) (.seq (.blk (.seq .leaf (.seq .leaf (.cond (.seq .leaf .leaf) .leaf)))) .leaf)))))) (.seq .leaf .leaf))) (argEnv 0 [(Value.int .i64 a0), (Value.slice a1.a a1.len a1.cap)]) [] w (retK Try.prog [.tmp 4] [.one .bool] K) = s_four_one a0 a1 w K := by kernel_rfl
theorem ok_four_one {a0 a1 w K} (h : s_four_one a0 a1 w K) : c_four_one a0 a1 w K :=
  fn_sound pok Try.func117 (fn := Try.f117) (c := bodyOf Try.f117) (nt := 17) (by kernel_rfl) (by kernel_rfl) (rs := [.tmp 4]) (by kernel_rfl) [.one .bool] K (.seq .leaf (.seq (.seq .leaf (.blk (.loop [(9, (.int .i64))] (.seq .leaf (.seq (.cond .leaf .leaf) (.seq (.blk (.seq .leaf (.seq .leaf (.cond (.seq .leaf .leaf) .leaf)))) .leaf)))))) (.seq .leaf .leaf))) [(Value.int .i64 a0), (Value.slice a1.a a1.len a1.cap)] (by kernel_rfl) w ((e_four_one a0 a1 w K).mpr h)

/-- goosepond/icmp.Fault -/
def s_icmp_Fault (a0 : Int) (w : World) (K : Bool → World → Prop) : Prop :=
 (Al w (.cells ⟨[(Value.int .i64 3), (Value.int .i64 4), (Value.int .i64 5), (Value.int .i64 11), (Value.int .i64 12)]⟩ 3) fun a3 w2 =>
 c_icmp_one a0 ⟨(some a3), 5, 5⟩ w2 fun r4 w5 =>
 K r4 w5)
theorem e_icmp_Fault (a0 : Int) (w : World) (K : Bool → World → Prop) : den Try.prog 6 (bodyOf Try.f118) none (.seq .leaf (.seq .leaf .leaf)) (argEnv 0 [(Value.int .i64 a0)]) [] w (retK Try.prog [.tmp 2] [.one .bool] K) = s_icmp_Fault a0 w K := by kernel_rfl
theorem ok_icmp_Fault {a0 w K} (h : s_icmp_Fault a0 w K) : c_icmp_Fault a0 w K :=
  fn_sound pok Try.func118 (fn := Try.f118) (c := bodyOf Try.f118) (nt := 6) (by kernel_rfl) (by kernel_rfl) (rs := [.tmp 2]) (by kernel_rfl) [.one .bool] K (.seq .leaf (.seq .leaf .leaf)) [(Value.int .i64 a0)] (by kernel_rfl) w ((e_icmp_Fault a0 w K).mpr h)

/-- goosepond/v4.Head -/
def s_v4_Head (a0_0 : Int) (a0_1 : Int) (a0_2 : Int) (a0_3 : Int) (a0_4 : Int) (a0_5 : Int) (a0_6 : Int) (a0_7 : Bool) (a0_8 : Bool) (a0_9 : SliceV) (a0_10 : SliceV) (w : World) (K : Int → World → Prop) : Prop :=
 (Al w (.cells ⟨[(Value.int .i64 a0_0), (Value.int .i64 a0_1), (Value.int .i64 a0_2), (Value.int .i64 a0_3), (Value.int .i64 a0_4), (Value.int .i64 a0_5), (Value.int .i64 a0_6), (Value.bool a0_7), (Value.bool a0_8), (Value.slice a0_9.a a0_9.len a0_9.cap), (Value.slice a0_10.a a0_10.len a0_10.cap)]⟩ 46) fun a3 w2 =>
 Ld .slice w2 (a3.add 9) fun x4 =>
 K (IntKind.i64.wrap (20 + (x4.len : Int))) w2)
theorem e_v4_Head (a0_0 : Int) (a0_1 : Int) (a0_2 : Int) (a0_3 : Int) (a0_4 : Int) (a0_5 : Int) (a0_6 : Int) (a0_7 : Bool) (a0_8 : Bool) (a0_9 : SliceV) (a0_10 : SliceV) (w : World) (K : Int → World → Prop) : den Try.prog 7 (bodyOf Try.f119) none (.seq .leaf (.seq .leaf .leaf)) (argEnv 0 [(Value.agg ⟨[(Value.int .i64 a0_0), (Value.int .i64 a0_1), (Value.int .i64 a0_2), (Value.int .i64 a0_3), (Value.int .i64 a0_4), (Value.int .i64 a0_5), (Value.int .i64 a0_6), (Value.bool a0_7), (Value.bool a0_8), (Value.slice a0_9.a a0_9.len a0_9.cap), (Value.slice a0_10.a a0_10.len a0_10.cap)]⟩)]) [] w (retK Try.prog [.tmp 2] [.one (.int .i64)] K) = s_v4_Head a0_0 a0_1 a0_2 a0_3 a0_4 a0_5 a0_6 a0_7 a0_8 a0_9 a0_10 w K := by kernel_rfl
theorem ok_v4_Head {a0_0 a0_1 a0_2 a0_3 a0_4 a0_5 a0_6 a0_7 a0_8 a0_9 a0_10 w K} (h : s_v4_Head a0_0 a0_1 a0_2 a0_3 a0_4 a0_5 a0_6 a0_7 a0_8 a0_9 a0_10 w K) : c_v4_Head a0_0 a0_1 a0_2 a0_3 a0_4 a0_5 a0_6 a0_7 a0_8 a0_9 a0_10 w K :=
  fn_sound pok Try.func119 (fn := Try.f119) (c := bodyOf Try.f119) (nt := 7) (by kernel_rfl) (by kernel_rfl) (rs := [.tmp 2]) (by kernel_rfl) [.one (.int .i64)] K (.seq .leaf (.seq .leaf .leaf)) [(Value.agg ⟨[(Value.int .i64 a0_0), (Value.int .i64 a0_1), (Value.int .i64 a0_2), (Value.int .i64 a0_3), (Value.int .i64 a0_4), (Value.int .i64 a0_5), (Value.int .i64 a0_6), (Value.bool a0_7), (Value.bool a0_8), (Value.slice a0_9.a a0_9.len a0_9.cap), (Value.slice a0_10.a a0_10.len a0_10.cap)]⟩)] (by kernel_rfl) w ((e_v4_Head a0_0 a0_1 a0_2 a0_3 a0_4 a0_5 a0_6 a0_7 a0_8 a0_9 a0_10 w K).mpr h)

/-- goosepond/be.window -/
def s_be_window (a0 : SliceV) (a1 : Int) (a2 : Int) (w : World) (K : SliceV → Int → World → Prop) : Prop :=
 (let J4 : Bool → World → Prop := fun j5 w6 =>
 ((bif j5 then
 K ⟨none, 0, 0⟩ 1 w6
 else
 let J7 : Bool → Prop := fun j8 =>
 ((bif j8 then
 K ⟨none, 0, 0⟩ 3 w6
 else
 SubSl3 a0 1 a1 (IntKind.i64.wrap (a1 + a2)) (IntKind.i64.wrap (a1 + a2)) fun s9 =>
 K s9 0 w6))
 (bif (decide ((a0.len : Int) < a2)) then
 J7 true
 else
 J7 (decide (a1 > (IntKind.i64.wrap ((a0.len : Int) - a2)))))))
 c_be_right a2 w fun r10 w11 =>
 (bif (!r10) then
 J4 true w11
 else
 J4 (decide (a1 < 0)) w11))
theorem e_be_window (a0 : SliceV) (a1 : Int) (a2 : Int) (w : World) (K : SliceV → Int → World → Prop) : den Try.prog 36 (bodyOf Try.f120) none (.seq .leaf (.seq (.seq .leaf (.cond (.seq .leaf .leaf) .leaf)) (.seq (.seq .leaf (.cond (.seq .leaf .leaf) .leaf)) (.seq .leaf .leaf)))) (argEnv 0 [(Value.slice a0.a a0.len a0.cap), (Value.int .i64 a1), (Value.int .i64 a2)]) [] w (retK Try.prog [.tmp 6, .tmp 7] [.one .slice, .one (.int .i64)] K) = s_be_window a0 a1 a2 w K := by kernel_rfl
theorem ok_be_window {a0 a1 a2 w K} (h : s_be_window a0 a1 a2 w K) : c_be_window a0 a1 a2 w K :=
  fn_sound pok Try.func120 (fn := Try.f120) (c := bodyOf Try.f120) (nt := 36) (by kernel_rfl) (by kernel_rfl) (rs := [.tmp 6, .tmp 7]) (by kernel_rfl) [.one .slice, .one (.int .i64)] K (.seq .leaf (.seq (.seq .leaf (.cond (.seq .leaf .leaf) .leaf)) (.seq (.seq .leaf (.cond (.seq .leaf .leaf) .leaf)) (.seq .leaf .leaf)))) [(Value.slice a0.a a0.len a0.cap), (Value.int .i64 a1), (Value.int .i64 a2)] (by kernel_rfl) w ((e_be_window a0 a1 a2 w K).mpr h)

/-- slices.Collect[byte] -/
def s_slices_Collect_byte (a0 : Value) (w : World) (K : SliceV → World → Prop) : Prop :=
 (c_slices_AppendSeq_byte_byte ⟨none, 0, 0⟩ a0 w fun r2 w3 =>
 K r2 w3)
theorem e_slices_Collect_byte (a0 : Value) (w : World) (K : SliceV → World → Prop) : den Try.prog 5 (bodyOf Try.f121) none (.seq .leaf (.seq .leaf .leaf)) (argEnv 0 [a0]) [] w (retK Try.prog [.tmp 2] [.one .slice] K) = s_slices_Collect_byte a0 w K := by kernel_rfl
theorem ok_slices_Collect_byte {a0 w K} (h : s_slices_Collect_byte a0 w K) : c_slices_Collect_byte a0 w K :=
  fn_sound pok Try.func121 (fn := Try.f121) (c := bodyOf Try.f121) (nt := 5) (by kernel_rfl) (by kernel_rfl) (rs := [.tmp 2]) (by kernel_rfl) [.one .slice] K (.seq .leaf (.seq .leaf .leaf)) [a0] (by kernel_rfl) w ((e_slices_Collect_byte a0 w K).mpr h)

/-- goosepond/sum.Add -/
def s_sum_Add (a0 : SliceV) (w : World) (K : Int → World → Prop) : Prop :=
 (c_sum_total a0 w fun r2 w3 =>
 c_sum_Fold r2 w3 fun r4 w5 =>
 K r4 w5)
theorem e_sum_Add (a0 : SliceV) (w : World) (K : Int → World → Prop) : den Try.prog 6 (bodyOf Try.f122) none (.seq .leaf (.seq .leaf .leaf)) (argEnv 0 [(Value.slice a0.a a0.len a0.cap)]) [] w (retK Try.prog [.tmp 2] [.one (.int .i64)] K) = s_sum_Add a0 w K := by kernel_rfl
theorem ok_sum_Add {a0 w K} (h : s_sum_Add a0 w K) : c_sum_Add a0 w K :=
  fn_sound pok Try.func122 (fn := Try.f122) (c := bodyOf Try.f122) (nt := 6) (by kernel_rfl) (by kernel_rfl) (rs := [.tmp 2]) (by kernel_rfl) [.one (.int .i64)] K (.seq .leaf (.seq .leaf .leaf)) [(Value.slice a0.a a0.len a0.cap)] (by kernel_rfl) w ((e_sum_Add a0 w K).mpr h)

/-- slices.Contains[[]bool,bool] -/
def s_slices_Contains_bool_bool (a0 : SliceV) (a1 : Bool) (w : World) (K : Bool → World → Prop) : Prop :=
 (c_slices_Index_bool_bool a0 a1 w fun r3 w4 =>
 K (decide (r3 ≥ 0)) w4)
theorem e_slices_Contains_bool_bool (a0 : SliceV) (a1 : Bool) (w : World) (K : Bool → World → Prop) : den Try.prog 9 (bodyOf Try.f123) none (.seq .leaf (.seq .leaf .leaf)) (argEnv 0 [(Value.slice a0.a a0.len a0.cap), (Value.bool a1)]) [] w (retK Try.prog [.tmp 4] [.one .bool] K) = s_slices_Contains_bool_bool a0 a1 w K := by kernel_rfl
theorem ok_slices_Contains_bool_bool {a0 a1 w K} (h : s_slices_Contains_bool_bool a0 a1 w K) : c_slices_Contains_bool_bool a0 a1 w K :=
  fn_sound pok Try.func123 (fn := Try.f123) (c := bodyOf Try.f123) (nt := 9) (by kernel_rfl) (by kernel_rfl) (rs := [.tmp 4]) (by kernel_rfl) [.one .bool] K (.seq .leaf (.seq .leaf .leaf)) [(Value.slice a0.a a0.len a0.cap), (Value.bool a1)] (by kernel_rfl) w ((e_slices_Contains_bool_bool a0 a1 w K).mpr h)

/-- (goosepond/four.block).has -/
def s_four_block_has (a0_0 : Int) (a0_1 : Int) (a1 : Int) (w : World) (K : Bool → World → Prop) : Prop :=
 (Al w (.cells ⟨[(Value.int .i64 a0_0), (Value.int .i64 a0_1)]⟩ 164) fun a4 w3 =>
 Ld (.int .i64) w3 (a4.add 1) fun x5 =>
 let J6 : Bool → World → Prop := fun j7 w8 =>
 (K j7 w8)
 c_four_Right a1 w3.drew fun r9 w10 =>
 (bif r9 then
 0 ≤ (IntKind.i64.wrap (32 - x5)) ∧
 Ld (.int .i64) w10 a4 fun x11 =>
 0 ≤ (IntKind.i64.wrap (32 - x5)) ∧
 J6 ((shrI .i64 a1 (IntKind.i64.wrap (32 - x5))) == (shrI .i64 x11 (IntKind.i64.wrap (32 - x5)))) w10
 else
 J6 false w10))
theorem e_four_block_has (a0_0 : Int) (a0_1 : Int) (a1 : Int) (w : World) (K : Bool → World → Prop) : den Try.prog 21 (bodyOf Try.f134) none (.seq .leaf (.seq .leaf (.seq .leaf .leaf))) (argEnv 0 [(Value.agg ⟨[(Value.int .i64 a0_0), (Value.int .i64 a0_1)]⟩), (Value.int .i64 a1)]) [] w (retK Try.prog [.tmp 4] [.one .bool] K) = s_four_block_has a0_0 a0_1 a1 w K := by kernel_rfl
theorem ok_four_block_has {a0_0 a0_1 a1 w K} (h : s_four_block_has a0_0 a0_1 a1 w K) : c_four_block_has a0_0 a0_1 a1 w K :=
  fn_sound pok Try.func134 (fn := Try.f134) (c := bodyOf Try.f134) (nt := 21) (by kernel_rfl) (by kernel_rfl) (rs := [.tmp 4]) (by kernel_rfl) [.one .bool] K (.seq .leaf (.seq .leaf (.seq .leaf .leaf))) [(Value.agg ⟨[(Value.int .i64 a0_0), (Value.int .i64 a0_1)]⟩), (Value.int .i64 a1)] (by kernel_rfl) w ((e_four_block_has a0_0 a0_1 a1 w K).mpr h)

/-- goosepond/icmp.one -/
def s_icmp_one (a0 : Int) (a1 : SliceV) (w : World) (K : Bool → World → Prop) : Prop :=
 (c_slices_Contains_int_int a1 a0 w fun r3 w4 =>
 K r3 w4)
theorem e_icmp_one (a0 : Int) (a1 : SliceV) (w : World) (K : Bool → World → Prop) : den Try.prog 8 (bodyOf Try.f135) none (.seq .leaf (.seq .leaf .leaf)) (argEnv 0 [(Value.int .i64 a0), (Value.slice a1.a a1.len a1.cap)]) [] w (retK Try.prog [.tmp 4] [.one .bool] K) = s_icmp_one a0 a1 w K := by kernel_rfl
theorem ok_icmp_one {a0 a1 w K} (h : s_icmp_one a0 a1 w K) : c_icmp_one a0 a1 w K :=
  fn_sound pok Try.func135 (fn := Try.f135) (c := bodyOf Try.f135) (nt := 8) (by kernel_rfl) (by kernel_rfl) (rs := [.tmp 4]) (by kernel_rfl) [.one .bool] K (.seq .leaf (.seq .leaf .leaf)) [(Value.int .i64 a0), (Value.slice a1.a a1.len a1.cap)] (by kernel_rfl) w ((e_icmp_one a0 a1 w K).mpr h)

/-- goosepond/sum.Fold -/
def s_sum_Fold (a0 : Int) (w : World) (K : Int → World → Prop) : Prop :=
 (LoopP (S := Int × Unit) (fun s2 w3 next4 =>
 (bif (decide (s2.1 > 65535)) then
 0 ≤ (16 : Int) ∧
 next4 ((IntKind.i64.wrap ((andI .i64 s2.1 65535) + (shrI .i64 s2.1 16))), ()) w3
 else
 K s2.1 w3)) ((if (0 : Int) > a0 then 0 else a0), ()) w)
theorem e_sum_Fold (a0 : Int) (w : World) (K : Int → World → Prop) : den Try.prog 13 (bodyOf Try.f136) none (.seq .leaf (.seq .leaf (.seq (.blk (.loop [(0, (.int .i64))] (.seq (.seq .leaf (.cond .leaf .leaf)) (.blk .leaf)))) (.seq .leaf .leaf)))) (argEnv 0 [(Value.int .i64 a0)]) [] w (retK Try.prog [.tmp 2] [.one (.int .i64)] K) = s_sum_Fold a0 w K := by kernel_rfl
theorem ok_sum_Fold {a0 w K} (h : s_sum_Fold a0 w K) : c_sum_Fold a0 w K :=
  fn_sound pok Try.func136 (fn := Try.f136) (c := bodyOf Try.f136) (nt := 13) (by kernel_rfl) (by kernel_rfl) (rs := [.tmp 2]) (by kernel_rfl) [.one (.int .i64)] K (.seq .leaf (.seq .leaf (.seq (.blk (.loop [(0, (.int .i64))] (.seq (.seq .leaf (.cond .leaf .leaf)) (.blk .leaf)))) (.seq .leaf .leaf)))) [(Value.int .i64 a0)] (by kernel_rfl) w ((e_sum_Fold a0 w K).mpr h)

/-- goosepond/sum.total -/
def s_sum_total (a0 : SliceV) (w : World) (K : Int → World → Prop) : Prop :=
 (Al w (.cells ⟨[(Value.int .i64 0)]⟩ 3) fun a3 w2 =>
 St w2 a3 (Value.int .i64 0) fun w4 =>
 LoopP (S := (Int × Unit) × List Nat) (fun s5 w6 next7 =>
 (bif (decide (s5.1.1 < (a0.len : Int))) then
 AtIx a0 1 s5.1.1 fun a8 =>
 Ld .slice w6 a8 fun x9 =>
 c_be_Words x9 w6 fun r10 w11 =>
 RngP Try.prog none [.one (.int .i64), .one (.int .i64)] r10 w11 (fun l12 x13 W14 Kb15 =>
 W14.heap[l12]? = W14.heap[l12]? ∧
 Ld (.int .i64) (busyW W14 l12) a3 fun x16 =>
 St (busyW W14 l12) a3 (Value.int .i64 (IntKind.i64.wrap (x16 + x13.2.1))) fun w17 =>
 Kb15 .normal w17)
 (fun w18 =>
 next7 (((IntKind.i64.wrap (s5.1.1 + 1)), ()), (w11.heap.size :: s5.2)) w18)
 (fun w19 =>
 CloseP (w11.heap.size :: s5.2) w19 fun w20 =>
 K 0 w20)
 []
 else
 Ld (.int .i64) w6 a3 fun x21 =>
 CloseP s5.2 w6 fun w22 =>
 K x21 w22)) ((0, ()), []) w4)
theorem e_sum_total (a0 : SliceV) (w : World) (K : Int → World → Prop) : den Try.prog 23 (bodyOf Try.f137) none (.seq .leaf (.seq .leaf (.seq (.seq .leaf (.blk (.loop [(10, (.int .i64))] (.seq .leaf (.seq (.cond .leaf .leaf) (.seq (.blk (.seq .leaf (.seq .leaf (.blk (.rng [.one (.int .i64), .one (.int .i64)] .leaf (.blk .leaf)))))) .leaf)))))) (.seq .leaf .leaf)))) (argEnv 0 [(Value.slice a0.a a0.len a0.cap)]) [] w (retK Try.prog [.tmp 2] [.one (.int .i64)] K) = s_sum_total a0 w K := by kernel_rfl
theorem ok_sum_total {a0 w K} (h : s_sum_total a0 w K) : c_sum_total a0 w K :=
  fn_sound pok Try.func137 (fn := Try.f137) (c := bodyOf Try.f137) (nt := 23) (by kernel_rfl) (by kernel_rfl) (rs := [.tmp 2]) (by kernel_rfl) [.one (.int .i64)] K (.seq .leaf (.seq .leaf (.seq (.seq .leaf (.blk (.loop [(10, (.int .i64))] (.seq .leaf (.seq (.cond .leaf .leaf) (.seq (.blk (.seq .leaf (.seq .leaf (.blk (.rng [.one (.int .i64), .one (.int .i64)] .leaf (.blk .leaf)))))) .leaf)))))) (.seq .leaf .leaf)))) [(Value.slice a0.a a0.len a0.cap)] (by kernel_rfl) w ((e_sum_total a0 w K).mpr h)

/-- slices.Index[[]bool,bool] -/
def s_slices_Index_bool_bool (a0 : SliceV) (a1 : Bool) (w : World) (K : Int → World → Prop) : Prop :=
 (LoopP (S := Int × Unit) (fun s3 w4 next5 =>
 (bif (decide (s3.1 < (a0.len : Int))) then
 AtIx a0 1 s3.1 fun a6 =>
 Ld .bool w4 a6 fun x7 =>
 (bif ((a1 : Bool) == x7) then
 K s3.1 w4
 else
 next5 ((IntKind.i64.wrap (s3.1 + 1)), ()) w4)
 else
 K (-1) w4)) (0, ()) w)
theorem e_slices_Index_bool_bool (a0 : SliceV) (a1 : Bool) (w : World) (K : Int → World → Prop) : den Try.prog 19 (bodyOf Try.f138) none (.seq .leaf (.seq (.seq .leaf (.blk (.loop [(8, (.int .i64))] (.seq .leaf (.seq (.cond .leaf .leaf) (.seq (.blk (.seq .leaf (.seq .leaf (.cond (.seq .leaf .leaf) .leaf)))) .leaf)))))) (.seq .leaf .leaf))) (argEnv 0 [(Value.slice a0.a a0.len a0.cap), (Value.bool a1)]) [] w (retK Try.prog [.tmp 4] [.one (.int .i64)] K) = s_slices_Index_bool_bool a0 a1 w K := by kernel_rfl
theorem ok_slices_Index_bool_bool {a0 a1 w K} (h : s_slices_Index_bool_bool a0 a1 w K) : c_slices_Index_bool_bool a0 a1 w K :=
  fn_sound pok Try.func138 (fn := Try.f138) (c := bodyOf Try.f138) (nt := 19) (by kernel_rfl) (by kernel_rfl) (rs := [.tmp 4]) (by kernel_rfl) [.one (.int .i64)] K (.seq .leaf (.seq (.seq .leaf (.blk (.loop [(8, (.int .i64))] (.seq .leaf (.seq (.cond .leaf .leaf) (.seq (.blk (.seq .leaf (.seq .leaf (.cond (.seq .leaf .leaf) .leaf)))) .leaf)))))) (.seq .leaf .leaf))) [(Value.slice a0.a a0.len a0.cap), (Value.bool a1)] (by kernel_rfl) w ((e_slices_Index_bool_bool a0 a1 w K).mpr h)

/-- slices.Contains[[]int,int] -/
def s_slices_Contains_int_int (a0 : SliceV) (a1 : Int) (w : World) (K : Bool → World → Prop) : Prop :=
 (c_slices_Index_int_int a0 a1 w fun r3 w4 =>
 K (decide (r3 ≥ 0)) w4)
theorem e_slices_Contains_int_int (a0 : SliceV) (a1 : Int) (w : World) (K : Bool → World → Prop) : den Try.prog 9 (bodyOf Try.f144) none (.seq .leaf (.seq .leaf .leaf)) (argEnv 0 [(Value.slice a0.a a0.len a0.cap), (Value.int .i64 a1)]) [] w (retK Try.prog [.tmp 4] [.one .bool] K) = s_slices_Contains_int_int a0 a1 w K := by kernel_rfl
theorem ok_slices_Contains_int_int {a0 a1 w K} (h : s_slices_Contains_int_int a0 a1 w K) : c_slices_Contains_int_int a0 a1 w K :=
  fn_sound pok Try.func144 (fn := Try.f144) (c := bodyOf Try.f144) (nt := 9) (by kernel_rfl) (by kernel_rfl) (rs := [.tmp 4]) (by kernel_rfl) [.one .bool] K (.seq .leaf (.seq .leaf .leaf)) [(Value.slice a0.a a0.len a0.cap), (Value.int .i64 a1)] (by kernel_rfl) w ((e_slices_Contains_int_int a0 a1 w K).mpr h)

/-- goosepond/be.Words -/
def s_be_Words (a0 : SliceV) (w : World) (K : Value → World → Prop) : Prop :=
 (isOne (Value.slice a0.a a0.len a0.cap) = true ∧
 Al w (.cells ⟨[(Value.slice a0.a a0.len a0.cap)]⟩ 30) fun a3 w2 =>
 K (Value.func (.func 148) #[] #[(Value.pointer (some a3))]) w2)
theorem e_be_Words (a0 : SliceV) (w : World) (K : Value → World → Prop) : den Try.prog 4 (bodyOf Try.f145) none (.seq .leaf (.seq .leaf .leaf)) (argEnv 0 [(Value.slice a0.a a0.len a0.cap)]) [] w (retK Try.prog [.tmp 2] [.one .any] K) = s_be_Words a0 w K := by kernel_rfl
theorem ok_be_Words {a0 w K} (h : s_be_Words a0 w K) : c_be_Words a0 w K :=
  fn_sound pok Try.func145 (fn := Try.f145) (c := bodyOf Try.f145) (nt := 4) (by kernel_rfl) (by kernel_rfl) (rs := [.tmp 2]) (by kernel_rfl) [.one .any] K (.seq .leaf (.seq .leaf .leaf)) [(Value.slice a0.a a0.len a0.cap)] (by kernel_rfl) w ((e_be_Words a0 w K).mpr h)

/-- slices.Index[[]int,int] -/
def s_slices_Index_int_int (a0 : SliceV) (a1 : Int) (w : World) (K : Int → World → Prop) : Prop :=
 (LoopP (S := Int × Unit) (fun s3 w4 next5 =>
 (bif (decide (s3.1 < (a0.len : Int))) then
 AtIx a0 1 s3.1 fun a6 =>
 Ld (.int .i64) w4 a6 fun x7 =>
 (bif (a1 == x7) then
 K s3.1 w4
 else
 next5 ((IntKind.i64.wrap (s3.1 + 1)), ()) w4)
 else
 K (-1) w4)) (0, ()) w)
theorem e_slices_Index_int_int (a0 : SliceV) (a1 : Int) (w : World) (K : Int → World → Prop) : den Try.prog 19 (bodyOf Try.f147) none (.seq .leaf (.seq (.seq .leaf (.blk (.loop [(8, (.int .i64))] (.seq .leaf (.seq (.cond .leaf .leaf) (.seq (.blk (.seq .leaf (.seq .leaf (.cond (.seq .leaf .leaf) .leaf)))) .leaf)))))) (.seq .leaf .leaf))) (argEnv 0 [(Value.slice a0.a a0.len a0.cap), (Value.int .i64 a1)]) [] w (retK Try.prog [.tmp 4] [.one (.int .i64)] K) = s_slices_Index_int_int a0 a1 w K := by kernel_rfl
theorem ok_slices_Index_int_int {a0 a1 w K} (h : s_slices_Index_int_int a0 a1 w K) : c_slices_Index_int_int a0 a1 w K :=
  fn_sound pok Try.func147 (fn := Try.f147) (c := bodyOf Try.f147) (nt := 19) (by kernel_rfl) (by kernel_rfl) (rs := [.tmp 4]) (by kernel_rfl) [.one (.int .i64)] K (.seq .leaf (.seq (.seq .leaf (.blk (.loop [(8, (.int .i64))] (.seq .leaf (.seq (.cond .leaf .leaf) (.seq (.blk (.seq .leaf (.seq .leaf (.cond (.seq .leaf .leaf) .leaf)))) .leaf)))))) (.seq .leaf .leaf))) [(Value.slice a0.a a0.len a0.cap), (Value.int .i64 a1)] (by kernel_rfl) w ((e_slices_Index_int_int a0 a1 w K).mpr h)

/-- goosepond/be.Words$1 -/
def s_be_Words_1 (a0 : Value) (f0 : Addr) (w : World) (K : World → Prop) : Prop :=
 (LoopP (S := Int × Unit) (fun s2 w3 next4 =>
 Ld .slice w3 f0 fun x5 =>
 (bif (decide (s2.1 < (x5.len : Int))) then
 Ld .slice w3 f0 fun x6 =>
 AtIx x6 1 s2.1 fun a7 =>
 Ld (.int .u8) w3 a7 fun x8 =>
 0 ≤ (8 : Int) ∧
 let J9 : Int → Prop := fun j10 =>
 (CallV Try.prog [.one .bool] a0 [(Value.int .i64 s2.1), (Value.int .i64 j10)] w3 fun r11 w12 =>
 ∃ r13 : Bool, r11 = (Value.bool r13) ∧
 (bif (!r13) then
 K w12
 else
 next4 ((IntKind.i64.wrap (s2.1 + 2)), ()) w12))
 Ld .slice w3 f0 fun x14 =>
 (bif (decide ((IntKind.i64.wrap (s2.1 + 1)) < (x14.len : Int))) then
 Ld .slice w3 f0 fun x15 =>
 AtIx x15 1 (IntKind.i64.wrap (s2.1 + 1)) fun a16 =>
 Ld (.int .u8) w3 a16 fun x17 =>
 J9 (orI .i64 (shlI .i64 (IntKind.i64.wrap x8) 8) (IntKind.i64.wrap x17))
 else
 J9 (shlI .i64 (IntKind.i64.wrap x8) 8))
 else
 K w3)) (0, ()) w)
theorem e_be_Words_1 (a0 : Value) (f0 : Addr) (w : World) (K : World → Prop) : den Try.prog 35 (bodyOf Try.f148) none (.seq .leaf (.blk (.loop [(3, (.int .i64))] (.seq (.seq .leaf (.cond .leaf .leaf)) (.seq (.blk (.seq .leaf (.seq (.seq .leaf (.cond .leaf .leaf)) (.seq .leaf (.cond .leaf .leaf))))) .leaf))))) (argEnv 0 [a0, (Value.pointer (some f0))]) [] w (retK Try.prog [] [] K) = s_be_Words_1 a0 f0 w K := by kernel_rfl
theorem ok_be_Words_1 {a0 f0 w K} (h : s_be_Words_1 a0 f0 w K) : c_be_Words_1 a0 f0 w K :=
  fn_sound pok Try.func148 (fn := Try.f148) (c := bodyOf Try.f148) (nt := 35) (by kernel_rfl) (by kernel_rfl) (rs := []) (by kernel_rfl) [] K (.seq .leaf (.blk (.loop [(3, (.int .i64))] (.seq (.seq .leaf (.cond .leaf .leaf)) (.seq (.blk (.seq .leaf (.seq (.seq .leaf (.cond .leaf .leaf)) (.seq .leaf (.cond .leaf .leaf))))) .leaf))))) [a0, (Value.pointer (some f0))] (by kernel_rfl) w ((e_be_Words_1 a0 f0 w K).mpr h)

end Go.Proofs
