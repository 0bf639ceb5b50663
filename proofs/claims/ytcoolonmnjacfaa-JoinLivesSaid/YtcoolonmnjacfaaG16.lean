import Derived.Test.YtcoolonmnjacfaaFn
import Derived.Test.YtcoolonmnjacfaaProg
import Derived.KernelRfl
namespace Go.Proofs
open Gp
set_option maxRecDepth 100000
set_option maxHeartbeats 4000000
theorem pok : POk Try.prog := POk.of_all (by kernel_rfl) (by kernel_rfl)

/-- goosepond/goosepondlaw16.JoinBounds -/
abbrev n_law16_JoinBounds : FuncId := 3
def c_law16_JoinBounds (a0 : Int) (a1 : Int) (a2 : SliceV) (w : World) (K : Bool → World → Prop) : Prop :=
  Calls Try.prog 3 ⟨[(Value.int .u8 a0), (Value.int .u8 a1), (Value.slice a2.a a2.len a2.cap)]⟩ w fun e w' => ∃ y51 : Bool, e = .returned (Value.bool y51) ∧ K y51 w'
theorem cm_law16_JoinBounds {a0 a1 a2 w K K'} (h : c_law16_JoinBounds a0 a1 a2 w K) (hk : ∀ x0 w', K x0 w' → K' x0 w') : c_law16_JoinBounds a0 a1 a2 w K' :=
  Calls.mono h fun e w' hh => by obtain ⟨x0, he, hx⟩ := hh; exact ⟨x0, he, hk _ _ hx⟩

/-- goosepond/goosepondlaw16.JoinGone -/
abbrev n_law16_JoinGone : FuncId := 4
def c_law16_JoinGone (a0 : SliceV) (w : World) (K : Bool → World → Prop) : Prop :=
  Calls Try.prog 4 ⟨[(Value.slice a0.a a0.len a0.cap)]⟩ w fun e w' => ∃ y55 : Bool, e = .returned (Value.bool y55) ∧ K y55 w'
theorem cm_law16_JoinGone {a0 w K K'} (h : c_law16_JoinGone a0 w K) (hk : ∀ x0 w', K x0 w' → K' x0 w') : c_law16_JoinGone a0 w K' :=
  Calls.mono h fun e w' hh => by obtain ⟨x0, he, hx⟩ := hh; exact ⟨x0, he, hk _ _ hx⟩

/-- goosepond/goosepondlaw16.JoinNobody -/
abbrev n_law16_JoinNobody : FuncId := 5
def c_law16_JoinNobody (a0 : ByteArray) (a1 : Int) (a2 : SliceV) (a3 : Int) (w : World) (K : Bool → World → Prop) : Prop :=
  Calls Try.prog 5 ⟨[(Value.string a0), (Value.int .i64 a1), (Value.slice a2.a a2.len a2.cap), (Value.int .i64 a3)]⟩ w fun e w' => ∃ y29 : Bool, e = .returned (Value.bool y29) ∧ K y29 w'
theorem cm_law16_JoinNobody {a0 a1 a2 a3 w K K'} (h : c_law16_JoinNobody a0 a1 a2 a3 w K) (hk : ∀ x0 w', K x0 w' → K' x0 w') : c_law16_JoinNobody a0 a1 a2 a3 w K' :=
  Calls.mono h fun e w' hh => by obtain ⟨x0, he, hx⟩ := hh; exact ⟨x0, he, hk _ _ hx⟩

/-- goosepond/goosepondlaw16.JoinLives -/
abbrev n_law16_JoinLives : FuncId := 6
def c_law16_JoinLives (a0 : Int) (a1 : Int) (a2 : Int) (a3 : SliceV) (w : World) (K : Bool → World → Prop) : Prop :=
  Calls Try.prog 6 ⟨[(Value.int .i64 a0), (Value.int .i64 a1), (Value.int .i64 a2), (Value.slice a3.a a3.len a3.cap)]⟩ w fun e w' => ∃ y88 : Bool, e = .returned (Value.bool y88) ∧ K y88 w'
theorem cm_law16_JoinLives {a0 a1 a2 a3 w K K'} (h : c_law16_JoinLives a0 a1 a2 a3 w K) (hk : ∀ x0 w', K x0 w' → K' x0 w') : c_law16_JoinLives a0 a1 a2 a3 w K' :=
  Calls.mono h fun e w' hh => by obtain ⟨x0, he, hx⟩ := hh; exact ⟨x0, he, hk _ _ hx⟩

/-- goosepond/goosepondlaw16.far -/
abbrev n_law16_far : FuncId := 7
def c_law16_far (a0 : SliceV) (w : World) (K : Bool → World → Prop) : Prop :=
  Calls Try.prog 7 ⟨[(Value.slice a0.a a0.len a0.cap)]⟩ w fun e w' => ∃ y24 : Bool, e = .returned (Value.bool y24) ∧ K y24 w'
theorem cm_law16_far {a0 w K K'} (h : c_law16_far a0 w K) (hk : ∀ x0 w', K x0 w' → K' x0 w') : c_law16_far a0 w K' :=
  Calls.mono h fun e w' hh => by obtain ⟨x0, he, hx⟩ := hh; exact ⟨x0, he, hk _ _ hx⟩

/-- goosepond/goosepondlaw16.awake -/
abbrev n_law16_awake : FuncId := 8
def c_law16_awake  (w : World) (K : Bool → World → Prop) : Prop :=
  Calls Try.prog 8 ⟨[]⟩ w fun e w' => ∃ y28 : Bool, e = .returned (Value.bool y28) ∧ K y28 w'
theorem cm_law16_awake { w K K'} (h : c_law16_awake  w K) (hk : ∀ x0 w', K x0 w' → K' x0 w') : c_law16_awake  w K' :=
  Calls.mono h fun e w' hh => by obtain ⟨x0, he, hx⟩ := hh; exact ⟨x0, he, hk _ _ hx⟩

/-- goosepond/join.New -/
abbrev n_join_New : FuncId := 9
def c_join_New (a0 : Int) (a1 : Int) (a2 : Int) (w : World) (K : (Option Addr) → Int → World → Prop) : Prop :=
  Calls Try.prog 9 ⟨[(Value.int .i64 a0), (Value.int .i64 a1), (Value.int .i64 a2)]⟩ w fun e w' => ∃ y20 : Option Addr, ∃ y21 : Int, e = .returned (Value.tuple ⟨[(Value.pointer y20), (Value.int .i64 y21)]⟩) ∧ K y20 y21 w'
theorem cm_join_New {a0 a1 a2 w K K'} (h : c_join_New a0 a1 a2 w K) (hk : ∀ x0 x1 w', K x0 x1 w' → K' x0 x1 w') : c_join_New a0 a1 a2 w K' :=
  Calls.mono h fun e w' hh => by obtain ⟨x0, x1, he, hx⟩ := hh; exact ⟨x0, x1, he, hk _ _ _ hx⟩

/-- (*goosepond/join.Table).Add -/
abbrev n_join_Table_Add : FuncId := 10
def c_join_Table_Add (a0 : Option Addr) (a1 : ByteArray) (a2 : Int) (a3 : Bool) (a4 : SliceV) (a5 : ByteArray) (a6 : Int) (w : World) (K : ByteArray → SliceV → Bool → Int → World → Prop) : Prop :=
  Calls Try.prog 10 ⟨[(Value.pointer a0), (Value.string a1), (Value.int .i64 a2), (Value.bool a3), (Value.slice a4.a a4.len a4.cap), (Value.string a5), (Value.int .i64 a6)]⟩ w fun e w' => ∃ y51 : ByteArray, ∃ y52 : SliceV, ∃ y53 : Bool, ∃ y54 : Int, e = .returned (Value.tuple ⟨[(Value.string y51), (Value.slice y52.a y52.len y52.cap), (Value.bool y53), (Value.int .i64 y54)]⟩) ∧ K y51 y52 y53 y54 w'
theorem cm_join_Table_Add {a0 a1 a2 a3 a4 a5 a6 w K K'} (h : c_join_Table_Add a0 a1 a2 a3 a4 a5 a6 w K) (hk : ∀ x0 x1 x2 x3 w', K x0 x1 x2 x3 w' → K' x0 x1 x2 x3 w') : c_join_Table_Add a0 a1 a2 a3 a4 a5 a6 w K' :=
  Calls.mono h fun e w' hh => by obtain ⟨x0, x1, x2, x3, he, hx⟩ := hh; exact ⟨x0, x1, x2, x3, he, hk _ _ _ _ _ hx⟩

/-- (*goosepond/join.Table).Bytes -/
abbrev n_join_Table_Bytes : FuncId := 11
def c_join_Table_Bytes (a0 : Option Addr) (w : World) (K : Int → World → Prop) : Prop :=
  Calls Try.prog 11 ⟨[(Value.pointer a0)]⟩ w fun e w' => ∃ y6 : Int, e = .returned (Value.int .i64 y6) ∧ K y6 w'
theorem cm_join_Table_Bytes {a0 w K K'} (h : c_join_Table_Bytes a0 w K) (hk : ∀ x0 w', K x0 w' → K' x0 w') : c_join_Table_Bytes a0 w K' :=
  Calls.mono h fun e w' hh => by obtain ⟨x0, he, hx⟩ := hh; exact ⟨x0, he, hk _ _ hx⟩

/-- (*goosepond/join.Table).Bufs -/
abbrev n_join_Table_Bufs : FuncId := 12
def c_join_Table_Bufs (a0 : Option Addr) (w : World) (K : Int → World → Prop) : Prop :=
  Calls Try.prog 12 ⟨[(Value.pointer a0)]⟩ w fun e w' => ∃ y7 : Int, e = .returned (Value.int .i64 y7) ∧ K y7 w'
theorem cm_join_Table_Bufs {a0 w K K'} (h : c_join_Table_Bufs a0 w K) (hk : ∀ x0 w', K x0 w' → K' x0 w') : c_join_Table_Bufs a0 w K' :=
  Calls.mono h fun e w' hh => by obtain ⟨x0, he, hx⟩ := hh; exact ⟨x0, he, hk _ _ hx⟩

/-- (*goosepond/join.Table).Keys -/
abbrev n_join_Table_Keys : FuncId := 13
def c_join_Table_Keys (a0 : Option Addr) (w : World) (K : SliceV → World → Prop) : Prop :=
  Calls Try.prog 13 ⟨[(Value.pointer a0)]⟩ w fun e w' => ∃ y23 : SliceV, e = .returned (Value.slice y23.a y23.len y23.cap) ∧ K y23 w'
theorem cm_join_Table_Keys {a0 w K K'} (h : c_join_Table_Keys a0 w K) (hk : ∀ x0 w', K x0 w' → K' x0 w') : c_join_Table_Keys a0 w K' :=
  Calls.mono h fun e w' hh => by obtain ⟨x0, he, hx⟩ := hh; exact ⟨x0, he, hk _ _ hx⟩

/-- (*goosepond/join.Table).Expire -/
abbrev n_join_Table_Expire : FuncId := 14
def c_join_Table_Expire (a0 : Option Addr) (a1 : Int) (w : World) (K : SliceV → World → Prop) : Prop :=
  Calls Try.prog 14 ⟨[(Value.pointer a0), (Value.int .i64 a1)]⟩ w fun e w' => ∃ y37 : SliceV, e = .returned (Value.slice y37.a y37.len y37.cap) ∧ K y37 w'
theorem cm_join_Table_Expire {a0 a1 w K K'} (h : c_join_Table_Expire a0 a1 w K) (hk : ∀ x0 w', K x0 w' → K' x0 w') : c_join_Table_Expire a0 a1 w K' :=
  Calls.mono h fun e w' hh => by obtain ⟨x0, he, hx⟩ := hh; exact ⟨x0, he, hk _ _ hx⟩

/-- goosepond/goosepondref16.New -/
abbrev n_ref16_New : FuncId := 15
def c_ref16_New (a0 : Int) (a1 : Int) (a2 : Int) (w : World) (K : (Option Addr) → Int → World → Prop) : Prop :=
  Calls Try.prog 15 ⟨[(Value.int .i64 a0), (Value.int .i64 a1), (Value.int .i64 a2)]⟩ w fun e w' => ∃ y8 : Option Addr, ∃ y9 : Int, e = .returned (Value.tuple ⟨[(Value.pointer y8), (Value.int .i64 y9)]⟩) ∧ K y8 y9 w'
theorem cm_ref16_New {a0 a1 a2 w K K'} (h : c_ref16_New a0 a1 a2 w K) (hk : ∀ x0 x1 w', K x0 x1 w' → K' x0 x1 w') : c_ref16_New a0 a1 a2 w K' :=
  Calls.mono h fun e w' hh => by obtain ⟨x0, x1, he, hx⟩ := hh; exact ⟨x0, x1, he, hk _ _ _ hx⟩

/-- slices.Equal[[]string,string] -/
abbrev n_slices_Equal_string_string : FuncId := 16
def c_slices_Equal_string_string (a0 : SliceV) (a1 : SliceV) (w : World) (K : Bool → World → Prop) : Prop :=
  Calls Try.prog 16 ⟨[(Value.slice a0.a a0.len a0.cap), (Value.slice a1.a a1.len a1.cap)]⟩ w fun e w' => ∃ y10 : Bool, e = .returned (Value.bool y10) ∧ K y10 w'
theorem cm_slices_Equal_string_string {a0 a1 w K K'} (h : c_slices_Equal_string_string a0 a1 w K) (hk : ∀ x0 w', K x0 w' → K' x0 w') : c_slices_Equal_string_string a0 a1 w K' :=
  Calls.mono h fun e w' hh => by obtain ⟨x0, he, hx⟩ := hh; exact ⟨x0, he, hk _ _ hx⟩

/-- (*goosepond/goosepondref16.Table).Expire -/
abbrev n_ref16_Table_Expire : FuncId := 17
def c_ref16_Table_Expire (a0 : Option Addr) (a1 : Int) (w : World) (K : SliceV → World → Prop) : Prop :=
  Calls Try.prog 17 ⟨[(Value.pointer a0), (Value.int .i64 a1)]⟩ w fun e w' => ∃ y43 : SliceV, e = .returned (Value.slice y43.a y43.len y43.cap) ∧ K y43 w'
theorem cm_ref16_Table_Expire {a0 a1 w K K'} (h : c_ref16_Table_Expire a0 a1 w K) (hk : ∀ x0 w', K x0 w' → K' x0 w') : c_ref16_Table_Expire a0 a1 w K' :=
  Calls.mono h fun e w' hh => by obtain ⟨x0, he, hx⟩ := hh; exact ⟨x0, he, hk _ _ hx⟩

/-- (*goosepond/goosepondref16.Table).Add -/
abbrev n_ref16_Table_Add : FuncId := 18
def c_ref16_Table_Add (a0 : Option Addr) (a1 : ByteArray) (a2 : Int) (a3 : Bool) (a4 : SliceV) (a5 : ByteArray) (a6 : Int) (w : World) (K : ByteArray → SliceV → Bool → Int → World → Prop) : Prop :=
  Calls Try.prog 18 ⟨[(Value.pointer a0), (Value.string a1), (Value.int .i64 a2), (Value.bool a3), (Value.slice a4.a a4.len a4.cap), (Value.string a5), (Value.int .i64 a6)]⟩ w fun e w' => ∃ y63 : ByteArray, ∃ y64 : SliceV, ∃ y65 : Bool, ∃ y66 : Int, e = .returned (Value.tuple ⟨[(Value.string y63), (Value.slice y64.a y64.len y64.cap), (Value.bool y65), (Value.int .i64 y66)]⟩) ∧ K y63 y64 y65 y66 w'
theorem cm_ref16_Table_Add {a0 a1 a2 a3 a4 a5 a6 w K K'} (h : c_ref16_Table_Add a0 a1 a2 a3 a4 a5 a6 w K) (hk : ∀ x0 x1 x2 x3 w', K x0 x1 x2 x3 w' → K' x0 x1 x2 x3 w') : c_ref16_Table_Add a0 a1 a2 a3 a4 a5 a6 w K' :=
  Calls.mono h fun e w' hh => by obtain ⟨x0, x1, x2, x3, he, hx⟩ := hh; exact ⟨x0, x1, x2, x3, he, hk _ _ _ _ _ hx⟩

/-- bytes.Equal -/
abbrev n_bytes_Equal : FuncId := 19
def c_bytes_Equal (a0 : SliceV) (a1 : SliceV) (w : World) (K : Bool → World → Prop) : Prop :=
  Calls Try.prog 19 ⟨[(Value.slice a0.a a0.len a0.cap), (Value.slice a1.a a1.len a1.cap)]⟩ w fun e w' => ∃ y5 : Bool, e = .returned (Value.bool y5) ∧ K y5 w'
theorem cm_bytes_Equal {a0 a1 w K K'} (h : c_bytes_Equal a0 a1 w K) (hk : ∀ x0 w', K x0 w' → K' x0 w') : c_bytes_Equal a0 a1 w K' :=
  Calls.mono h fun e w' hh => by obtain ⟨x0, he, hx⟩ := hh; exact ⟨x0, he, hk _ _ hx⟩

/-- (*goosepond/goosepondref16.Table).Bytes -/
abbrev n_ref16_Table_Bytes : FuncId := 20
def c_ref16_Table_Bytes (a0 : Option Addr) (w : World) (K : Int → World → Prop) : Prop :=
  Calls Try.prog 20 ⟨[(Value.pointer a0)]⟩ w fun e w' => ∃ y12 : Int, e = .returned (Value.int .i64 y12) ∧ K y12 w'
theorem cm_ref16_Table_Bytes {a0 w K K'} (h : c_ref16_Table_Bytes a0 w K) (hk : ∀ x0 w', K x0 w' → K' x0 w') : c_ref16_Table_Bytes a0 w K' :=
  Calls.mono h fun e w' hh => by obtain ⟨x0, he, hx⟩ := hh; exact ⟨x0, he, hk _ _ hx⟩

/-- (*goosepond/goosepondref16.Table).Keys -/
abbrev n_ref16_Table_Keys : FuncId := 21
def c_ref16_Table_Keys (a0 : Option Addr) (w : World) (K : SliceV → World → Prop) : Prop :=
  Calls Try.prog 21 ⟨[(Value.pointer a0)]⟩ w fun e w' => ∃ y13 : SliceV, e = .returned (Value.slice y13.a y13.len y13.cap) ∧ K y13 w'
theorem cm_ref16_Table_Keys {a0 w K K'} (h : c_ref16_Table_Keys a0 w K) (hk : ∀ x0 w', K x0 w' → K' x0 w') : c_ref16_Table_Keys a0 w K' :=
  Calls.mono h fun e w' hh => by obtain ⟨x0, he, hx⟩ := hh; exact ⟨x0, he, hk _ _ hx⟩

/-- goosepond/join.New$1 -/
abbrev n_join_New_1 : FuncId := 22
def c_join_New_1 (a0 : Int) (a1 : Int) (a2 : Int) (w : World) (K : Bool → World → Prop) : Prop :=
  Calls Try.prog 22 ⟨[(Value.int .i64 a0), (Value.int .i64 a1), (Value.int .i64 a2)]⟩ w fun e w' => ∃ y6 : Bool, e = .returned (Value.bool y6) ∧ K y6 w'
theorem cm_join_New_1 {a0 a1 a2 w K K'} (h : c_join_New_1 a0 a1 a2 w K) (hk : ∀ x0 w', K x0 w' → K' x0 w') : c_join_New_1 a0 a1 a2 w K' :=
  Calls.mono h fun e w' hh => by obtain ⟨x0, he, hx⟩ := hh; exact ⟨x0, he, hk _ _ hx⟩

/-- (*goosepond/join.Table).ready -/
abbrev n_join_Table_ready : FuncId := 23
def c_join_Table_ready (a0 : Option Addr) (w : World) (K : Bool → World → Prop) : Prop :=
  Calls Try.prog 23 ⟨[(Value.pointer a0)]⟩ w fun e w' => ∃ y6 : Bool, e = .returned (Value.bool y6) ∧ K y6 w'
theorem cm_join_Table_ready {a0 w K K'} (h : c_join_Table_ready a0 w K) (hk : ∀ x0 w', K x0 w' → K' x0 w') : c_join_Table_ready a0 w K' :=
  Calls.mono h fun e w' hh => by obtain ⟨x0, he, hx⟩ := hh; exact ⟨x0, he, hk _ _ hx⟩

/-- (*goosepond/join.Table).open -/
abbrev n_join_Table_open : FuncId := 24
def c_join_Table_open (a0 : Option Addr) (a1 : ByteArray) (a2 : Int) (w : World) (K : (Option Addr) → Int → World → Prop) : Prop :=
  Calls Try.prog 24 ⟨[(Value.pointer a0), (Value.string a1), (Value.int .i64 a2)]⟩ w fun e w' => ∃ y18 : Option Addr, ∃ y19 : Int, e = .returned (Value.tuple ⟨[(Value.pointer y18), (Value.int .i64 y19)]⟩) ∧ K y18 y19 w'
theorem cm_join_Table_open {a0 a1 a2 w K K'} (h : c_join_Table_open a0 a1 a2 w K) (hk : ∀ x0 x1 w', K x0 x1 w' → K' x0 x1 w') : c_join_Table_open a0 a1 a2 w K' :=
  Calls.mono h fun e w' hh => by obtain ⟨x0, x1, he, hx⟩ := hh; exact ⟨x0, x1, he, hk _ _ _ hx⟩

/-- (*goosepond/holes.Holes).Room -/
abbrev n_holes_Holes_Room : FuncId := 25
def c_holes_Holes_Room (a0 : Option Addr) (a1 : Int) (a2 : SliceV) (w : World) (K : Int → World → Prop) : Prop :=
  Calls Try.prog 25 ⟨[(Value.pointer a0), (Value.int .i64 a1), (Value.slice a2.a a2.len a2.cap)]⟩ w fun e w' => ∃ y13 : Int, e = .returned (Value.int .i64 y13) ∧ K y13 w'
theorem cm_holes_Holes_Room {a0 a1 a2 w K K'} (h : c_holes_Holes_Room a0 a1 a2 w K) (hk : ∀ x0 w', K x0 w' → K' x0 w') : c_holes_Holes_Room a0 a1 a2 w K' :=
  Calls.mono h fun e w' hh => by obtain ⟨x0, he, hx⟩ := hh; exact ⟨x0, he, hk _ _ hx⟩

/-- (*goosepond/join.Table).sum -/
abbrev n_join_Table_sum : FuncId := 26
def c_join_Table_sum (a0 : Option Addr) (w : World) (K : Int → World → Prop) : Prop :=
  Calls Try.prog 26 ⟨[(Value.pointer a0)]⟩ w fun e w' => ∃ y20 : Int, e = .returned (Value.int .i64 y20) ∧ K y20 w'
theorem cm_join_Table_sum {a0 w K K'} (h : c_join_Table_sum a0 w K) (hk : ∀ x0 w', K x0 w' → K' x0 w') : c_join_Table_sum a0 w K' :=
  Calls.mono h fun e w' hh => by obtain ⟨x0, he, hx⟩ := hh; exact ⟨x0, he, hk _ _ hx⟩

/-- (*goosepond/holes.Holes).Add -/
abbrev n_holes_Holes_Add : FuncId := 27
def c_holes_Holes_Add (a0 : Option Addr) (a1 : Int) (a2 : Bool) (a3 : SliceV) (w : World) (K : Int → World → Prop) : Prop :=
  Calls Try.prog 27 ⟨[(Value.pointer a0), (Value.int .i64 a1), (Value.bool a2), (Value.slice a3.a a3.len a3.cap)]⟩ w fun e w' => ∃ y65 : Int, e = .returned (Value.int .i64 y65) ∧ K y65 w'
theorem cm_holes_Holes_Add {a0 a1 a2 a3 w K K'} (h : c_holes_Holes_Add a0 a1 a2 a3 w K) (hk : ∀ x0 w', K x0 w' → K' x0 w') : c_holes_Holes_Add a0 a1 a2 a3 w K' :=
  Calls.mono h fun e w' hh => by obtain ⟨x0, he, hx⟩ := hh; exact ⟨x0, he, hk _ _ hx⟩

/-- (*goosepond/holes.Holes).Done -/
abbrev n_holes_Holes_Done : FuncId := 28
def c_holes_Holes_Done (a0 : Option Addr) (w : World) (K : SliceV → Bool → World → Prop) : Prop :=
  Calls Try.prog 28 ⟨[(Value.pointer a0)]⟩ w fun e w' => ∃ y52 : SliceV, ∃ y53 : Bool, e = .returned (Value.tuple ⟨[(Value.slice y52.a y52.len y52.cap), (Value.bool y53)]⟩) ∧ K y52 y53 w'
theorem cm_holes_Holes_Done {a0 w K K'} (h : c_holes_Holes_Done a0 w K) (hk : ∀ x0 x1 w', K x0 x1 w' → K' x0 x1 w') : c_holes_Holes_Done a0 w K' :=
  Calls.mono h fun e w' hh => by obtain ⟨x0, x1, he, hx⟩ := hh; exact ⟨x0, x1, he, hk _ _ _ hx⟩

/-- slices.Sort[[]string,string] -/
abbrev n_slices_Sort_string_string : FuncId := 29
def c_slices_Sort_string_string (a0 : SliceV) (w : World) (K : World → Prop) : Prop :=
  Calls Try.prog 29 ⟨[(Value.slice a0.a a0.len a0.cap)]⟩ w fun e w' => e = .returned (Value.tuple ⟨[]⟩) ∧ K w'
theorem cm_slices_Sort_string_string {a0 w K K'} (h : c_slices_Sort_string_string a0 w K) (hk : ∀  w', K  w' → K'  w') : c_slices_Sort_string_string a0 w K' :=
  Calls.mono h fun e w' hh => by obtain ⟨he, hx⟩ := hh; exact ⟨he, hk  _ hx⟩

/-- goosepond/goosepondref16.insert -/
abbrev n_ref16_insert : FuncId := 30
def c_ref16_insert (a0 : SliceV) (a1 : ByteArray) (w : World) (K : SliceV → World → Prop) : Prop :=
  Calls Try.prog 30 ⟨[(Value.slice a0.a a0.len a0.cap), (Value.string a1)]⟩ w fun e w' => ∃ y31 : SliceV, e = .returned (Value.slice y31.a y31.len y31.cap) ∧ K y31 w'
theorem cm_ref16_insert {a0 a1 w K K'} (h : c_ref16_insert a0 a1 w K) (hk : ∀ x0 w', K x0 w' → K' x0 w') : c_ref16_insert a0 a1 w K' :=
  Calls.mono h fun e w' hh => by obtain ⟨x0, he, hx⟩ := hh; exact ⟨x0, he, hk _ _ hx⟩

/-- (*goosepond/goosepondref16.Table).find -/
abbrev n_ref16_Table_find : FuncId := 31
def c_ref16_Table_find (a0 : Option Addr) (a1 : ByteArray) (w : World) (K : Int → World → Prop) : Prop :=
  Calls Try.prog 31 ⟨[(Value.pointer a0), (Value.string a1)]⟩ w fun e w' => ∃ y12 : Int, e = .returned (Value.int .i64 y12) ∧ K y12 w'
theorem cm_ref16_Table_find {a0 a1 w K K'} (h : c_ref16_Table_find a0 a1 w K) (hk : ∀ x0 w', K x0 w' → K' x0 w') : c_ref16_Table_find a0 a1 w K' :=
  Calls.mono h fun e w' hh => by obtain ⟨x0, he, hx⟩ := hh; exact ⟨x0, he, hk _ _ hx⟩

/-- (*goosepond/goosepondref15.Holes).Room -/
abbrev n_ref15_Holes_Room : FuncId := 32
def c_ref15_Holes_Room (a0 : Option Addr) (a1 : Int) (a2 : SliceV) (w : World) (K : Int → World → Prop) : Prop :=
  Calls Try.prog 32 ⟨[(Value.pointer a0), (Value.int .i64 a1), (Value.slice a2.a a2.len a2.cap)]⟩ w fun e w' => ∃ y11 : Int, e = .returned (Value.int .i64 y11) ∧ K y11 w'
theorem cm_ref15_Holes_Room {a0 a1 a2 w K K'} (h : c_ref15_Holes_Room a0 a1 a2 w K) (hk : ∀ x0 w', K x0 w' → K' x0 w') : c_ref15_Holes_Room a0 a1 a2 w K' :=
  Calls.mono h fun e w' hh => by obtain ⟨x0, he, hx⟩ := hh; exact ⟨x0, he, hk _ _ hx⟩

/-- (*goosepond/goosepondref16.Table).without -/
abbrev n_ref16_Table_without : FuncId := 33
def c_ref16_Table_without (a0 : Option Addr) (a1 : Int) (w : World) (K : World → Prop) : Prop :=
  Calls Try.prog 33 ⟨[(Value.pointer a0), (Value.int .i64 a1)]⟩ w fun e w' => e = .returned (Value.tuple ⟨[]⟩) ∧ K w'
theorem cm_ref16_Table_without {a0 a1 w K K'} (h : c_ref16_Table_without a0 a1 w K) (hk : ∀  w', K  w' → K'  w') : c_ref16_Table_without a0 a1 w K' :=
  Calls.mono h fun e w' hh => by obtain ⟨he, hx⟩ := hh; exact ⟨he, hk  _ hx⟩

/-- (*goosepond/goosepondref15.Holes).Add -/
abbrev n_ref15_Holes_Add : FuncId := 34
def c_ref15_Holes_Add (a0 : Option Addr) (a1 : Int) (a2 : Bool) (a3 : SliceV) (w : World) (K : Int → World → Prop) : Prop :=
  Calls Try.prog 34 ⟨[(Value.pointer a0), (Value.int .i64 a1), (Value.bool a2), (Value.slice a3.a a3.len a3.cap)]⟩ w fun e w' => ∃ y30 : Int, e = .returned (Value.int .i64 y30) ∧ K y30 w'
theorem cm_ref15_Holes_Add {a0 a1 a2 a3 w K K'} (h : c_ref15_Holes_Add a0 a1 a2 a3 w K) (hk : ∀ x0 w', K x0 w' → K' x0 w') : c_ref15_Holes_Add a0 a1 a2 a3 w K' :=
  Calls.mono h fun e w' hh => by obtain ⟨x0, he, hx⟩ := hh; exact ⟨x0, he, hk _ _ hx⟩

/-- (*goosepond/goosepondref15.Holes).Done -/
abbrev n_ref15_Holes_Done : FuncId := 35
def c_ref15_Holes_Done (a0 : Option Addr) (w : World) (K : SliceV → Bool → World → Prop) : Prop :=
  Calls Try.prog 35 ⟨[(Value.pointer a0)]⟩ w fun e w' => ∃ y35 : SliceV, ∃ y36 : Bool, e = .returned (Value.tuple ⟨[(Value.slice y35.a y35.len y35.cap), (Value.bool y36)]⟩) ∧ K y35 y36 w'
theorem cm_ref15_Holes_Done {a0 w K K'} (h : c_ref15_Holes_Done a0 w K) (hk : ∀ x0 x1 w', K x0 x1 w' → K' x0 x1 w') : c_ref15_Holes_Done a0 w K' :=
  Calls.mono h fun e w' hh => by obtain ⟨x0, x1, he, hx⟩ := hh; exact ⟨x0, x1, he, hk _ _ _ hx⟩

/-- (*goosepond/goosepondref15.Holes).Bytes -/
abbrev n_ref15_Holes_Bytes : FuncId := 36
def c_ref15_Holes_Bytes (a0 : Option Addr) (w : World) (K : Int → World → Prop) : Prop :=
  Calls Try.prog 36 ⟨[(Value.pointer a0)]⟩ w fun e w' => ∃ y11 : Int, e = .returned (Value.int .i64 y11) ∧ K y11 w'
theorem cm_ref15_Holes_Bytes {a0 w K K'} (h : c_ref15_Holes_Bytes a0 w K) (hk : ∀ x0 w', K x0 w' → K' x0 w') : c_ref15_Holes_Bytes a0 w K' :=
  Calls.mono h fun e w' hh => by obtain ⟨x0, he, hx⟩ := hh; exact ⟨x0, he, hk _ _ hx⟩

/-- goosepond/holes.New -/
abbrev n_holes_New : FuncId := 37
def c_holes_New  (w : World) (K : (Option Addr) → World → Prop) : Prop :=
  Calls Try.prog 37 ⟨[]⟩ w fun e w' => ∃ y3 : Option Addr, e = .returned (Value.pointer y3) ∧ K y3 w'
theorem cm_holes_New { w K K'} (h : c_holes_New  w K) (hk : ∀ x0 w', K x0 w' → K' x0 w') : c_holes_New  w K' :=
  Calls.mono h fun e w' hh => by obtain ⟨x0, he, hx⟩ := hh; exact ⟨x0, he, hk _ _ hx⟩

/-- (*goosepond/holes.Holes).ready -/
abbrev n_holes_Holes_ready : FuncId := 38
def c_holes_Holes_ready (a0 : Option Addr) (w : World) (K : Bool → World → Prop) : Prop :=
  Calls Try.prog 38 ⟨[(Value.pointer a0)]⟩ w fun e w' => ∃ y6 : Bool, e = .returned (Value.bool y6) ∧ K y6 w'
theorem cm_holes_Holes_ready {a0 w K K'} (h : c_holes_Holes_ready a0 w K) (hk : ∀ x0 w', K x0 w' → K' x0 w') : c_holes_Holes_ready a0 w K' :=
  Calls.mono h fun e w' hh => by obtain ⟨x0, he, hx⟩ := hh; exact ⟨x0, he, hk _ _ hx⟩

/-- (*goosepond/holes.Holes).has -/
abbrev n_holes_Holes_has : FuncId := 39
def c_holes_Holes_has (a0 : Option Addr) (a1_0 : Int) (a1_1 : Bool) (a1_2 : SliceV) (w : World) (K : Bool → World → Prop) : Prop :=
  Calls Try.prog 39 ⟨[(Value.pointer a0), (Value.agg ⟨[(Value.int .i64 a1_0), (Value.bool a1_1), (Value.slice a1_2.a a1_2.len a1_2.cap)]⟩)]⟩ w fun e w' => ∃ y12 : Bool, e = .returned (Value.bool y12) ∧ K y12 w'
theorem cm_holes_Holes_has {a0 a1_0 a1_1 a1_2 w K K'} (h : c_holes_Holes_has a0 a1_0 a1_1 a1_2 w K) (hk : ∀ x0 w', K x0 w' → K' x0 w') : c_holes_Holes_has a0 a1_0 a1_1 a1_2 w K' :=
  Calls.mono h fun e w' hh => by obtain ⟨x0, he, hx⟩ := hh; exact ⟨x0, he, hk _ _ hx⟩

/-- (*goosepond/holes.Holes).Bytes -/
abbrev n_holes_Holes_Bytes : FuncId := 40
def c_holes_Holes_Bytes (a0 : Option Addr) (w : World) (K : Int → World → Prop) : Prop :=
  Calls Try.prog 40 ⟨[(Value.pointer a0)]⟩ w fun e w' => ∃ y6 : Int, e = .returned (Value.int .i64 y6) ∧ K y6 w'
theorem cm_holes_Holes_Bytes {a0 w K K'} (h : c_holes_Holes_Bytes a0 w K) (hk : ∀ x0 w', K x0 w' → K' x0 w') : c_holes_Holes_Bytes a0 w K' :=
  Calls.mono h fun e w' hh => by obtain ⟨x0, he, hx⟩ := hh; exact ⟨x0, he, hk _ _ hx⟩

/-- goosepond/holes.may -/
abbrev n_holes_may : FuncId := 41
def c_holes_may (a0_0 : Int) (a0_1 : Bool) (a0_2 : SliceV) (w : World) (K : Int → World → Prop) : Prop :=
  Calls Try.prog 41 ⟨[(Value.agg ⟨[(Value.int .i64 a0_0), (Value.bool a0_1), (Value.slice a0_2.a a0_2.len a0_2.cap)]⟩)]⟩ w fun e w' => ∃ y12 : Int, e = .returned (Value.int .i64 y12) ∧ K y12 w'
theorem cm_holes_may {a0_0 a0_1 a0_2 w K K'} (h : c_holes_may a0_0 a0_1 a0_2 w K) (hk : ∀ x0 w', K x0 w' → K' x0 w') : c_holes_may a0_0 a0_1 a0_2 w K' :=
  Calls.mono h fun e w' hh => by obtain ⟨x0, he, hx⟩ := hh; exact ⟨x0, he, hk _ _ hx⟩

/-- (*goosepond/holes.Holes).meets -/
abbrev n_holes_Holes_meets : FuncId := 42
def c_holes_Holes_meets (a0 : Option Addr) (a1_0 : Int) (a1_1 : Bool) (a1_2 : SliceV) (w : World) (K : Bool → World → Prop) : Prop :=
  Calls Try.prog 42 ⟨[(Value.pointer a0), (Value.agg ⟨[(Value.int .i64 a1_0), (Value.bool a1_1), (Value.slice a1_2.a a1_2.len a1_2.cap)]⟩)]⟩ w fun e w' => ∃ y46 : Bool, e = .returned (Value.bool y46) ∧ K y46 w'
theorem cm_holes_Holes_meets {a0 a1_0 a1_1 a1_2 w K K'} (h : c_holes_Holes_meets a0 a1_0 a1_1 a1_2 w K) (hk : ∀ x0 w', K x0 w' → K' x0 w') : c_holes_Holes_meets a0 a1_0 a1_1 a1_2 w K' :=
  Calls.mono h fun e w' hh => by obtain ⟨x0, he, hx⟩ := hh; exact ⟨x0, he, hk _ _ hx⟩

/-- (*goosepond/holes.Holes).fits -/
abbrev n_holes_Holes_fits : FuncId := 43
def c_holes_Holes_fits (a0 : Option Addr) (a1_0 : Int) (a1_1 : Bool) (a1_2 : SliceV) (w : World) (K : Bool → World → Prop) : Prop :=
  Calls Try.prog 43 ⟨[(Value.pointer a0), (Value.agg ⟨[(Value.int .i64 a1_0), (Value.bool a1_1), (Value.slice a1_2.a a1_2.len a1_2.cap)]⟩)]⟩ w fun e w' => ∃ y30 : Bool, e = .returned (Value.bool y30) ∧ K y30 w'
theorem cm_holes_Holes_fits {a0 a1_0 a1_1 a1_2 w K K'} (h : c_holes_Holes_fits a0 a1_0 a1_1 a1_2 w K) (hk : ∀ x0 w', K x0 w' → K' x0 w') : c_holes_Holes_fits a0 a1_0 a1_1 a1_2 w K' :=
  Calls.mono h fun e w' hh => by obtain ⟨x0, he, hx⟩ := hh; exact ⟨x0, he, hk _ _ hx⟩

/-- slices.Clone[[]byte,byte] -/
abbrev n_slices_Clone_byte_byte : FuncId := 44
def c_slices_Clone_byte_byte (a0 : SliceV) (w : World) (K : SliceV → World → Prop) : Prop :=
  Calls Try.prog 44 ⟨[(Value.slice a0.a a0.len a0.cap)]⟩ w fun e w' => ∃ y6 : SliceV, e = .returned (Value.slice y6.a y6.len y6.cap) ∧ K y6 w'
theorem cm_slices_Clone_byte_byte {a0 w K K'} (h : c_slices_Clone_byte_byte a0 w K) (hk : ∀ x0 w', K x0 w' → K' x0 w') : c_slices_Clone_byte_byte a0 w K' :=
  Calls.mono h fun e w' hh => by obtain ⟨x0, he, hx⟩ := hh; exact ⟨x0, he, hk _ _ hx⟩

/-- slices.BinarySearchFunc[[]goosepond/holes.piece,goosepond/holes.piece,goosepond/holes.piece] -/
abbrev n_slices_BinarySearchFunc_holes_piece_holes_piece_holes_piece : FuncId := 45
def c_slices_BinarySearchFunc_holes_piece_holes_piece_holes_piece (a0 : SliceV) (a1_0 : Int) (a1_1 : Bool) (a1_2 : SliceV) (a2 : Value) (w : World) (K : Int → Bool → World → Prop) : Prop :=
  Calls Try.prog 45 ⟨[(Value.slice a0.a a0.len a0.cap), (Value.agg ⟨[(Value.int .i64 a1_0), (Value.bool a1_1), (Value.slice a1_2.a a1_2.len a1_2.cap)]⟩), a2]⟩ w fun e w' => ∃ y33 : Int, ∃ y34 : Bool, e = .returned (Value.tuple ⟨[(Value.int .i64 y33), (Value.bool y34)]⟩) ∧ K y33 y34 w'
theorem cm_slices_BinarySearchFunc_holes_piece_holes_piece_holes_piece {a0 a1_0 a1_1 a1_2 a2 w K K'} (h : c_slices_BinarySearchFunc_holes_piece_holes_piece_holes_piece a0 a1_0 a1_1 a1_2 a2 w K) (hk : ∀ x0 x1 w', K x0 x1 w' → K' x0 x1 w') : c_slices_BinarySearchFunc_holes_piece_holes_piece_holes_piece a0 a1_0 a1_1 a1_2 a2 w K' :=
  Calls.mono h fun e w' hh => by obtain ⟨x0, x1, he, hx⟩ := hh; exact ⟨x0, x1, he, hk _ _ _ hx⟩

/-- goosepond/holes.order -/
abbrev n_holes_order : FuncId := 46
def c_holes_order (a0_0 : Int) (a0_1 : Bool) (a0_2 : SliceV) (a1_0 : Int) (a1_1 : Bool) (a1_2 : SliceV) (w : World) (K : Int → World → Prop) : Prop :=
  Calls Try.prog 46 ⟨[(Value.agg ⟨[(Value.int .i64 a0_0), (Value.bool a0_1), (Value.slice a0_2.a a0_2.len a0_2.cap)]⟩), (Value.agg ⟨[(Value.int .i64 a1_0), (Value.bool a1_1), (Value.slice a1_2.a a1_2.len a1_2.cap)]⟩)]⟩ w fun e w' => ∃ y19 : Int, e = .returned (Value.int .i64 y19) ∧ K y19 w'
theorem cm_holes_order {a0_0 a0_1 a0_2 a1_0 a1_1 a1_2 w K K'} (h : c_holes_order a0_0 a0_1 a0_2 a1_0 a1_1 a1_2 w K) (hk : ∀ x0 w', K x0 w' → K' x0 w') : c_holes_order a0_0 a0_1 a0_2 a1_0 a1_1 a1_2 w K' :=
  Calls.mono h fun e w' hh => by obtain ⟨x0, he, hx⟩ := hh; exact ⟨x0, he, hk _ _ hx⟩

/-- slices.Insert[[]goosepond/holes.piece,goosepond/holes.piece] -/
abbrev n_slices_Insert_holes_piece_holes_piece : FuncId := 47
def c_slices_Insert_holes_piece_holes_piece (a0 : SliceV) (a1 : Int) (a2 : SliceV) (w : World) (K : SliceV → World → Prop) : Prop :=
  Calls Try.prog 47 ⟨[(Value.slice a0.a a0.len a0.cap), (Value.int .i64 a1), (Value.slice a2.a a2.len a2.cap)]⟩ w fun e w' => ∃ y34 : SliceV, e = .returned (Value.slice y34.a y34.len y34.cap) ∧ K y34 w'
theorem cm_slices_Insert_holes_piece_holes_piece {a0 a1 a2 w K K'} (h : c_slices_Insert_holes_piece_holes_piece a0 a1 a2 w K) (hk : ∀ x0 w', K x0 w' → K' x0 w') : c_slices_Insert_holes_piece_holes_piece a0 a1 a2 w K' :=
  Calls.mono h fun e w' hh => by obtain ⟨x0, he, hx⟩ := hh; exact ⟨x0, he, hk _ _ hx⟩

/-- (goosepond/holes.piece).end -/
abbrev n_holes_piece_end : FuncId := 48
def c_holes_piece_end (a0_0 : Int) (a0_1 : Bool) (a0_2 : SliceV) (w : World) (K : Int → World → Prop) : Prop :=
  Calls Try.prog 48 ⟨[(Value.agg ⟨[(Value.int .i64 a0_0), (Value.bool a0_1), (Value.slice a0_2.a a0_2.len a0_2.cap)]⟩)]⟩ w fun e w' => ∃ y6 : Int, e = .returned (Value.int .i64 y6) ∧ K y6 w'
theorem cm_holes_piece_end {a0_0 a0_1 a0_2 w K K'} (h : c_holes_piece_end a0_0 a0_1 a0_2 w K) (hk : ∀ x0 w', K x0 w' → K' x0 w') : c_holes_piece_end a0_0 a0_1 a0_2 w K' :=
  Calls.mono h fun e w' hh => by obtain ⟨x0, he, hx⟩ := hh; exact ⟨x0, he, hk _ _ hx⟩

/-- (*goosepond/holes.Holes).Gaps -/
abbrev n_holes_Holes_Gaps : FuncId := 49
def c_holes_Holes_Gaps (a0 : Option Addr) (w : World) (K : Value → World → Prop) : Prop :=
  Calls Try.prog 49 ⟨[(Value.pointer a0)]⟩ w fun e w' => ∃ y4 : Value, e = .returned y4 ∧ K y4 w'
theorem cm_holes_Holes_Gaps {a0 w K K'} (h : c_holes_Holes_Gaps a0 w K) (hk : ∀ x0 w', K x0 w' → K' x0 w') : c_holes_Holes_Gaps a0 w K' :=
  Calls.mono h fun e w' hh => by obtain ⟨x0, he, hx⟩ := hh; exact ⟨x0, he, hk _ _ hx⟩

/-- slices.pdqsortOrdered[string] -/
abbrev n_slices_pdqsortOrdered_string : FuncId := 50
def c_slices_pdqsortOrdered_string (a0 : SliceV) (a1 : Int) (a2 : Int) (a3 : Int) (w : World) (K : World → Prop) : Prop :=
  Calls Try.prog 50 ⟨[(Value.slice a0.a a0.len a0.cap), (Value.int .i64 a1), (Value.int .i64 a2), (Value.int .i64 a3)]⟩ w fun e w' => e = .returned (Value.tuple ⟨[]⟩) ∧ K w'
theorem cm_slices_pdqsortOrdered_string {a0 a1 a2 a3 w K K'} (h : c_slices_pdqsortOrdered_string a0 a1 a2 a3 w K) (hk : ∀  w', K  w' → K'  w') : c_slices_pdqsortOrdered_string a0 a1 a2 a3 w K' :=
  Calls.mono h fun e w' hh => by obtain ⟨he, hx⟩ := hh; exact ⟨he, hk  _ hx⟩

/-- math/bits.Len -/
abbrev n_math_bits_Len : FuncId := 51
def c_math_bits_Len (a0 : Int) (w : World) (K : Int → World → Prop) : Prop :=
  Calls Try.prog 51 ⟨[(Value.int .u64 a0)]⟩ w fun e w' => ∃ y4 : Int, e = .returned (Value.int .i64 y4) ∧ K y4 w'
theorem cm_math_bits_Len {a0 w K K'} (h : c_math_bits_Len a0 w K) (hk : ∀ x0 w', K x0 w' → K' x0 w') : c_math_bits_Len a0 w K' :=
  Calls.mono h fun e w' hh => by obtain ⟨x0, he, hx⟩ := hh; exact ⟨x0, he, hk _ _ hx⟩

/-- (*goosepond/goosepondref15.Holes).same -/
abbrev n_ref15_Holes_same : FuncId := 52
def c_ref15_Holes_same (a0 : Option Addr) (a1 : Int) (a2 : Bool) (a3 : SliceV) (w : World) (K : Bool → World → Prop) : Prop :=
  Calls Try.prog 52 ⟨[(Value.pointer a0), (Value.int .i64 a1), (Value.bool a2), (Value.slice a3.a a3.len a3.cap)]⟩ w fun e w' => ∃ y26 : Bool, e = .returned (Value.bool y26) ∧ K y26 w'
theorem cm_ref15_Holes_same {a0 a1 a2 a3 w K K'} (h : c_ref15_Holes_same a0 a1 a2 a3 w K) (hk : ∀ x0 w', K x0 w' → K' x0 w') : c_ref15_Holes_same a0 a1 a2 a3 w K' :=
  Calls.mono h fun e w' hh => by obtain ⟨x0, he, hx⟩ := hh; exact ⟨x0, he, hk _ _ hx⟩

/-- (*goosepond/goosepondref15.Holes).shares -/
abbrev n_ref15_Holes_shares : FuncId := 53
def c_ref15_Holes_shares (a0 : Option Addr) (a1 : Int) (a2 : SliceV) (w : World) (K : Bool → World → Prop) : Prop :=
  Calls Try.prog 53 ⟨[(Value.pointer a0), (Value.int .i64 a1), (Value.slice a2.a a2.len a2.cap)]⟩ w fun e w' => ∃ y32 : Bool, e = .returned (Value.bool y32) ∧ K y32 w'
theorem cm_ref15_Holes_shares {a0 a1 a2 w K K'} (h : c_ref15_Holes_shares a0 a1 a2 w K) (hk : ∀ x0 w', K x0 w' → K' x0 w') : c_ref15_Holes_shares a0 a1 a2 w K' :=
  Calls.mono h fun e w' hh => by obtain ⟨x0, he, hx⟩ := hh; exact ⟨x0, he, hk _ _ hx⟩

/-- (*goosepond/goosepondref15.Holes).end -/
abbrev n_ref15_Holes_end : FuncId := 54
def c_ref15_Holes_end (a0 : Option Addr) (w : World) (K : Int → World → Prop) : Prop :=
  Calls Try.prog 54 ⟨[(Value.pointer a0)]⟩ w fun e w' => ∃ y19 : Int, e = .returned (Value.int .i64 y19) ∧ K y19 w'
theorem cm_ref15_Holes_end {a0 w K K'} (h : c_ref15_Holes_end a0 w K) (hk : ∀ x0 w', K x0 w' → K' x0 w') : c_ref15_Holes_end a0 w K' :=
  Calls.mono h fun e w' hh => by obtain ⟨x0, he, hx⟩ := hh; exact ⟨x0, he, hk _ _ hx⟩

/-- (*goosepond/goosepondref15.Holes).Far -/
abbrev n_ref15_Holes_Far : FuncId := 55
def c_ref15_Holes_Far (a0 : Option Addr) (w : World) (K : Int → World → Prop) : Prop :=
  Calls Try.prog 55 ⟨[(Value.pointer a0)]⟩ w fun e w' => ∃ y15 : Int, e = .returned (Value.int .i64 y15) ∧ K y15 w'
theorem cm_ref15_Holes_Far {a0 w K K'} (h : c_ref15_Holes_Far a0 w K) (hk : ∀ x0 w', K x0 w' → K' x0 w') : c_ref15_Holes_Far a0 w K' :=
  Calls.mono h fun e w' hh => by obtain ⟨x0, he, hx⟩ := hh; exact ⟨x0, he, hk _ _ hx⟩

/-- slices.ContainsFunc[[]goosepond/holes.piece,goosepond/holes.piece] -/
abbrev n_slices_ContainsFunc_holes_piece_holes_piece : FuncId := 56
def c_slices_ContainsFunc_holes_piece_holes_piece (a0 : SliceV) (a1 : Value) (w : World) (K : Bool → World → Prop) : Prop :=
  Calls Try.prog 56 ⟨[(Value.slice a0.a a0.len a0.cap), a1]⟩ w fun e w' => ∃ y5 : Bool, e = .returned (Value.bool y5) ∧ K y5 w'
theorem cm_slices_ContainsFunc_holes_piece_holes_piece {a0 a1 w K K'} (h : c_slices_ContainsFunc_holes_piece_holes_piece a0 a1 w K) (hk : ∀ x0 w', K x0 w' → K' x0 w') : c_slices_ContainsFunc_holes_piece_holes_piece a0 a1 w K' :=
  Calls.mono h fun e w' hh => by obtain ⟨x0, he, hx⟩ := hh; exact ⟨x0, he, hk _ _ hx⟩

/-- (goosepond/holes.piece).is -/
abbrev n_holes_piece_is : FuncId := 57
def c_holes_piece_is (a0_0 : Int) (a0_1 : Bool) (a0_2 : SliceV) (a1_0 : Int) (a1_1 : Bool) (a1_2 : SliceV) (w : World) (K : Bool → World → Prop) : Prop :=
  Calls Try.prog 57 ⟨[(Value.agg ⟨[(Value.int .i64 a0_0), (Value.bool a0_1), (Value.slice a0_2.a a0_2.len a0_2.cap)]⟩), (Value.agg ⟨[(Value.int .i64 a1_0), (Value.bool a1_1), (Value.slice a1_2.a a1_2.len a1_2.cap)]⟩)]⟩ w fun e w' => ∃ y18 : Bool, e = .returned (Value.bool y18) ∧ K y18 w'
theorem cm_holes_piece_is {a0_0 a0_1 a0_2 a1_0 a1_1 a1_2 w K K'} (h : c_holes_piece_is a0_0 a0_1 a0_2 a1_0 a1_1 a1_2 w K) (hk : ∀ x0 w', K x0 w' → K' x0 w') : c_holes_piece_is a0_0 a0_1 a0_2 a1_0 a1_1 a1_2 w K' :=
  Calls.mono h fun e w' hh => by obtain ⟨x0, he, hx⟩ := hh; exact ⟨x0, he, hk _ _ hx⟩

/-- (*goosepond/holes.Holes).far -/
abbrev n_holes_Holes_far : FuncId := 58
def c_holes_Holes_far (a0 : Option Addr) (w : World) (K : Int → World → Prop) : Prop :=
  Calls Try.prog 58 ⟨[(Value.pointer a0)]⟩ w fun e w' => ∃ y19 : Int, e = .returned (Value.int .i64 y19) ∧ K y19 w'
theorem cm_holes_Holes_far {a0 w K K'} (h : c_holes_Holes_far a0 w K) (hk : ∀ x0 w', K x0 w' → K' x0 w') : c_holes_Holes_far a0 w K' :=
  Calls.mono h fun e w' hh => by obtain ⟨x0, he, hx⟩ := hh; exact ⟨x0, he, hk _ _ hx⟩

/-- cmp.Or[int] -/
abbrev n_cmp_Or_int : FuncId := 59
def c_cmp_Or_int (a0 : SliceV) (w : World) (K : Int → World → Prop) : Prop :=
  Calls Try.prog 59 ⟨[(Value.slice a0.a a0.len a0.cap)]⟩ w fun e w' => ∃ y7 : Int, e = .returned (Value.int .i64 y7) ∧ K y7 w'
theorem cm_cmp_Or_int {a0 w K K'} (h : c_cmp_Or_int a0 w K) (hk : ∀ x0 w', K x0 w' → K' x0 w') : c_cmp_Or_int a0 w K' :=
  Calls.mono h fun e w' hh => by obtain ⟨x0, he, hx⟩ := hh; exact ⟨x0, he, hk _ _ hx⟩

/-- cmp.Compare[int] -/
abbrev n_cmp_Compare_int : FuncId := 60
def c_cmp_Compare_int (a0 : Int) (a1 : Int) (w : World) (K : Int → World → Prop) : Prop :=
  Calls Try.prog 60 ⟨[(Value.int .i64 a0), (Value.int .i64 a1)]⟩ w fun e w' => ∃ y7 : Int, e = .returned (Value.int .i64 y7) ∧ K y7 w'
theorem cm_cmp_Compare_int {a0 a1 w K K'} (h : c_cmp_Compare_int a0 a1 w K) (hk : ∀ x0 w', K x0 w' → K' x0 w') : c_cmp_Compare_int a0 a1 w K' :=
  Calls.mono h fun e w' hh => by obtain ⟨x0, he, hx⟩ := hh; exact ⟨x0, he, hk _ _ hx⟩

/-- slices.rotateRight[goosepond/holes.piece] -/
abbrev n_slices_rotateRight_holes_piece : FuncId := 62
def c_slices_rotateRight_holes_piece (a0 : SliceV) (a1 : Int) (w : World) (K : World → Prop) : Prop :=
  Calls Try.prog 62 ⟨[(Value.slice a0.a a0.len a0.cap), (Value.int .i64 a1)]⟩ w fun e w' => e = .returned (Value.tuple ⟨[]⟩) ∧ K w'
theorem cm_slices_rotateRight_holes_piece {a0 a1 w K K'} (h : c_slices_rotateRight_holes_piece a0 a1 w K) (hk : ∀  w', K  w' → K'  w') : c_slices_rotateRight_holes_piece a0 a1 w K' :=
  Calls.mono h fun e w' hh => by obtain ⟨he, hx⟩ := hh; exact ⟨he, hk  _ hx⟩

/-- (*goosepond/holes.Holes).Gaps$1 -/
abbrev n_holes_Holes_Gaps_1 : FuncId := 63
def c_holes_Holes_Gaps_1 (a0 : Value) (f0 : Addr) (w : World) (K : World → Prop) : Prop :=
  Calls Try.prog 63 ⟨[a0, (Value.pointer (some f0))]⟩ w fun e w' => e = .returned (Value.tuple ⟨[]⟩) ∧ K w'
theorem cm_holes_Holes_Gaps_1 {a0 f0 w K K'} (h : c_holes_Holes_Gaps_1 a0 f0 w K) (hk : ∀  w', K  w' → K'  w') : c_holes_Holes_Gaps_1 a0 f0 w K' :=
  Calls.mono h fun e w' hh => by obtain ⟨he, hx⟩ := hh; exact ⟨he, hk  _ hx⟩

/-- slices.insertionSortOrdered[string] -/
abbrev n_slices_insertionSortOrdered_string : FuncId := 64
def c_slices_insertionSortOrdered_string (a0 : SliceV) (a1 : Int) (a2 : Int) (w : World) (K : World → Prop) : Prop :=
  Calls Try.prog 64 ⟨[(Value.slice a0.a a0.len a0.cap), (Value.int .i64 a1), (Value.int .i64 a2)]⟩ w fun e w' => e = .returned (Value.tuple ⟨[]⟩) ∧ K w'
theorem cm_slices_insertionSortOrdered_string {a0 a1 a2 w K K'} (h : c_slices_insertionSortOrdered_string a0 a1 a2 w K) (hk : ∀  w', K  w' → K'  w') : c_slices_insertionSortOrdered_string a0 a1 a2 w K' :=
  Calls.mono h fun e w' hh => by obtain ⟨he, hx⟩ := hh; exact ⟨he, hk  _ hx⟩

/-- slices.heapSortOrdered[string] -/
abbrev n_slices_heapSortOrdered_string : FuncId := 65
def c_slices_heapSortOrdered_string (a0 : SliceV) (a1 : Int) (a2 : Int) (w : World) (K : World → Prop) : Prop :=
  Calls Try.prog 65 ⟨[(Value.slice a0.a a0.len a0.cap), (Value.int .i64 a1), (Value.int .i64 a2)]⟩ w fun e w' => e = .returned (Value.tuple ⟨[]⟩) ∧ K w'
theorem cm_slices_heapSortOrdered_string {a0 a1 a2 w K K'} (h : c_slices_heapSortOrdered_string a0 a1 a2 w K) (hk : ∀  w', K  w' → K'  w') : c_slices_heapSortOrdered_string a0 a1 a2 w K' :=
  Calls.mono h fun e w' hh => by obtain ⟨he, hx⟩ := hh; exact ⟨he, hk  _ hx⟩

/-- slices.breakPatternsOrdered[string] -/
abbrev n_slices_breakPatternsOrdered_string : FuncId := 66
def c_slices_breakPatternsOrdered_string (a0 : SliceV) (a1 : Int) (a2 : Int) (w : World) (K : World → Prop) : Prop :=
  Calls Try.prog 66 ⟨[(Value.slice a0.a a0.len a0.cap), (Value.int .i64 a1), (Value.int .i64 a2)]⟩ w fun e w' => e = .returned (Value.tuple ⟨[]⟩) ∧ K w'
theorem cm_slices_breakPatternsOrdered_string {a0 a1 a2 w K K'} (h : c_slices_breakPatternsOrdered_string a0 a1 a2 w K) (hk : ∀  w', K  w' → K'  w') : c_slices_breakPatternsOrdered_string a0 a1 a2 w K' :=
  Calls.mono h fun e w' hh => by obtain ⟨he, hx⟩ := hh; exact ⟨he, hk  _ hx⟩

/-- slices.choosePivotOrdered[string] -/
abbrev n_slices_choosePivotOrdered_string : FuncId := 67
def c_slices_choosePivotOrdered_string (a0 : SliceV) (a1 : Int) (a2 : Int) (w : World) (K : Int → Int → World → Prop) : Prop :=
  Calls Try.prog 67 ⟨[(Value.slice a0.a a0.len a0.cap), (Value.int .i64 a1), (Value.int .i64 a2)]⟩ w fun e w' => ∃ y23 : Int, ∃ y24 : Int, e = .returned (Value.tuple ⟨[(Value.int .i64 y23), (Value.int .i64 y24)]⟩) ∧ K y23 y24 w'
theorem cm_slices_choosePivotOrdered_string {a0 a1 a2 w K K'} (h : c_slices_choosePivotOrdered_string a0 a1 a2 w K) (hk : ∀ x0 x1 w', K x0 x1 w' → K' x0 x1 w') : c_slices_choosePivotOrdered_string a0 a1 a2 w K' :=
  Calls.mono h fun e w' hh => by obtain ⟨x0, x1, he, hx⟩ := hh; exact ⟨x0, x1, he, hk _ _ _ hx⟩

/-- slices.reverseRangeOrdered[string] -/
abbrev n_slices_reverseRangeOrdered_string : FuncId := 68
def c_slices_reverseRangeOrdered_string (a0 : SliceV) (a1 : Int) (a2 : Int) (w : World) (K : World → Prop) : Prop :=
  Calls Try.prog 68 ⟨[(Value.slice a0.a a0.len a0.cap), (Value.int .i64 a1), (Value.int .i64 a2)]⟩ w fun e w' => e = .returned (Value.tuple ⟨[]⟩) ∧ K w'
theorem cm_slices_reverseRangeOrdered_string {a0 a1 a2 w K K'} (h : c_slices_reverseRangeOrdered_string a0 a1 a2 w K) (hk : ∀  w', K  w' → K'  w') : c_slices_reverseRangeOrdered_string a0 a1 a2 w K' :=
  Calls.mono h fun e w' hh => by obtain ⟨he, hx⟩ := hh; exact ⟨he, hk  _ hx⟩

/-- slices.partialInsertionSortOrdered[string] -/
abbrev n_slices_partialInsertionSortOrdered_string : FuncId := 69
def c_slices_partialInsertionSortOrdered_string (a0 : SliceV) (a1 : Int) (a2 : Int) (w : World) (K : Bool → World → Prop) : Prop :=
  Calls Try.prog 69 ⟨[(Value.slice a0.a a0.len a0.cap), (Value.int .i64 a1), (Value.int .i64 a2)]⟩ w fun e w' => ∃ y66 : Bool, e = .returned (Value.bool y66) ∧ K y66 w'
theorem cm_slices_partialInsertionSortOrdered_string {a0 a1 a2 w K K'} (h : c_slices_partialInsertionSortOrdered_string a0 a1 a2 w K) (hk : ∀ x0 w', K x0 w' → K' x0 w') : c_slices_partialInsertionSortOrdered_string a0 a1 a2 w K' :=
  Calls.mono h fun e w' hh => by obtain ⟨x0, he, hx⟩ := hh; exact ⟨x0, he, hk _ _ hx⟩

/-- cmp.Less[string] -/
abbrev n_cmp_Less_string : FuncId := 70
def c_cmp_Less_string (a0 : ByteArray) (a1 : ByteArray) (w : World) (K : Bool → World → Prop) : Prop :=
  Calls Try.prog 70 ⟨[(Value.string a0), (Value.string a1)]⟩ w fun e w' => ∃ y10 : Bool, e = .returned (Value.bool y10) ∧ K y10 w'
theorem cm_cmp_Less_string {a0 a1 w K K'} (h : c_cmp_Less_string a0 a1 w K) (hk : ∀ x0 w', K x0 w' → K' x0 w') : c_cmp_Less_string a0 a1 w K' :=
  Calls.mono h fun e w' hh => by obtain ⟨x0, he, hx⟩ := hh; exact ⟨x0, he, hk _ _ hx⟩

/-- slices.partitionEqualOrdered[string] -/
abbrev n_slices_partitionEqualOrdered_string : FuncId := 71
def c_slices_partitionEqualOrdered_string (a0 : SliceV) (a1 : Int) (a2 : Int) (a3 : Int) (w : World) (K : Int → World → Prop) : Prop :=
  Calls Try.prog 71 ⟨[(Value.slice a0.a a0.len a0.cap), (Value.int .i64 a1), (Value.int .i64 a2), (Value.int .i64 a3)]⟩ w fun e w' => ∃ y48 : Int, e = .returned (Value.int .i64 y48) ∧ K y48 w'
theorem cm_slices_partitionEqualOrdered_string {a0 a1 a2 a3 w K K'} (h : c_slices_partitionEqualOrdered_string a0 a1 a2 a3 w K) (hk : ∀ x0 w', K x0 w' → K' x0 w') : c_slices_partitionEqualOrdered_string a0 a1 a2 a3 w K' :=
  Calls.mono h fun e w' hh => by obtain ⟨x0, he, hx⟩ := hh; exact ⟨x0, he, hk _ _ hx⟩

/-- slices.partitionOrdered[string] -/
abbrev n_slices_partitionOrdered_string : FuncId := 72
def c_slices_partitionOrdered_string (a0 : SliceV) (a1 : Int) (a2 : Int) (a3 : Int) (w : World) (K : Int → Bool → World → Prop) : Prop :=
  Calls Try.prog 72 ⟨[(Value.slice a0.a a0.len a0.cap), (Value.int .i64 a1), (Value.int .i64 a2), (Value.int .i64 a3)]⟩ w fun e w' => ∃ y96 : Int, ∃ y97 : Bool, e = .returned (Value.tuple ⟨[(Value.int .i64 y96), (Value.bool y97)]⟩) ∧ K y96 y97 w'
theorem cm_slices_partitionOrdered_string {a0 a1 a2 a3 w K K'} (h : c_slices_partitionOrdered_string a0 a1 a2 a3 w K) (hk : ∀ x0 x1 w', K x0 x1 w' → K' x0 x1 w') : c_slices_partitionOrdered_string a0 a1 a2 a3 w K' :=
  Calls.mono h fun e w' hh => by obtain ⟨x0, x1, he, hx⟩ := hh; exact ⟨x0, x1, he, hk _ _ _ hx⟩

/-- math/bits.Len64 -/
abbrev n_math_bits_Len64 : FuncId := 74
def c_math_bits_Len64 (a0 : Int) (w : World) (K : Int → World → Prop) : Prop :=
  Calls Try.prog 74 ⟨[(Value.int .u64 a0)]⟩ w fun e w' => ∃ y12 : Int, e = .returned (Value.int .i64 y12) ∧ K y12 w'
theorem cm_math_bits_Len64 {a0 w K K'} (h : c_math_bits_Len64 a0 w K) (hk : ∀ x0 w', K x0 w' → K' x0 w') : c_math_bits_Len64 a0 w K' :=
  Calls.mono h fun e w' hh => by obtain ⟨x0, he, hx⟩ := hh; exact ⟨x0, he, hk _ _ hx⟩

/-- slices.IndexFunc[[]goosepond/holes.piece,goosepond/holes.piece] -/
abbrev n_slices_IndexFunc_holes_piece_holes_piece : FuncId := 75
def c_slices_IndexFunc_holes_piece_holes_piece (a0 : SliceV) (a1 : Value) (w : World) (K : Int → World → Prop) : Prop :=
  Calls Try.prog 75 ⟨[(Value.slice a0.a a0.len a0.cap), a1]⟩ w fun e w' => ∃ y13 : Int, e = .returned (Value.int .i64 y13) ∧ K y13 w'
theorem cm_slices_IndexFunc_holes_piece_holes_piece {a0 a1 w K K'} (h : c_slices_IndexFunc_holes_piece_holes_piece a0 a1 w K) (hk : ∀ x0 w', K x0 w' → K' x0 w') : c_slices_IndexFunc_holes_piece_holes_piece a0 a1 w K' :=
  Calls.mono h fun e w' hh => by obtain ⟨x0, he, hx⟩ := hh; exact ⟨x0, he, hk _ _ hx⟩

/-- cmp.isNaN[int] -/
abbrev n_cmp_isNaN_int : FuncId := 76
def c_cmp_isNaN_int (a0 : Int) (w : World) (K : Bool → World → Prop) : Prop :=
  Calls Try.prog 76 ⟨[(Value.int .i64 a0)]⟩ w fun e w' => ∃ y2 : Bool, e = .returned (Value.bool y2) ∧ K y2 w'
theorem cm_cmp_isNaN_int {a0 w K K'} (h : c_cmp_isNaN_int a0 w K) (hk : ∀ x0 w', K x0 w' → K' x0 w') : c_cmp_isNaN_int a0 w K' :=
  Calls.mono h fun e w' hh => by obtain ⟨x0, he, hx⟩ := hh; exact ⟨x0, he, hk _ _ hx⟩

/-- slices.rotateLeft[goosepond/holes.piece] -/
abbrev n_slices_rotateLeft_holes_piece : FuncId := 77
def c_slices_rotateLeft_holes_piece (a0 : SliceV) (a1 : Int) (w : World) (K : World → Prop) : Prop :=
  Calls Try.prog 77 ⟨[(Value.slice a0.a a0.len a0.cap), (Value.int .i64 a1)]⟩ w fun e w' => e = .returned (Value.tuple ⟨[]⟩) ∧ K w'
theorem cm_slices_rotateLeft_holes_piece {a0 a1 w K K'} (h : c_slices_rotateLeft_holes_piece a0 a1 w K) (hk : ∀  w', K  w' → K'  w') : c_slices_rotateLeft_holes_piece a0 a1 w K' :=
  Calls.mono h fun e w' hh => by obtain ⟨he, hx⟩ := hh; exact ⟨he, hk  _ hx⟩

/-- slices.siftDownOrdered[string] -/
abbrev n_slices_siftDownOrdered_string : FuncId := 78
def c_slices_siftDownOrdered_string (a0 : SliceV) (a1 : Int) (a2 : Int) (a3 : Int) (w : World) (K : World → Prop) : Prop :=
  Calls Try.prog 78 ⟨[(Value.slice a0.a a0.len a0.cap), (Value.int .i64 a1), (Value.int .i64 a2), (Value.int .i64 a3)]⟩ w fun e w' => e = .returned (Value.tuple ⟨[]⟩) ∧ K w'
theorem cm_slices_siftDownOrdered_string {a0 a1 a2 a3 w K K'} (h : c_slices_siftDownOrdered_string a0 a1 a2 a3 w K) (hk : ∀  w', K  w' → K'  w') : c_slices_siftDownOrdered_string a0 a1 a2 a3 w K' :=
  Calls.mono h fun e w' hh => by obtain ⟨he, hx⟩ := hh; exact ⟨he, hk  _ hx⟩

/-- slices.nextPowerOfTwo -/
abbrev n_slices_nextPowerOfTwo : FuncId := 79
def c_slices_nextPowerOfTwo (a0 : Int) (w : World) (K : Int → World → Prop) : Prop :=
  Calls Try.prog 79 ⟨[(Value.int .i64 a0)]⟩ w fun e w' => ∃ y4 : Int, e = .returned (Value.int .u64 y4) ∧ K y4 w'
theorem cm_slices_nextPowerOfTwo {a0 w K K'} (h : c_slices_nextPowerOfTwo a0 w K) (hk : ∀ x0 w', K x0 w' → K' x0 w') : c_slices_nextPowerOfTwo a0 w K' :=
  Calls.mono h fun e w' hh => by obtain ⟨x0, he, hx⟩ := hh; exact ⟨x0, he, hk _ _ hx⟩

/-- (*slices.xorshift).Next -/
abbrev n_slices_xorshift_Next : FuncId := 80
def c_slices_xorshift_Next (a0 : Option Addr) (w : World) (K : Int → World → Prop) : Prop :=
  Calls Try.prog 80 ⟨[(Value.pointer a0)]⟩ w fun e w' => ∃ y22 : Int, e = .returned (Value.int .u64 y22) ∧ K y22 w'
theorem cm_slices_xorshift_Next {a0 w K K'} (h : c_slices_xorshift_Next a0 w K) (hk : ∀ x0 w', K x0 w' → K' x0 w') : c_slices_xorshift_Next a0 w K' :=
  Calls.mono h fun e w' hh => by obtain ⟨x0, he, hx⟩ := hh; exact ⟨x0, he, hk _ _ hx⟩

/-- slices.medianAdjacentOrdered[string] -/
abbrev n_slices_medianAdjacentOrdered_string : FuncId := 81
def c_slices_medianAdjacentOrdered_string (a0 : SliceV) (a1 : Int) (a2 : Option Addr) (w : World) (K : Int → World → Prop) : Prop :=
  Calls Try.prog 81 ⟨[(Value.slice a0.a a0.len a0.cap), (Value.int .i64 a1), (Value.pointer a2)]⟩ w fun e w' => ∃ y6 : Int, e = .returned (Value.int .i64 y6) ∧ K y6 w'
theorem cm_slices_medianAdjacentOrdered_string {a0 a1 a2 w K K'} (h : c_slices_medianAdjacentOrdered_string a0 a1 a2 w K) (hk : ∀ x0 w', K x0 w' → K' x0 w') : c_slices_medianAdjacentOrdered_string a0 a1 a2 w K' :=
  Calls.mono h fun e w' hh => by obtain ⟨x0, he, hx⟩ := hh; exact ⟨x0, he, hk _ _ hx⟩

/-- slices.medianOrdered[string] -/
abbrev n_slices_medianOrdered_string : FuncId := 82
def c_slices_medianOrdered_string (a0 : SliceV) (a1 : Int) (a2 : Int) (a3 : Int) (a4 : Option Addr) (w : World) (K : Int → World → Prop) : Prop :=
  Calls Try.prog 82 ⟨[(Value.slice a0.a a0.len a0.cap), (Value.int .i64 a1), (Value.int .i64 a2), (Value.int .i64 a3), (Value.pointer a4)]⟩ w fun e w' => ∃ y15 : Int, e = .returned (Value.int .i64 y15) ∧ K y15 w'
theorem cm_slices_medianOrdered_string {a0 a1 a2 a3 a4 w K K'} (h : c_slices_medianOrdered_string a0 a1 a2 a3 a4 w K) (hk : ∀ x0 w', K x0 w' → K' x0 w') : c_slices_medianOrdered_string a0 a1 a2 a3 a4 w K' :=
  Calls.mono h fun e w' hh => by obtain ⟨x0, he, hx⟩ := hh; exact ⟨x0, he, hk _ _ hx⟩

/-- cmp.isNaN[string] -/
abbrev n_cmp_isNaN_string : FuncId := 83
def c_cmp_isNaN_string (a0 : ByteArray) (w : World) (K : Bool → World → Prop) : Prop :=
  Calls Try.prog 83 ⟨[(Value.string a0)]⟩ w fun e w' => ∃ y2 : Bool, e = .returned (Value.bool y2) ∧ K y2 w'
theorem cm_cmp_isNaN_string {a0 w K K'} (h : c_cmp_isNaN_string a0 w K) (hk : ∀ x0 w', K x0 w' → K' x0 w') : c_cmp_isNaN_string a0 w K' :=
  Calls.mono h fun e w' hh => by obtain ⟨x0, he, hx⟩ := hh; exact ⟨x0, he, hk _ _ hx⟩

/-- slices.Reverse[[]goosepond/holes.piece,goosepond/holes.piece] -/
abbrev n_slices_Reverse_holes_piece_holes_piece : FuncId := 84
def c_slices_Reverse_holes_piece_holes_piece (a0 : SliceV) (w : World) (K : World → Prop) : Prop :=
  Calls Try.prog 84 ⟨[(Value.slice a0.a a0.len a0.cap)]⟩ w fun e w' => e = .returned (Value.tuple ⟨[]⟩) ∧ K w'
theorem cm_slices_Reverse_holes_piece_holes_piece {a0 w K K'} (h : c_slices_Reverse_holes_piece_holes_piece a0 w K) (hk : ∀  w', K  w' → K'  w') : c_slices_Reverse_holes_piece_holes_piece a0 w K' :=
  Calls.mono h fun e w' hh => by obtain ⟨he, hx⟩ := hh; exact ⟨he, hk  _ hx⟩

/-- slices.order2Ordered[string] -/
abbrev n_slices_order2Ordered_string : FuncId := 85
def c_slices_order2Ordered_string (a0 : SliceV) (a1 : Int) (a2 : Int) (a3 : Option Addr) (w : World) (K : Int → Int → World → Prop) : Prop :=
  Calls Try.prog 85 ⟨[(Value.slice a0.a a0.len a0.cap), (Value.int .i64 a1), (Value.int .i64 a2), (Value.pointer a3)]⟩ w fun e w' => ∃ y15 : Int, ∃ y16 : Int, e = .returned (Value.tuple ⟨[(Value.int .i64 y15), (Value.int .i64 y16)]⟩) ∧ K y15 y16 w'
theorem cm_slices_order2Ordered_string {a0 a1 a2 a3 w K K'} (h : c_slices_order2Ordered_string a0 a1 a2 a3 w K) (hk : ∀ x0 x1 w', K x0 x1 w' → K' x0 x1 w') : c_slices_order2Ordered_string a0 a1 a2 a3 w K' :=
  Calls.mono h fun e w' hh => by obtain ⟨x0, x1, he, hx⟩ := hh; exact ⟨x0, x1, he, hk _ _ _ hx⟩

/-- goosepond/goosepondlaw16.JoinBounds -/
def s_law16_JoinBounds (a0 : Int) (a1 : Int) (a2 : SliceV) (w : World) (K : Bool → World → Prop) : Prop :=
 (c_law16_far a2 w fun r4 w5 =>
 (bif r4 then
 c_law16_awake  w5 fun r6 w7 =>
 K r6 w7
 else
 c_join_New (IntKind.i64.wrap a0) (IntKind.i64.wrap a1) 60 w5 fun r8 r9 w10 =>
 let J11 : Bool → Prop := fun j12 =>
 ((bif j12 then
 K false w10
 else
 LoopP (S := Int × Unit) (fun s13 w14 next15 =>
 (bif (decide (s13.1 < (a2.len : Int))) then
 AtIx a2 7 s13.1 fun a16 =>
 Ld .bool w14 (a16.add 0) fun x17 =>
 Ld .str w14 (a16.add 1) fun x18 =>
 Ld (.int .i64) w14 (a16.add 2) fun x19 =>
 Ld .bool w14 (a16.add 3) fun x20 =>
 Ld .slice w14 (a16.add 4) fun x21 =>
 Ld .str w14 (a16.add 5) fun x22 =>
 Ld (.int .i64) w14 (a16.add 6) fun x23 =>
 Al w14 (.cells ⟨[(Value.bool false), (Value.string (bs [])), (Value.int .i64 0), (Value.bool false), (Value.slice none 0 0), (Value.string (bs [])), (Value.int .i64 0)]⟩ 31) fun a25 w24 =>
 StN [(Value.bool x17), (Value.string x18), (Value.int .i64 x19), (Value.bool x20), (Value.slice x21.a x21.len x21.cap), (Value.string x22), (Value.int .i64 x23)] w24 a25 0 fun w26 =>
 Ld .str w26 (a25.add 1) fun x27 =>
 Ld (.int .i64) w26 (a25.add 2) fun x28 =>
 Ld .bool w26 (a25.add 3) fun x29 =>
 Ld .slice w26 (a25.add 4) fun x30 =>
 Ld .str w26 (a25.add 5) fun x31 =>
 Ld (.int .i64) w26 (a25.add 6) fun x32 =>
 c_join_Table_Add r8 x27 x28 x29 x30 x31 x32 w26 fun r33 r34 r35 r36 w37 =>
 let J38 : Bool → World → Prop := fun j39 w40 =>
 ((bif j39 then
 K false w40
 else
 next15 ((IntKind.i64.wrap (s13.1 + 1)), ()) w40))
 c_join_Table_Bytes r8 w37 fun r41 w42 =>
 (bif (decide (r41 > (IntKind.i64.wrap a1))) then
 J38 true w42
 else
 c_join_Table_Bufs r8 w42 fun r43 w44 =>
 (bif (decide (r43 > (IntKind.i64.wrap a0))) then
 J38 true w44
 else
 c_join_Table_Bufs r8 w44 fun r45 w46 =>
 c_join_Table_Keys r8 w46 fun r47 w48 =>
 J38 (r45 != (r47.len : Int)) w48))
 else
 c_law16_awake  w14 fun r49 w50 =>
 K r49 w50)) (0, ()) w10))
 (bif (Option.isNone r8) then
 J11 true
 else
 J11 (r9 != 0))))
theorem e_law16_JoinBounds (a0 : Int) (a1 : Int) (a2 : SliceV) (w : World) (K : Bool → World → Prop) : den Try.prog 70 (bodyOf Try.f3) none (.seq .leaf (.seq (.seq .leaf (.cond (.seq .leaf .leaf) .leaf)) (.seq .leaf (.seq (.seq .leaf (.cond (.seq .leaf .leaf) .leaf)) (.seq (.seq .leaf (.blk (.loop [(30, (.int .i64))] (.seq .leaf (.seq (.cond .leaf .leaf) (.seq (.blk (.seq .leaf (.seq .leaf (.seq .leaf (.cond (.seq .leaf .leaf) .leaf))))) .leaf)))))) (.seq .leaf .leaf)))))) (argEnv 0 [(Value.int .u8 a0), (Value.int .u8 a1), (Value.slice a2.a a2.len a2.cap)]) [] w (retK Try.prog [.tmp 6] [.one .bool] K) = s_law16_JoinBounds a0 a1 a2 w K := by kernel_rfl
theorem ok_law16_JoinBounds {a0 a1 a2 w K} (h : s_law16_JoinBounds a0 a1 a2 w K) : c_law16_JoinBounds a0 a1 a2 w K :=
  fn_sound pok Try.func3 (fn := Try.f3) (c := bodyOf Try.f3) (nt := 70) (by kernel_rfl) (by kernel_rfl) (rs := [.tmp 6]) (by kernel_rfl) [.one .bool] K (.seq .leaf (.seq (.seq .leaf (.cond (.seq .leaf .leaf) .leaf)) (.seq .leaf (.seq (.seq .leaf (.cond (.seq .leaf .leaf) .leaf)) (.seq (.seq .leaf (.blk (.loop [(30, (.int .i64))] (.seq .leaf (.seq (.cond .leaf .leaf) (.seq (.blk (.seq .leaf (.seq .leaf (.seq .leaf (.cond (.seq .leaf .leaf) .leaf))))) .leaf)))))) (.seq .leaf .leaf)))))) [(Value.int .u8 a0), (Value.int .u8 a1), (Value.slice a2.a a2.len a2.cap)] (by kernel_rfl) w ((e_law16_JoinBounds a0 a1 a2 w K).mpr h)

/-- goosepond/goosepondlaw16.JoinGone -/
def s_law16_JoinGone (a0 : SliceV) (w : World) (K : Bool → World → Prop) : Prop :=
 (c_law16_far a0 w fun r2 w3 =>
 (bif r2 then
 c_law16_awake  w3 fun r4 w5 =>
 K r4 w5
 else
 c_join_New 100 100000 60 w3 fun r6 r7 w8 =>
 let J9 : Bool → Prop := fun j10 =>
 ((bif j10 then
 K false w8
 else
 LoopP (S := Int × Unit) (fun s11 w12 next13 =>
 (bif (decide (s11.1 < (a0.len : Int))) then
 AtIx a0 7 s11.1 fun a14 =>
 Ld .bool w12 (a14.add 0) fun x15 =>
 Ld .str w12 (a14.add 1) fun x16 =>
 Ld (.int .i64) w12 (a14.add 2) fun x17 =>
 Ld .bool w12 (a14.add 3) fun x18 =>
 Ld .slice w12 (a14.add 4) fun x19 =>
 Ld .str w12 (a14.add 5) fun x20 =>
 Ld (.int .i64) w12 (a14.add 6) fun x21 =>
 Al w12 (.cells ⟨[(Value.bool false), (Value.string (bs [])), (Value.int .i64 0), (Value.bool false), (Value.slice none 0 0), (Value.string (bs [])), (Value.int .i64 0)]⟩ 31) fun a23 w22 =>
 StN [(Value.bool x15), (Value.string x16), (Value.int .i64 x17), (Value.bool x18), (Value.slice x19.a x19.len x19.cap), (Value.string x20), (Value.int .i64 x21)] w22 a23 0 fun w24 =>
 Ld .str w24 (a23.add 1) fun x25 =>
 Ld (.int .i64) w24 (a23.add 2) fun x26 =>
 Ld .bool w24 (a23.add 3) fun x27 =>
 Ld .slice w24 (a23.add 4) fun x28 =>
 Ld .str w24 (a23.add 5) fun x29 =>
 c_join_Table_Add r6 x25 x26 x27 x28 x29 5 w24 fun r30 r31 r32 r33 w34 =>
 next13 ((IntKind.i64.wrap (s11.1 + 1)), ()) w34
 else
 c_join_Table_Bufs r6 w12 fun r35 w36 =>
 let J37 : Bool → World → Prop := fun j38 w39 =>
 ((bif j38 then
 K false w39
 else
 let J40 : Bool → World → Prop := fun j41 w42 =>
 (K j41 w42)
 c_join_Table_Expire r6 65 w39 fun r43 w44 =>
 (bif ((r43.len : Int) == r35) then
 c_join_Table_Bufs r6 w44 fun r45 w46 =>
 (bif (r45 == 0) then
 c_join_Table_Bytes r6 w46 fun r47 w48 =>
 (bif (r47 == 0) then
 c_law16_awake  w48 fun r49 w50 =>
 J40 r49 w50
 else
 J40 false w48)
 else
 J40 false w46)
 else
 J40 false w44)))
 c_join_Table_Expire r6 64 w36 fun r51 w52 =>
 (bif ((r51.len : Int) != 0) then
 J37 true w52
 else
 c_join_Table_Bufs r6 w52 fun r53 w54 =>
 J37 (r53 != r35) w54))) (0, ()) w8))
 (bif (Option.isNone r6) then
 J9 true
 else
 J9 (r7 != 0))))
theorem e_law16_JoinGone (a0 : SliceV) (w : World) (K : Bool → World → Prop) : den Try.prog 70 (bodyOf Try.f4) none (.seq .leaf (.seq (.seq .leaf (.cond (.seq .leaf .leaf) .leaf)) (.seq .leaf (.seq (.seq .leaf (.cond (.seq .leaf .leaf) .leaf)) (.seq (.seq .leaf (.blk (.loop [(23, (.int .i64))] (.seq .leaf (.seq (.cond .leaf .leaf) (.seq (.blk (.seq .leaf .leaf)) .leaf)))))) (.seq .leaf (.seq (.seq .leaf (.cond (.seq .leaf .leaf) .leaf)) (.seq .leaf .leaf)))))))) (argEnv 0 [(Value.slice a0.a a0.len a0.cap)]) [] w (retK Try.prog [.tmp 2] [.one .bool] K) = s_law16_JoinGone a0 w K := by kernel_rfl
theorem ok_law16_JoinGone {a0 w K} (h : s_law16_JoinGone a0 w K) : c_law16_JoinGone a0 w K :=
  fn_sound pok Try.func4 (fn := Try.f4) (c := bodyOf Try.f4) (nt := 70) (by kernel_rfl) (by kernel_rfl) (rs := [.tmp 2]) (by kernel_rfl) [.one .bool] K (.seq .leaf (.seq (.seq .leaf (.cond (.seq .leaf .leaf) .leaf)) (.seq .leaf (.seq (.seq .leaf (.cond (.seq .leaf .leaf) .leaf)) (.seq (.seq .leaf (.blk (.loop [(23, (.int .i64))] (.seq .leaf (.seq (.cond .leaf .leaf) (.seq (.blk (.seq .leaf .leaf)) .leaf)))))) (.seq .leaf (.seq (.seq .leaf (.cond (.seq .leaf .leaf) .leaf)) (.seq .leaf .leaf)))))))) [(Value.slice a0.a a0.len a0.cap)] (by kernel_rfl) w ((e_law16_JoinGone a0 w K).mpr h)

/-- goosepond/goosepondlaw16.JoinNobody -/
def s_law16_JoinNobody (a0 : ByteArray) (a1 : Int) (a2 : SliceV) (a3 : Int) (w : World) (K : Bool → World → Prop) : Prop :=
 (Al w (.cells ⟨[(Value.map none), (Value.int .i64 0), (Value.int .i64 0), (Value.int .i64 0)]⟩ 41) fun a6 w5 =>
 c_join_Table_Add none a0 a1 false a2 a0 a3 w5 fun r7 r8 r9 r10 w11 =>
 c_join_Table_Add (some a6) a0 a1 false a2 a0 a3 w11 fun r12 r13 r14 r15 w16 =>
 JoinP (S := (Bool × Unit) × World) (fun s17 =>
 K s17.1.1 s17.2) fun J18 =>
 (bif (!r9) then
 (bif (r10 == 2) then
 (bif (!r14) then
 (bif (r15 == 2) then
 c_join_Table_Bytes none w16 fun r19 w20 =>
 (bif (r19 == 0) then
 c_join_Table_Bufs (some a6) w20 fun r21 w22 =>
 (bif (r21 == 0) then
 c_join_Table_Expire none a3 w22 fun r23 w24 =>
 (bif ((r23.len : Int) == 0) then
 c_join_Table_Keys (some a6) w24 fun r25 w26 =>
 (bif ((r25.len : Int) == 0) then
 c_law16_awake  w26 fun r27 w28 =>
 J18 ((r27, ()), w28)
 else
 J18 ((false, ()), w26))
 else
 J18 ((false, ()), w24))
 else
 J18 ((false, ()), w22))
 else
 J18 ((false, ()), w20))
 else
 J18 ((false, ()), w16))
 else
 J18 ((false, ()), w16))
 else
 J18 ((false, ()), w16))
 else
 J18 ((false, ()), w16)))
theorem e_law16_JoinNobody (a0 : ByteArray) (a1 : Int) (a2 : SliceV) (a3 : Int) (w : World) (K : Bool → World → Prop) : den Try.prog 80 (bodyOf Try.f5) none (.seq .leaf (.seq .leaf (.seq .leaf (.seq .leaf (.seq .leaf (.join [(8, .sh (.one .bool))] .leaf .leaf)))))) (argEnv 0 [(Value.string a0), (Value.int .i64 a1), (Value.slice a2.a a2.len a2.cap), (Value.int .i64 a3)]) [] w (retK Try.prog [.tmp 8] [.one .bool] K) = s_law16_JoinNobody a0 a1 a2 a3 w K := by kernel_rfl
theorem ok_law16_JoinNobody {a0 a1 a2 a3 w K} (h : s_law16_JoinNobody a0 a1 a2 a3 w K) : c_law16_JoinNobody a0 a1 a2 a3 w K :=
  fn_sound pok Try.func5 (fn := Try.f5) (c := bodyOf Try.f5) (nt := 80) (by kernel_rfl) (by kernel_rfl) (rs := [.tmp 8]) (by kernel_rfl) [.one .bool] K (.seq .leaf (.seq .leaf (.seq .leaf (.seq .leaf (.seq .leaf (.join [(8, .sh (.one .bool))] .leaf .leaf)))))) [(Value.string a0), (Value.int .i64 a1), (Value.slice a2.a a2.len a2.cap), (Value.int .i64 a3)] (by kernel_rfl) w ((e_law16_JoinNobody a0 a1 a2 a3 w K).mpr h)

/-- goosepond/goosepondlaw16.JoinLives -/
def s_law16_JoinLives (a0 : Int) (a1 : Int) (a2 : Int) (a3 : SliceV) (w : World) (K : Bool → World → Prop) : Prop :=
 (c_join_New a0 a1 a2 w fun r5 r6 w7 =>
 c_ref16_New a0 a1 a2 w7 fun r8 r9 w10 =>
 let J11 : Bool → Prop := fun j12 =>
 ((bif j12 then
 K false w10
 else
 let J13 : Bool → World → Prop := fun j14 w15 =>
 ((bif j14 then
 c_law16_awake  w15 fun r16 w17 =>
 K r16 w17
 else
 LoopP (S := Int × Unit) (fun s18 w19 next20 =>
 (bif (decide (s18.1 < (a3.len : Int))) then
 let J21 : World → Prop := fun w22 =>
 (next20 ((IntKind.i64.wrap (s18.1 + 1)), ()) w22)
 AtIx a3 7 s18.1 fun a23 =>
 Ld .bool w19 (a23.add 0) fun x24 =>
 Ld .str w19 (a23.add 1) fun x25 =>
 Ld (.int .i64) w19 (a23.add 2) fun x26 =>
 Ld .bool w19 (a23.add 3) fun x27 =>
 Ld .slice w19 (a23.add 4) fun x28 =>
 Ld .str w19 (a23.add 5) fun x29 =>
 Ld (.int .i64) w19 (a23.add 6) fun x30 =>
 Al w19 (.cells ⟨[(Value.bool false), (Value.string (bs [])), (Value.int .i64 0), (Value.bool false), (Value.slice none 0 0), (Value.string (bs [])), (Value.int .i64 0)]⟩ 31) fun a32 w31 =>
 StN [(Value.bool x24), (Value.string x25), (Value.int .i64 x26), (Value.bool x27), (Value.slice x28.a x28.len x28.cap), (Value.string x29), (Value.int .i64 x30)] w31 a32 0 fun w33 =>
 Ld .bool w33 a32 fun x34 =>
 (bif x34 then
 Ld (.int .i64) w33.drew (a32.add 6) fun x35 =>
 Ld (.int .i64) w33.drew (a32.add 6) fun x36 =>
 c_join_Table_Expire r5 x35 w33.drew fun r37 w38 =>
 w38.cell? (a32.add 6) = some (Value.int .i64 x36) ∧
 c_ref16_Table_Expire r8 x36 w38 fun r39 w40 =>
 c_slices_Equal_string_string r37 r39 w40 fun r41 w42 =>
 (bif (!r41) then
 K false w42
 else
 J21 w42)
 else
 Ld .str w33 (a32.add 1) fun x43 =>
 Ld (.int .i64) w33 (a32.add 2) fun x44 =>
 Ld .bool w33 (a32.add 3) fun x45 =>
 Ld .slice w33 (a32.add 4) fun x46 =>
 Ld .str w33 (a32.add 5) fun x47 =>
 Ld (.int .i64) w33 (a32.add 6) fun x48 =>
 c_join_Table_Add r5 x43 x44 x45 x46 x47 x48 w33 fun r49 r50 r51 r52 w53 =>
 Ld .str w53 (a32.add 1) fun x54 =>
 Ld (.int .i64) w53 (a32.add 2) fun x55 =>
 Ld .bool w53 (a32.add 3) fun x56 =>
 Ld .slice w53 (a32.add 4) fun x57 =>
 Ld .str w53 (a32.add 5) fun x58 =>
 Ld (.int .i64) w53 (a32.add 6) fun x59 =>
 c_ref16_Table_Add r8 x54 x55 x56 x57 x58 x59 w53 fun r60 r61 r62 r63 w64 =>
 let J65 : Bool → World → Prop := fun j66 w67 =>
 ((bif j66 then
 K false w67
 else
 J21 w67))
 (bif (!strEq r49 r60) then
 J65 true w64.drew
 else
 c_bytes_Equal r50 r61 w64.drew fun r68 w69 =>
 (bif (!r68) then
 J65 true w69
 else
 (bif (!((r51 : Bool) == r62)) then
 J65 true w69
 else
 (bif (r52 != r63) then
 J65 true w69
 else
 c_join_Table_Bytes r5 w69 fun r70 w71 =>
 c_ref16_Table_Bytes r8 w71 fun r72 w73 =>
 (bif (r70 != r72) then
 J65 true w73
 else
 ∃ a74 : Addr, r8 = some a74 ∧
 Ld .slice w73 a74 fun x75 =>
 c_join_Table_Bufs r5 w73 fun r76 w77 =>
 w77.cell? a74 = some (Value.slice x75.a x75.len x75.cap) ∧
 (bif (r76 != (x75.len : Int)) then
 J65 true w77
 else
 c_join_Table_Keys r5 w77 fun r78 w79 =>
 c_ref16_Table_Keys r8 w79 fun r80 w81 =>
 c_slices_Equal_string_string r78 r80 w81 fun r82 w83 =>
 J65 (!r82) w83)))))))
 else
 c_law16_awake  w19 fun r84 w85 =>
 K r84 w85)) (0, ()) w15))
 (bif (Option.isNone r8) then
 J13 true w10
 else
 c_law16_far a3 w10 fun r86 w87 =>
 J13 r86 w87)))
 (bif (r6 != r9) then
 J11 true
 else
 J11 (!(((Option.isNone r5) : Bool) == (Option.isNone r8)))))
theorem e_law16_JoinLives (a0 : Int) (a1 : Int) (a2 : Int) (a3 : SliceV) (w : World) (K : Bool → World → Prop) : den Try.prog 156 (bodyOf Try.f6) none (.seq .leaf (.seq .leaf (.seq .leaf (.seq (.seq .leaf (.cond (.seq .leaf .leaf) .leaf)) (.seq (.seq .leaf (.cond (.seq .leaf .leaf) .leaf)) (.seq (.seq .leaf (.blk (.loop [(56, (.int .i64))] (.seq .leaf (.seq (.cond .leaf .leaf) (.seq (.blk (.seq .leaf (.seq (.seq .leaf (.cond (.seq (.seq .leaf (.cond (.seq .leaf .leaf) .leaf)) .leaf) .leaf)) (.seq .leaf (.seq .leaf (.seq .leaf (.cond (.seq .leaf .leaf) .leaf))))))) .leaf)))))) (.seq .leaf .leaf))))))) (argEnv 0 [(Value.int .i64 a0), (Value.int .i64 a1), (Value.int .i64 a2), (Value.slice a3.a a3.len a3.cap)]) [] w (retK Try.prog [.tmp 8] [.one .bool] K) = s_law16_JoinLives a0 a1 a2 a3 w K := by kernel_rfl
theorem ok_law16_JoinLives {a0 a1 a2 a3 w K} (h : s_law16_JoinLives a0 a1 a2 a3 w K) : c_law16_JoinLives a0 a1 a2 a3 w K :=
  fn_sound pok Try.func6 (fn := Try.f6) (c := bodyOf Try.f6) (nt := 156) (by kernel_rfl) (by kernel_rfl) (rs := [.tmp 8]) (by kernel_rfl) [.one .bool] K (.seq .leaf (.seq .leaf (.seq .leaf (.seq (.seq .leaf (.cond (.seq .leaf .leaf) .leaf)) (.seq (.seq .leaf (.cond (.seq .leaf .leaf) .leaf)) (.seq (.seq .leaf (.blk (.loop [(56, (.int .i64))] (.seq .leaf (.seq (.cond .leaf .leaf) (.seq (.blk (.seq .leaf (.seq (.seq .leaf (.cond (.seq (.seq .leaf (.cond (.seq .leaf .leaf) .leaf)) .leaf) .leaf)) (.seq .leaf (.seq .leaf (.seq .leaf (.cond (.seq .leaf .leaf) .leaf))))))) .leaf)))))) (.seq .leaf .leaf))))))) [(Value.int .i64 a0), (Value.int .i64 a1), (Value.int .i64 a2), (Value.slice a3.a a3.len a3.cap)] (by kernel_rfl) w ((e_law16_JoinLives a0 a1 a2 a3 w K).mpr h)

/-- goosepond/goosepondlaw16.far -/
def s_law16_far (a0 : SliceV) (w : World) (K : Bool → World → Prop) : Prop :=
 (LoopP (S := Int × Int × Unit) (fun s2 w3 next4 =>
 (bif (decide (s2.2.1 < (a0.len : Int))) then
 AtIx a0 7 s2.2.1 fun a5 =>
 Ld .bool w3 (a5.add 0) fun x6 =>
 Ld .str w3 (a5.add 1) fun x7 =>
 Ld (.int .i64) w3 (a5.add 2) fun x8 =>
 Ld .bool w3 (a5.add 3) fun x9 =>
 Ld .slice w3 (a5.add 4) fun x10 =>
 Ld .str w3 (a5.add 5) fun x11 =>
 Ld (.int .i64) w3 (a5.add 6) fun x12 =>
 Al w3 (.cells ⟨[(Value.bool false), (Value.string (bs [])), (Value.int .i64 0), (Value.bool false), (Value.slice none 0 0), (Value.string (bs [])), (Value.int .i64 0)]⟩ 31) fun a14 w13 =>
 StN [(Value.bool x6), (Value.string x7), (Value.int .i64 x8), (Value.bool x9), (Value.slice x10.a x10.len x10.cap), (Value.string x11), (Value.int .i64 x12)] w13 a14 0 fun w15 =>
 let J16 : Bool → Prop := fun j17 =>
 ((bif j17 then
 K true w15
 else
 Ld .slice w15 (a14.add 4) fun x18 =>
 next4 ((IntKind.i64.wrap (s2.1 + (x18.len : Int))), (IntKind.i64.wrap (s2.2.1 + 1)), ()) w15))
 (bif (decide (s2.2.1 ≥ 60)) then
 J16 true
 else
 Ld .slice w15 (a14.add 4) fun x19 =>
 (bif (decide ((x19.len : Int) > 1000)) then
 J16 true
 else
 Ld .str w15 (a14.add 1) fun x20 =>
 (bif (decide ((x20.size : Int) > 60)) then
 J16 true
 else
 Ld .str w15 (a14.add 5) fun x21 =>
 (bif (decide ((x21.size : Int) > 60)) then
 J16 true
 else
 Ld (.int .i64) w15 (a14.add 2) fun x22 =>
 (bif (decide (x22 > 4000)) then
 Ld (.int .i64) w15 (a14.add 2) fun x23 =>
 J16 (decide (x23 ≤ 65535))
 else
 J16 false)))))
 else
 K (decide (s2.1 > 8000)) w3)) (0, 0, ()) w)
theorem e_law16_far (a0 : SliceV) (w : World) (K : Bool → World → Prop) : den Try.prog 51 (bodyOf Try.f7) none (.seq .leaf (.seq .leaf (.seq (.seq .leaf (.blk (.loop [(3, (.int .i64)), (8, (.int .i64))] (.seq .leaf (.seq (.cond .leaf .leaf) (.seq (.blk (.seq .leaf (.seq (.seq .leaf (.cond (.seq .leaf .leaf) .leaf)) .leaf))) .leaf)))))) (.seq .leaf .leaf)))) (argEnv 0 [(Value.slice a0.a a0.len a0.cap)]) [] w (retK Try.prog [.tmp 2] [.one .bool] K) = s_law16_far a0 w K := by kernel_rfl
theorem ok_law16_far {a0 w K} (h : s_law16_far a0 w K) : c_law16_far a0 w K :=
  fn_sound pok Try.func7 (fn := Try.f7) (c := bodyOf Try.f7) (nt := 51) (by kernel_rfl) (by kernel_rfl) (rs := [.tmp 2]) (by kernel_rfl) [.one .bool] K (.seq .leaf (.seq .leaf (.seq (.seq .leaf (.blk (.loop [(3, (.int .i64)), (8, (.int .i64))] (.seq .leaf (.seq (.cond .leaf .leaf) (.seq (.blk (.seq .leaf (.seq (.seq .leaf (.cond (.seq .leaf .leaf) .leaf)) .leaf))) .leaf)))))) (.seq .leaf .leaf)))) [(Value.slice a0.a a0.len a0.cap)] (by kernel_rfl) w ((e_law16_far a0 w K).mpr h)

/-- goosepond/goosepondlaw16.awake -/
def s_law16_awake  (w : World) (K : Bool → World → Prop) : Prop :=
 (c_join_New 1 100 60 w fun r1 r2 w3 =>
 let J4 : Bool → Prop := fun j5 =>
 ((bif j5 then
 K false w3
 else
 Al w3 (.cells ⟨[(Value.int .u8 98)]⟩ 5) fun a7 w6 =>
 MarkSl a7 w6 fun w8 =>
 c_join_Table_Add r1 (bs [97]) 8 false ⟨(some a7), 1, 1⟩ (bs [121]) 0 w8 fun r9 r10 r11 r12 w13 =>
 Al w13 (.cells ⟨[(Value.int .u8 49), (Value.int .u8 50), (Value.int .u8 51), (Value.int .u8 52), (Value.int .u8 53), (Value.int .u8 54), (Value.int .u8 55), (Value.int .u8 56)]⟩ 5) fun a15 w14 =>
 MarkSl a15 w14 fun w16 =>
 c_join_Table_Add r1 (bs [97]) 0 true ⟨(some a15), 8, 8⟩ (bs [120]) 0 w16 fun r17 r18 r19 r20 w21 =>
 let J22 : Bool → World → Prop := fun j23 w24 =>
 (K j23 w24)
 (bif (!r11) then
 (bif (r12 == 0) then
 (bif r19 then
 (bif (r20 == 0) then
 (bif (strEq r17 (bs [120])) then
 BytesStr w21 r18 fun b25 =>
 (bif (strEq b25 (bs [49, 50, 51, 52, 53, 54, 55, 56, 98])) then
 c_join_Table_Bufs r1 w21 fun r26 w27 =>
 J22 (r26 == 0) w27
 else
 J22 false w21)
 else
 J22 false w21)
 else
 J22 false w21)
 else
 J22 false w21)
 else
 J22 false w21)
 else
 J22 false w21)))
 (bif (Option.isNone r1) then
 J4 true
 else
 J4 (r2 != 0)))
theorem e_law16_awake  (w : World) (K : Bool → World → Prop) : den Try.prog 66 (bodyOf Try.f8) none (.seq .leaf (.seq .leaf (.seq (.seq .leaf (.cond (.seq .leaf .leaf) .leaf)) (.seq .leaf (.seq .leaf (.seq .leaf .leaf)))))) (argEnv 0 []) [] w (retK Try.prog [.tmp 0] [.one .bool] K) = s_law16_awake  w K := by kernel_rfl
theorem ok_law16_awake { w K} (h : s_law16_awake  w K) : c_law16_awake  w K :=
  fn_sound pok Try.func8 (fn := Try.f8) (c := bodyOf Try.f8) (nt := 66) (by kernel_rfl) (by kernel_rfl) (rs := [.tmp 0]) (by kernel_rfl) [.one .bool] K (.seq .leaf (.seq .leaf (.seq (.seq .leaf (.cond (.seq .leaf .leaf) .leaf)) (.seq .leaf (.seq .leaf (.seq .leaf .leaf)))))) [] (by kernel_rfl) w ((e_law16_awake  w K).mpr h)

/-- goosepond/join.New -/
def s_join_New (a0 : Int) (a1 : Int) (a2 : Int) (w : World) (K : (Option Addr) → Int → World → Prop) : Prop :=
 (let J4 : Bool → World → Prop := fun j5 w6 =>
 ((bif j5 then
 K none 1 w6
 else
 Al w6 (.map #[] 0) fun a8 w7 =>
 Al w7 (.cells ⟨[(Value.map (some w6.heap.size)), (Value.int .i64 a0), (Value.int .i64 a1), (Value.int .i64 a2)]⟩ 41) fun a10 w9 =>
 K (some a10) 0 w9))
 CallV Try.prog [.one .bool] (Value.func (.func 22) #[] #[]) [(Value.int .i64 a0), (Value.int .i64 0), (Value.int .i64 1073741824)] w fun r11 w12 =>
 ∃ r13 : Bool, r11 = (Value.bool r13) ∧
 (bif (!r13) then
 J4 true w12
 else
 CallV Try.prog [.one .bool] (Value.func (.func 22) #[] #[]) [(Value.int .i64 a1), (Value.int .i64 0), (Value.int .i64 1073741824)] w12 fun r14 w15 =>
 ∃ r16 : Bool, r14 = (Value.bool r16) ∧
 (bif (!r16) then
 J4 true w15
 else
 CallV Try.prog [.one .bool] (Value.func (.func 22) #[] #[]) [(Value.int .i64 a2), (Value.int .i64 1), (Value.int .i64 1099511627776)] w15 fun r17 w18 =>
 ∃ r19 : Bool, r17 = (Value.bool r19) ∧
 J4 (!r19) w18)))
theorem e_join_New (a0 : Int) (a1 : Int) (a2 : Int) (w : World) (K : (Option Addr) → Int → World → Prop) : den Try.prog 31 (bodyOf Try.f9) none (.seq .leaf (.seq .leaf (.seq (.seq .leaf (.cond (.seq .leaf .leaf) .leaf)) (.seq .leaf .leaf)))) (argEnv 0 [(Value.int .i64 a0), (Value.int .i64 a1), (Value.int .i64 a2)]) [] w (retK Try.prog [.tmp 6, .tmp 7] [.one .ptr, .one (.int .i64)] K) = s_join_New a0 a1 a2 w K := by kernel_rfl
theorem ok_join_New {a0 a1 a2 w K} (h : s_join_New a0 a1 a2 w K) : c_join_New a0 a1 a2 w K :=
  fn_sound pok Try.func9 (fn := Try.f9) (c := bodyOf Try.f9) (nt := 31) (by kernel_rfl) (by kernel_rfl) (rs := [.tmp 6, .tmp 7]) (by kernel_rfl) [.one .ptr, .one (.int .i64)] K (.seq .leaf (.seq .leaf (.seq (.seq .leaf (.cond (.seq .leaf .leaf) .leaf)) (.seq .leaf .leaf)))) [(Value.int .i64 a0), (Value.int .i64 a1), (Value.int .i64 a2)] (by kernel_rfl) w ((e_join_New a0 a1 a2 w K).mpr h)

/-- (*goosepond/join.Table).Add -/
def s_join_Table_Add (a0 : Option Addr) (a1 : ByteArray) (a2 : Int) (a3 : Bool) (a4 : SliceV) (a5 : ByteArray) (a6 : Int) (w : World) (K : ByteArray → SliceV → Bool → Int → World → Prop) : Prop :=
 (c_join_Table_ready a0 w fun r8 w9 =>
 (bif (!r8) then
 K (bs []) ⟨none, 0, 0⟩ false 2 w9
 else
 c_join_Table_open a0 a1 a6 w9 fun r10 r11 w12 =>
 (bif (r11 != 0) then
 K (bs []) ⟨none, 0, 0⟩ false r11 w12
 else
 ∃ a13 : Addr, r10 = some a13 ∧
 Ld .ptr w12.drew a13 fun x14 =>
 ∃ a15 : Addr, a0 = some a15 ∧
 Ld (.int .i64) w12.drew (a15.add 2) fun x16 =>
 c_holes_Holes_Room x14 a2 a4 w12.drew fun r17 w18 =>
 w18.cell? (a15.add 2) = some (Value.int .i64 x16) ∧
 c_join_Table_sum a0 w18 fun r19 w20 =>
 w20.cell? (a15.add 2) = some (Value.int .i64 x16) ∧
 (bif (decide (r17 > (IntKind.i64.wrap (x16 - r19)))) then
 K (bs []) ⟨none, 0, 0⟩ false 7 w20
 else
 ∃ a21 : Addr, r10 = some a21 ∧
 Ld .ptr w20 a21 fun x22 =>
 c_holes_Holes_Add x22 a2 a3 a4 w20 fun r23 w24 =>
 (bif (r23 != 0) then
 ∃ a25 : Addr, a0 = some a25 ∧
 Ld .map w24 a25 fun x26 =>
 MapDel Try.prog 9 x26 (Value.string a1) w24 fun w27 =>
 K (bs []) ⟨none, 0, 0⟩ false r23 w27
 else
 let J28 : World → Prop := fun w29 =>
 (∃ a30 : Addr, r10 = some a30 ∧
 Ld .ptr w29 a30 fun x31 =>
 c_holes_Holes_Done x31 w29 fun r32 r33 w34 =>
 (bif (!r33) then
 ∃ a35 : Addr, a0 = some a35 ∧
 Ld .map w34 a35 fun x36 =>
 MapSet Try.prog 9 x36 (Value.string a1) (Value.pointer r10) w34 fun w37 =>
 K (bs []) ⟨none, 0, 0⟩ false 0 w37
 else
 ∃ a38 : Addr, a0 = some a38 ∧
 Ld .map w34 a38 fun x39 =>
 MapDel Try.prog 9 x39 (Value.string a1) w34 fun w40 =>
 ∃ a41 : Addr, r10 = some a41 ∧
 Ld .str w40 (a41.add 2) fun x42 =>
 K x42 r32 true 0 w40))
 let J43 : Bool → Prop := fun j44 =>
 ((bif j44 then
 ∃ a45 : Addr, r10 = some a45 ∧
 St w24 (a45.add 2) (Value.string a5) fun w46 =>
 ∃ a47 : Addr, r10 = some a47 ∧
 St w46 (a47.add 3) (Value.bool true) fun w48 =>
 J28 w48
 else
 J28 w24))
 (bif (a2 == 0) then
 ∃ a49 : Addr, r10 = some a49 ∧
 Ld .bool w24 (a49.add 3) fun x50 =>
 J43 (!x50)
 else
 J43 false))))))
theorem e_join_Table_Add (a0 : Option Addr) (a1 : ByteArray) (a2 : Int) (a3 : Bool) (a4 : SliceV) (a5 : ByteArray) (a6 : Int) (w : World) (K : ByteArray → SliceV → Bool → Int → World → Prop) : den Try.prog 109 (bodyOf Try.f10) none (.seq .leaf (.seq (.seq .leaf (.cond (.seq .leaf .leaf) .leaf)) (.seq .leaf (.seq (.seq .leaf (.cond (.seq .leaf .leaf) .leaf)) (.seq (.seq .leaf (.cond (.seq .leaf .leaf) .leaf)) (.seq (.seq .leaf (.seq .leaf (.cond (.seq .leaf (.seq .leaf .leaf)) .leaf))) (.seq (.seq .leaf (.cond .leaf .leaf)) (.seq .leaf (.seq (.seq .leaf (.cond (.seq .leaf (.seq .leaf .leaf)) .leaf)) (.seq .leaf (.seq .leaf .leaf))))))))))) (argEnv 0 [(Value.pointer a0), (Value.string a1), (Value.int .i64 a2), (Value.bool a3), (Value.slice a4.a a4.len a4.cap), (Value.string a5), (Value.int .i64 a6)]) [] w (retK Try.prog [.tmp 14, .tmp 15, .tmp 16, .tmp 17] [.one .str, .one .slice, .one .bool, .one (.int .i64)] K) = s_join_Table_Add a0 a1 a2 a3 a4 a5 a6 w K := by kernel_rfl
theorem ok_join_Table_Add {a0 a1 a2 a3 a4 a5 a6 w K} (h : s_join_Table_Add a0 a1 a2 a3 a4 a5 a6 w K) : c_join_Table_Add a0 a1 a2 a3 a4 a5 a6 w K :=
  fn_sound pok Try.func10 (fn := Try.f10) (c := bodyOf Try.f10) (nt := 109) (by kernel_rfl) (by kernel_rfl) (rs := [.tmp 14, .tmp 15, .tmp 16, .tmp 17]) (by kernel_rfl) [.one .str, .one .slice, .one .bool, .one (.int .i64)] K (.seq .leaf (.seq (.seq .leaf (.cond (.seq .leaf .leaf) .leaf)) (.seq .leaf (.seq (.seq .leaf (.cond (.seq .leaf .leaf) .leaf)) (.seq (.seq .leaf (.cond (.seq .leaf .leaf) .leaf)) (.seq (.seq .leaf (.seq .leaf (.cond (.seq .leaf (.seq .leaf .leaf)) .leaf))) (.seq (.seq .leaf (.cond .leaf .leaf)) (.seq .leaf (.seq (.seq .leaf (.cond (.seq .leaf (.seq .leaf .leaf)) .leaf)) (.seq .leaf (.seq .leaf .leaf))))))))))) [(Value.pointer a0), (Value.string a1), (Value.int .i64 a2), (Value.bool a3), (Value.slice a4.a a4.len a4.cap), (Value.string a5), (Value.int .i64 a6)] (by kernel_rfl) w ((e_join_Table_Add a0 a1 a2 a3 a4 a5 a6 w K).mpr h)

/-- (*goosepond/join.Table).Bytes -/
def s_join_Table_Bytes (a0 : Option Addr) (w : World) (K : Int → World → Prop) : Prop :=
 (c_join_Table_ready a0 w fun r2 w3 =>
 (bif (!r2) then
 K 0 w3
 else
 c_join_Table_sum a0 w3 fun r4 w5 =>
 K r4 w5))
theorem e_join_Table_Bytes (a0 : Option Addr) (w : World) (K : Int → World → Prop) : den Try.prog 8 (bodyOf Try.f11) none (.seq .leaf (.seq (.seq .leaf (.cond (.seq .leaf .leaf) .leaf)) (.seq .leaf .leaf))) (argEnv 0 [(Value.pointer a0)]) [] w (retK Try.prog [.tmp 2] [.one (.int .i64)] K) = s_join_Table_Bytes a0 w K := by kernel_rfl
theorem ok_join_Table_Bytes {a0 w K} (h : s_join_Table_Bytes a0 w K) : c_join_Table_Bytes a0 w K :=
  fn_sound pok Try.func11 (fn := Try.f11) (c := bodyOf Try.f11) (nt := 8) (by kernel_rfl) (by kernel_rfl) (rs := [.tmp 2]) (by kernel_rfl) [.one (.int .i64)] K (.seq .leaf (.seq (.seq .leaf (.cond (.seq .leaf .leaf) .leaf)) (.seq .leaf .leaf))) [(Value.pointer a0)] (by kernel_rfl) w ((e_join_Table_Bytes a0 w K).mpr h)

/-- (*goosepond/join.Table).Bufs -/
def s_join_Table_Bufs (a0 : Option Addr) (w : World) (K : Int → World → Prop) : Prop :=
 (c_join_Table_ready a0 w fun r2 w3 =>
 (bif (!r2) then
 K 0 w3
 else
 ∃ a4 : Addr, a0 = some a4 ∧
 Ld .map w3 a4 fun x5 =>
 MapLen w3 x5 fun n6 =>
 K n6 w3))
theorem e_join_Table_Bufs (a0 : Option Addr) (w : World) (K : Int → World → Prop) : den Try.prog 11 (bodyOf Try.f12) none (.seq .leaf (.seq (.seq .leaf (.cond (.seq .leaf .leaf) .leaf)) (.seq .leaf .leaf))) (argEnv 0 [(Value.pointer a0)]) [] w (retK Try.prog [.tmp 2] [.one (.int .i64)] K) = s_join_Table_Bufs a0 w K := by kernel_rfl
theorem ok_join_Table_Bufs {a0 w K} (h : s_join_Table_Bufs a0 w K) : c_join_Table_Bufs a0 w K :=
  fn_sound pok Try.func12 (fn := Try.f12) (c := bodyOf Try.f12) (nt := 11) (by kernel_rfl) (by kernel_rfl) (rs := [.tmp 2]) (by kernel_rfl) [.one (.int .i64)] K (.seq .leaf (.seq (.seq .leaf (.cond (.seq .leaf .leaf) .leaf)) (.seq .leaf .leaf))) [(Value.pointer a0)] (by kernel_rfl) w ((e_join_Table_Bufs a0 w K).mpr h)

/-- (*goosepond/join.Table).Keys -/
def s_join_Table_Keys (a0 : Option Addr) (w : World) (K : SliceV → World → Prop) : Prop :=
 (c_join_Table_ready a0 w fun r2 w3 =>
 (bif (!r2) then
 K ⟨none, 0, 0⟩ w3
 else
 ∃ a4 : Addr, a0 = some a4 ∧
 Ld .map w3 a4 fun x5 =>
 RngMap x5 w3 fun a6 w7 =>
 LoopP (S := SliceV × Unit) (fun s8 w9 next10 =>
 a6 = ⟨a6.block, 0, none⟩ ∧
 NextM a6.block w9 (fun w11 =>
 c_slices_Sort_string_string s8.1 w11 fun w15 =>
 K s8.1 w15) (fun k13 v14 w12 =>
 a6 = ⟨a6.block, 0, none⟩ ∧
 EntryM a6.block w12 fun k16 v17 =>
 Kind.dec .str k16 fun x18 =>
 Al w12 (.cells ⟨[(Value.string x18)]⟩ 9) fun a20 w19 =>
 AppSl 9 1 16 [(Value.string (bs []))] s8.1 ⟨(some a20), 1, 1⟩ w19 fun s21 w22 =>
 next10 (s21, ()) w22)) (⟨none, 0, 0⟩, ()) w7))
theorem e_join_Table_Keys (a0 : Option Addr) (w : World) (K : SliceV → World → Prop) : den Try.prog 24 (bodyOf Try.f13) none (.seq .leaf (.seq (.seq .leaf (.cond (.seq .leaf .leaf) .leaf)) (.seq .leaf (.seq (.seq .leaf (.blk (.loop [(3, .slice)] (.seq .leaf (.seq (.cond .leaf .leaf) (.blk (.seq .leaf .leaf))))))) (.seq .leaf (.seq .leaf .leaf)))))) (argEnv 0 [(Value.pointer a0)]) [] w (retK Try.prog [.tmp 2] [.one .slice] K) = s_join_Table_Keys a0 w K := by kernel_rfl
theorem ok_join_Table_Keys {a0 w K} (h : s_join_Table_Keys a0 w K) : c_join_Table_Keys a0 w K :=
  fn_sound pok Try.func13 (fn := Try.f13) (c := bodyOf Try.f13) (nt := 24) (by kernel_rfl) (by kernel_rfl) (rs := [.tmp 2]) (by kernel_rfl) [.one .slice] K (.seq .leaf (.seq (.seq .leaf (.cond (.seq .leaf .leaf) .leaf)) (.seq .leaf (.seq (.seq .leaf (.blk (.loop [(3, .slice)] (.seq .leaf (.seq (.cond .leaf .leaf) (.blk (.seq .leaf .leaf))))))) (.seq .leaf (.seq .leaf .leaf)))))) [(Value.pointer a0)] (by kernel_rfl) w ((e_join_Table_Keys a0 w K).mpr h)

/-- (*goosepond/join.Table).Expire -/
def s_join_Table_Expire (a0 : Option Addr) (a1 : Int) (w : World) (K : SliceV → World → Prop) : Prop :=
 (let J3 : Bool → World → Prop := fun j4 w5 =>
 ((bif j4 then
 K ⟨none, 0, 0⟩ w5
 else
 ∃ a6 : Addr, a0 = some a6 ∧
 Ld .map w5 a6 fun x7 =>
 RngMap x7 w5 fun a8 w9 =>
 LoopP (S := SliceV × Unit) (fun s10 w11 next12 =>
 a8 = ⟨a8.block, 0, none⟩ ∧
 NextM a8.block w11 (fun w13 =>
 c_slices_Sort_string_string s10.1 w13 fun w17 =>
 K s10.1 w17) (fun k15 v16 w14 =>
 a8 = ⟨a8.block, 0, none⟩ ∧
 EntryM a8.block w14 fun k18 v19 =>
 Kind.dec .str k18 fun x20 =>
 Kind.dec .ptr v19 fun x21 =>
 ∃ a22 : Addr, x21 = some a22 ∧
 Ld (.int .i64) w14.drew (a22.add 1) fun x23 =>
 ∃ a24 : Addr, a0 = some a24 ∧
 Ld (.int .i64) w14.drew (a24.add 3) fun x25 =>
 (bif (decide (x23 ≤ (IntKind.i64.wrap (a1 - x25)))) then
 Al w14.drew (.cells ⟨[(Value.string x20)]⟩ 9) fun a27 w26 =>
 AppSl 9 1 16 [(Value.string (bs []))] s10.1 ⟨(some a27), 1, 1⟩ w26 fun s28 w29 =>
 ∃ a30 : Addr, a0 = some a30 ∧
 Ld .map w29 a30 fun x31 =>
 MapDel Try.prog 9 x31 (Value.string x20) w29 fun w32 =>
 next12 (s28, ()) w32
 else
 next12 (s10.1, ()) w14.drew))) (⟨none, 0, 0⟩, ()) w9))
 c_join_Table_ready a0 w fun r33 w34 =>
 (bif (!r33) then
 J3 true w34
 else
 ∃ a35 : Addr, a0 = some a35 ∧
 Ld (.int .i64) w34 (a35.add 3) fun x36 =>
 J3 (decide (a1 < x36)) w34))
theorem e_join_Table_Expire (a0 : Option Addr) (a1 : Int) (w : World) (K : SliceV → World → Prop) : den Try.prog 52 (bodyOf Try.f14) none (.seq .leaf (.seq (.seq .leaf (.cond (.seq .leaf .leaf) .leaf)) (.seq .leaf (.seq (.seq .leaf (.blk (.loop [(5, .slice)] (.seq .leaf (.seq (.cond .leaf .leaf) (.blk (.seq .leaf (.seq .leaf (.cond (.seq .leaf .leaf) .leaf))))))))) (.seq .leaf (.seq .leaf .leaf)))))) (argEnv 0 [(Value.pointer a0), (Value.int .i64 a1)]) [] w (retK Try.prog [.tmp 4] [.one .slice] K) = s_join_Table_Expire a0 a1 w K := by kernel_rfl
theorem ok_join_Table_Expire {a0 a1 w K} (h : s_join_Table_Expire a0 a1 w K) : c_join_Table_Expire a0 a1 w K :=
  fn_sound pok Try.func14 (fn := Try.f14) (c := bodyOf Try.f14) (nt := 52) (by kernel_rfl) (by kernel_rfl) (rs := [.tmp 4]) (by kernel_rfl) [.one .slice] K (.seq .leaf (.seq (.seq .leaf (.cond (.seq .leaf .leaf) .leaf)) (.seq .leaf (.seq (.seq .leaf (.blk (.loop [(5, .slice)] (.seq .leaf (.seq (.cond .leaf .leaf) (.blk (.seq .leaf (.seq .leaf (.cond (.seq .leaf .leaf) .leaf))))))))) (.seq .leaf (.seq .leaf .leaf)))))) [(Value.pointer a0), (Value.int .i64 a1)] (by kernel_rfl) w ((e_join_Table_Expire a0 a1 w K).mpr h)

/-- goosepond/goosepondref16.New -/
def s_ref16_New (a0 : Int) (a1 : Int) (a2 : Int) (w : World) (K : (Option Addr) → Int → World → Prop) : Prop :=
 (let J4 : Bool → Prop := fun j5 =>
 ((bif j5 then
 K none 1 w
 else
 Al w (.cells ⟨[(Value.slice none 0 0), (Value.int .i64 a0), (Value.int .i64 a1), (Value.int .i64 a2)]⟩ 50) fun a7 w6 =>
 K (some a7) 0 w6))
 (bif (decide (a0 < 0)) then
 J4 true
 else
 (bif (decide (a0 > 1073741824)) then
 J4 true
 else
 (bif (decide (a1 < 0)) then
 J4 true
 else
 (bif (decide (a1 > 1073741824)) then
 J4 true
 else
 (bif (decide (a2 < 1)) then
 J4 true
 else
 J4 (decide (a2 > 1099511627776))))))))
theorem e_ref16_New (a0 : Int) (a1 : Int) (a2 : Int) (w : World) (K : (Option Addr) → Int → World → Prop) : den Try.prog 35 (bodyOf Try.f15) none (.seq .leaf (.seq (.seq .leaf (.cond (.seq .leaf .leaf) .leaf)) (.seq .leaf .leaf))) (argEnv 0 [(Value.int .i64 a0), (Value.int .i64 a1), (Value.int .i64 a2)]) [] w (retK Try.prog [.tmp 6, .tmp 7] [.one .ptr, .one (.int .i64)] K) = s_ref16_New a0 a1 a2 w K := by kernel_rfl
theorem ok_ref16_New {a0 a1 a2 w K} (h : s_ref16_New a0 a1 a2 w K) : c_ref16_New a0 a1 a2 w K :=
  fn_sound pok Try.func15 (fn := Try.f15) (c := bodyOf Try.f15) (nt := 35) (by kernel_rfl) (by kernel_rfl) (rs := [.tmp 6, .tmp 7]) (by kernel_rfl) [.one .ptr, .one (.int .i64)] K (.seq .leaf (.seq (.seq .leaf (.cond (.seq .leaf .leaf) .leaf)) (.seq .leaf .leaf))) [(Value.int .i64 a0), (Value.int .i64 a1), (Value.int .i64 a2)] (by kernel_rfl) w ((e_ref16_New a0 a1 a2 w K).mpr h)

/-- slices.Equal[[]string,string] -/
def s_slices_Equal_string_string (a0 : SliceV) (a1 : SliceV) (w : World) (K : Bool → World → Prop) : Prop :=
 ((bif ((a0.len : Int) != (a1.len : Int)) then
 K false w
 else
 LoopP (S := Int × Unit) (fun s3 w4 next5 =>
 (bif (decide (s3.1 < (a0.len : Int))) then
 AtIx a0 1 s3.1 fun a6 =>
 Ld .str w4.drew a6 fun x7 =>
 AtIx a1 1 s3.1 fun a8 =>
 Ld .str w4.drew a8 fun x9 =>
 (bif (!strEq x7 x9) then
 K false w4.drew
 else
 next5 ((IntKind.i64.wrap (s3.1 + 1)), ()) w4.drew)
 else
 K true w4)) (0, ()) w))
theorem e_slices_Equal_string_string (a0 : SliceV) (a1 : SliceV) (w : World) (K : Bool → World → Prop) : den Try.prog 26 (bodyOf Try.f16) none (.seq .leaf (.seq (.seq .leaf (.cond (.seq .leaf .leaf) .leaf)) (.seq (.seq .leaf (.blk (.loop [(13, (.int .i64))] (.seq .leaf (.seq (.cond .leaf .leaf) (.seq (.blk (.seq .leaf (.seq .leaf (.cond (.seq .leaf .leaf) .leaf)))) .leaf)))))) (.seq .leaf .leaf)))) (argEnv 0 [(Value.slice a0.a a0.len a0.cap), (Value.slice a1.a a1.len a1.cap)]) [] w (retK Try.prog [.tmp 4] [.one .bool] K) = s_slices_Equal_string_string a0 a1 w K := by kernel_rfl
theorem ok_slices_Equal_string_string {a0 a1 w K} (h : s_slices_Equal_string_string a0 a1 w K) : c_slices_Equal_string_string a0 a1 w K :=
  fn_sound pok Try.func16 (fn := Try.f16) (c := bodyOf Try.f16) (nt := 26) (by kernel_rfl) (by kernel_rfl) (rs := [.tmp 4]) (by kernel_rfl) [.one .bool] K (.seq .leaf (.seq (.seq .leaf (.cond (.seq .leaf .leaf) .leaf)) (.seq (.seq .leaf (.blk (.loop [(13, (.int .i64))] (.seq .leaf (.seq (.cond .leaf .leaf) (.seq (.blk (.seq .leaf (.seq .leaf (.cond (.seq .leaf .leaf) .leaf)))) .leaf)))))) (.seq .leaf .leaf)))) [(Value.slice a0.a a0.len a0.cap), (Value.slice a1.a a1.len a1.cap)] (by kernel_rfl) w ((e_slices_Equal_string_string a0 a1 w K).mpr h)

/-- (*goosepond/goosepondref16.Table).Expire -/
def s_ref16_Table_Expire (a0 : Option Addr) (a1 : Int) (w : World) (K : SliceV → World → Prop) : Prop :=
 (LoopP (S := SliceV × SliceV × Int × Unit) (fun s3 w4 next5 =>
 ∃ a6 : Addr, a0 = some a6 ∧
 Ld .slice w4 a6 fun x7 =>
 (bif (decide (s3.2.2.1 < (x7.len : Int))) then
 let J8 : SliceV → SliceV → World → Prop := fun j9 j10 w11 =>
 (next5 (j9, j10, (IntKind.i64.wrap (s3.2.2.1 + 1)), ()) w11)
 let J12 : Bool → World → Prop := fun j13 w14 =>
 ((bif j13 then
 ∃ a15 : Addr, a0 = some a15 ∧
 Ld .slice w14 a15 fun x16 =>
 AtIx x16 5 s3.2.2.1 fun a17 =>
 Ld .str w14 a17 fun x18 =>
 c_ref16_insert s3.1 x18 w14 fun r19 w20 =>
 J8 r19 s3.2.1 w20
 else
 ∃ a21 : Addr, a0 = some a21 ∧
 Ld .slice w14 a21 fun x22 =>
 AtIx x22 5 s3.2.2.1 fun a23 =>
 Ld .str w14 (a23.add 0) fun x24 =>
 Ld (.int .i64) w14 (a23.add 1) fun x25 =>
 Ld .slice w14 (a23.add 2) fun x26 =>
 Ld .str w14 (a23.add 3) fun x27 =>
 Ld .bool w14 (a23.add 4) fun x28 =>
 Al w14 (.cells ⟨[(Value.string x24), (Value.int .i64 x25), (Value.slice x26.a x26.len x26.cap), (Value.string x27), (Value.bool x28)]⟩ 68) fun a30 w29 =>
 AppSl 68 5 72 [(Value.string (bs [])), (Value.int .i64 0), (Value.slice none 0 0), (Value.string (bs [])), (Value.bool false)] s3.2.1 ⟨(some a30), 1, 1⟩ w29 fun s31 w32 =>
 J8 s3.1 s31 w32))
 ∃ a33 : Addr, a0 = some a33 ∧
 Ld (.int .i64) w4.drew (a33.add 3) fun x34 =>
 (bif (decide (a1 ≥ x34)) then
 ∃ a35 : Addr, a0 = some a35 ∧
 Ld .slice w4.drew a35 fun x36 =>
 AtIx x36 5 s3.2.2.1 fun a37 =>
 Ld (.int .i64) w4.drew (a37.add 1) fun x38 =>
 ∃ a39 : Addr, a0 = some a39 ∧
 Ld (.int .i64) w4.drew (a39.add 3) fun x40 =>
 J12 (decide (x38 ≤ (IntKind.i64.wrap (a1 - x40)))) w4.drew
 else
 J12 false w4.drew)
 else
 ∃ a41 : Addr, a0 = some a41 ∧
 St w4 a41 (Value.slice s3.2.1.a s3.2.1.len s3.2.1.cap) fun w42 =>
 K s3.1 w42)) (⟨none, 0, 0⟩, ⟨none, 0, 0⟩, 0, ()) w)
theorem e_ref16_Table_Expire (a0 : Option Addr) (a1 : Int) (w : World) (K : SliceV → World → Prop) : den Try.prog 65 (bodyOf Try.f17) none (.seq .leaf (.seq .leaf (.seq .leaf (.seq (.seq .leaf (.blk (.loop [(5, .slice), (6, .slice), (7, (.int .i64))] (.seq (.seq .leaf (.cond .leaf .leaf)) (.seq (.blk (.seq .leaf (.cond .leaf .leaf))) .leaf))))) (.seq .leaf (.seq .leaf .leaf)))))) (argEnv 0 [(Value.pointer a0), (Value.int .i64 a1)]) [] w (retK Try.prog [.tmp 4] [.one .slice] K) = s_ref16_Table_Expire a0 a1 w K := by kernel_rfl
theorem ok_ref16_Table_Expire {a0 a1 w K} (h : s_ref16_Table_Expire a0 a1 w K) : c_ref16_Table_Expire a0 a1 w K :=
  fn_sound pok Try.func17 (fn := Try.f17) (c := bodyOf Try.f17) (nt := 65) (by kernel_rfl) (by kernel_rfl) (rs := [.tmp 4]) (by kernel_rfl) [.one .slice] K (.seq .leaf (.seq .leaf (.seq .leaf (.seq (.seq .leaf (.blk (.loop [(5, .slice), (6, .slice), (7, (.int .i64))] (.seq (.seq .leaf (.cond .leaf .leaf)) (.seq (.blk (.seq .leaf (.cond .leaf .leaf))) .leaf))))) (.seq .leaf (.seq .leaf .leaf)))))) [(Value.pointer a0), (Value.int .i64 a1)] (by kernel_rfl) w ((e_ref16_Table_Expire a0 a1 w K).mpr h)

/-- (*goosepond/goosepondref16.Table).Add -/
def s_ref16_Table_Add (a0 : Option Addr) (a1 : ByteArray) (a2 : Int) (a3 : Bool) (a4 : SliceV) (a5 : ByteArray) (a6 : Int) (w : World) (K : ByteArray → SliceV → Bool → Int → World → Prop) : Prop :=
 (c_ref16_Table_find a0 a1 w fun r8 w9 =>
 let J10 : Int → World → Prop := fun j11 w12 =>
 (∃ a13 : Addr, a0 = some a13 ∧
 Ld .slice w12 a13 fun x14 =>
 AtIx x14 5 j11 fun a15 =>
 ∃ a16 : Addr, (some a15) = some a16 ∧
 ∃ a17 : Addr, a0 = some a17 ∧
 Ld (.int .i64) w12.drew (a17.add 2) fun x18 =>
 c_ref16_Table_Bytes a0 w12.drew fun r19 w20 =>
 w20.cell? (a17.add 2) = some (Value.int .i64 x18) ∧
 c_ref15_Holes_Room (some (a16.add 2)) a2 a4 w20 fun r21 w22 =>
 w22.cell? (a17.add 2) = some (Value.int .i64 x18) ∧
 (bif (decide ((IntKind.i64.wrap (r19 + r21)) > x18)) then
 let J23 : World → Prop := fun w24 =>
 (K (bs []) ⟨none, 0, 0⟩ false 7 w24)
 (bif (decide (r8 < 0)) then
 c_ref16_Table_without a0 j11 w22 fun w25 =>
 J23 w25
 else
 J23 w22)
 else
 ∃ a26 : Addr, (some a15) = some a26 ∧
 c_ref15_Holes_Add (some (a26.add 2)) a2 a3 a4 w22 fun r27 w28 =>
 (bif (r27 != 0) then
 c_ref16_Table_without a0 j11 w28 fun w29 =>
 K (bs []) ⟨none, 0, 0⟩ false r27 w29
 else
 let J30 : World → Prop := fun w31 =>
 (∃ a32 : Addr, (some a15) = some a32 ∧
 c_ref15_Holes_Done (some (a32.add 2)) w31 fun r33 r34 w35 =>
 (bif r34 then
 ∃ a36 : Addr, (some a15) = some a36 ∧
 Ld .str w35 (a36.add 3) fun x37 =>
 c_ref16_Table_without a0 j11 w35 fun w38 =>
 K x37 r33 true 0 w38
 else
 K (bs []) ⟨none, 0, 0⟩ false 0 w35))
 let J39 : Bool → Prop := fun j40 =>
 ((bif j40 then
 ∃ a41 : Addr, (some a15) = some a41 ∧
 St w28 (a41.add 3) (Value.string a5) fun w42 =>
 ∃ a43 : Addr, (some a15) = some a43 ∧
 St w42 (a43.add 4) (Value.bool true) fun w44 =>
 J30 w44
 else
 J30 w28))
 (bif (a2 == 0) then
 ∃ a45 : Addr, (some a15) = some a45 ∧
 Ld .bool w28 (a45.add 4) fun x46 =>
 J39 (!x46)
 else
 J39 false))))
 (bif (decide (r8 < 0)) then
 ∃ a47 : Addr, a0 = some a47 ∧
 Ld .slice w9.drew a47 fun x48 =>
 ∃ a49 : Addr, a0 = some a49 ∧
 Ld (.int .i64) w9.drew (a49.add 1) fun x50 =>
 (bif (decide ((x48.len : Int) ≥ x50)) then
 K (bs []) ⟨none, 0, 0⟩ false 7 w9.drew
 else
 ∃ a51 : Addr, a0 = some a51 ∧
 Ld .slice w9.drew a51 fun x52 =>
 AppSl 68 5 72 [(Value.string (bs [])), (Value.int .i64 0), (Value.slice none 0 0), (Value.string (bs [])), (Value.bool false)] ⟨none, 0, 0⟩ x52 w9.drew fun s53 w54 =>
 Al w54 (.cells ⟨[(Value.string a1), (Value.int .i64 (if (1099511627776 : Int) < (if (0 : Int) > a6 then 0 else a6) then 1099511627776 else (if (0 : Int) > a6 then 0 else a6))), (Value.slice none 0 0), (Value.string (bs [])), (Value.bool false)]⟩ 68) fun a56 w55 =>
 AppSl 68 5 72 [(Value.string (bs [])), (Value.int .i64 0), (Value.slice none 0 0), (Value.string (bs [])), (Value.bool false)] s53 ⟨(some a56), 1, 1⟩ w55 fun s57 w58 =>
 ∃ a59 : Addr, a0 = some a59 ∧
 St w58 a59 (Value.slice s57.a s57.len s57.cap) fun w60 =>
 ∃ a61 : Addr, a0 = some a61 ∧
 Ld .slice w60 a61 fun x62 =>
 J10 (IntKind.i64.wrap ((x62.len : Int) - 1)) w60)
 else
 J10 r8 w9))
theorem e_ref16_Table_Add (a0 : Option Addr) (a1 : ByteArray) (a2 : Int) (a3 : Bool) (a4 : SliceV) (a5 : ByteArray) (a6 : Int) (w : World) (K : ByteArray → SliceV → Bool → Int → World → Prop) : den Try.prog 132 (bodyOf Try.f18) none (.seq .leaf (.seq .leaf (.seq .leaf (.seq (.seq .leaf (.cond (.seq (.seq .leaf (.cond (.seq .leaf .leaf) .leaf)) (.seq .leaf .leaf)) .leaf)) (.seq .leaf (.seq (.seq .leaf (.cond (.seq (.seq .leaf (.cond .leaf .leaf)) (.seq .leaf .leaf)) .leaf)) (.seq (.seq .leaf (.seq .leaf (.cond (.seq .leaf (.seq .leaf .leaf)) .leaf))) (.seq (.seq .leaf (.cond .leaf .leaf)) (.seq (.seq .leaf (.seq .leaf (.cond (.seq .leaf (.seq .leaf (.seq .leaf .leaf))) .leaf))) (.seq .leaf .leaf)))))))))) (argEnv 0 [(Value.pointer a0), (Value.string a1), (Value.int .i64 a2), (Value.bool a3), (Value.slice a4.a a4.len a4.cap), (Value.string a5), (Value.int .i64 a6)]) [] w (retK Try.prog [.tmp 14, .tmp 15, .tmp 16, .tmp 17] [.one .str, .one .slice, .one .bool, .one (.int .i64)] K) = s_ref16_Table_Add a0 a1 a2 a3 a4 a5 a6 w K := by kernel_rfl
theorem ok_ref16_Table_Add {a0 a1 a2 a3 a4 a5 a6 w K} (h : s_ref16_Table_Add a0 a1 a2 a3 a4 a5 a6 w K) : c_ref16_Table_Add a0 a1 a2 a3 a4 a5 a6 w K :=
  fn_sound pok Try.func18 (fn := Try.f18) (c := bodyOf Try.f18) (nt := 132) (by kernel_rfl) (by kernel_rfl) (rs := [.tmp 14, .tmp 15, .tmp 16, .tmp 17]) (by kernel_rfl) [.one .str, .one .slice, .one .bool, .one (.int .i64)] K (.seq .leaf (.seq .leaf (.seq .leaf (.seq (.seq .leaf (.cond (.seq (.seq .leaf (.cond (.seq .leaf .leaf) .leaf)) (.seq .leaf .leaf)) .leaf)) (.seq .leaf (.seq (.seq .leaf (.cond (.seq (.seq .leaf (.cond .leaf .leaf)) (.seq .leaf .leaf)) .leaf)) (.seq (.seq .leaf (.seq .leaf (.cond (.seq .leaf (.seq .leaf .leaf)) .leaf))) (.seq (.seq .leaf (.cond .leaf .leaf)) (.seq (.seq .leaf (.seq .leaf (.cond (.seq .leaf (.seq .leaf (.seq .leaf .leaf))) .leaf))) (.seq .leaf .leaf)))))))))) [(Value.pointer a0), (Value.string a1), (Value.int .i64 a2), (Value.bool a3), (Value.slice a4.a a4.len a4.cap), (Value.string a5), (Value.int .i64 a6)] (by kernel_rfl) w ((e_ref16_Table_Add a0 a1 a2 a3 a4 a5 a6 w K).mpr h)

/-- bytes.Equal -/
def s_bytes_Equal (a0 : SliceV) (a1 : SliceV) (w : World) (K : Bool → World → Prop) : Prop :=
 (BytesStr w a0 fun b3 =>
 BytesStr w a1 fun b4 =>
 K (strEq b3 b4) w)
theorem e_bytes_Equal (a0 : SliceV) (a1 : SliceV) (w : World) (K : Bool → World → Prop) : den Try.prog 10 (bodyOf Try.f19) none (.seq .leaf (.seq .leaf .leaf)) (argEnv 0 [(Value.slice a0.a a0.len a0.cap), (Value.slice a1.a a1.len a1.cap)]) [] w (retK Try.prog [.tmp 4] [.one .bool] K) = s_bytes_Equal a0 a1 w K := by kernel_rfl
theorem ok_bytes_Equal {a0 a1 w K} (h : s_bytes_Equal a0 a1 w K) : c_bytes_Equal a0 a1 w K :=
  fn_sound pok Try.func19 (fn := Try.f19) (c := bodyOf Try.f19) (nt := 10) (by kernel_rfl) (by kernel_rfl) (rs := [.tmp 4]) (by kernel_rfl) [.one .bool] K (.seq .leaf (.seq .leaf .leaf)) [(Value.slice a0.a a0.len a0.cap), (Value.slice a1.a a1.len a1.cap)] (by kernel_rfl) w ((e_bytes_Equal a0 a1 w K).mpr h)

/-- (*goosepond/goosepondref16.Table).Bytes -/
def s_ref16_Table_Bytes (a0 : Option Addr) (w : World) (K : Int → World → Prop) : Prop :=
 (LoopP (S := Int × Int × Unit) (fun s2 w3 next4 =>
 ∃ a5 : Addr, a0 = some a5 ∧
 Ld .slice w3 a5 fun x6 =>
 (bif (decide (s2.2.1 < (x6.len : Int))) then
 ∃ a7 : Addr, a0 = some a7 ∧
 Ld .slice w3 a7 fun x8 =>
 AtIx x8 5 s2.2.1 fun a9 =>
 c_ref15_Holes_Bytes (some (a9.add 2)) w3 fun r10 w11 =>
 next4 ((IntKind.i64.wrap (s2.1 + r10)), (IntKind.i64.wrap (s2.2.1 + 1)), ()) w11
 else
 K s2.1 w3)) (0, 0, ()) w)
theorem e_ref16_Table_Bytes (a0 : Option Addr) (w : World) (K : Int → World → Prop) : den Try.prog 25 (bodyOf Try.f20) none (.seq .leaf (.seq .leaf (.seq (.seq .leaf (.blk (.loop [(3, (.int .i64)), (4, (.int .i64))] (.seq (.seq .leaf (.cond .leaf .leaf)) (.seq (.blk .leaf) .leaf))))) (.seq .leaf .leaf)))) (argEnv 0 [(Value.pointer a0)]) [] w (retK Try.prog [.tmp 2] [.one (.int .i64)] K) = s_ref16_Table_Bytes a0 w K := by kernel_rfl
theorem ok_ref16_Table_Bytes {a0 w K} (h : s_ref16_Table_Bytes a0 w K) : c_ref16_Table_Bytes a0 w K :=
  fn_sound pok Try.func20 (fn := Try.f20) (c := bodyOf Try.f20) (nt := 25) (by kernel_rfl) (by kernel_rfl) (rs := [.tmp 2]) (by kernel_rfl) [.one (.int .i64)] K (.seq .leaf (.seq .leaf (.seq (.seq .leaf (.blk (.loop [(3, (.int .i64)), (4, (.int .i64))] (.seq (.seq .leaf (.cond .leaf .leaf)) (.seq (.blk .leaf) .leaf))))) (.seq .leaf .leaf)))) [(Value.pointer a0)] (by kernel_rfl) w ((e_ref16_Table_Bytes a0 w K).mpr h)

/-- (*goosepond/goosepondref16.Table).Keys -/
def s_ref16_Table_Keys (a0 : Option Addr) (w : World) (K : SliceV → World → Prop) : Prop :=
 (LoopP (S := SliceV × Int × Unit) (fun s2 w3 next4 =>
 ∃ a5 : Addr, a0 = some a5 ∧
 Ld .slice w3 a5 fun x6 =>
 (bif (decide (s2.2.1 < (x6.len : Int))) then
 ∃ a7 : Addr, a0 = some a7 ∧
 Ld .slice w3 a7 fun x8 =>
 AtIx x8 5 s2.2.1 fun a9 =>
 Ld .str w3 a9 fun x10 =>
 c_ref16_insert s2.1 x10 w3 fun r11 w12 =>
 next4 (r11, (IntKind.i64.wrap (s2.2.1 + 1)), ()) w12
 else
 K s2.1 w3)) (⟨none, 0, 0⟩, 0, ()) w)
theorem e_ref16_Table_Keys (a0 : Option Addr) (w : World) (K : SliceV → World → Prop) : den Try.prog 25 (bodyOf Try.f21) none (.seq .leaf (.seq .leaf (.seq (.seq .leaf (.blk (.loop [(3, .slice), (4, (.int .i64))] (.seq (.seq .leaf (.cond .leaf .leaf)) (.seq (.blk .leaf) .leaf))))) (.seq .leaf .leaf)))) (argEnv 0 [(Value.pointer a0)]) [] w (retK Try.prog [.tmp 2] [.one .slice] K) = s_ref16_Table_Keys a0 w K := by kernel_rfl
theorem ok_ref16_Table_Keys {a0 w K} (h : s_ref16_Table_Keys a0 w K) : c_ref16_Table_Keys a0 w K :=
  fn_sound pok Try.func21 (fn := Try.f21) (c := bodyOf Try.f21) (nt := 25) (by kernel_rfl) (by kernel_rfl) (rs := [.tmp 2]) (by kernel_rfl) [.one .slice] K (.seq .leaf (.seq .leaf (.seq (.seq .leaf (.blk (.loop [(3, .slice), (4, (.int .i64))] (.seq (.seq .leaf (.cond .leaf .leaf)) (.seq (.blk .leaf) .leaf))))) (.seq .leaf .leaf)))) [(Value.pointer a0)] (by kernel_rfl) w ((e_ref16_Table_Keys a0 w K).mpr h)

/-- goosepond/join.New$1 -/
def s_join_New_1 (a0 : Int) (a1 : Int) (a2 : Int) (w : World) (K : Bool → World → Prop) : Prop :=
 (let J4 : Bool → Prop := fun j5 =>
 (K j5 w)
 (bif (decide (a0 ≥ a1)) then
 J4 (decide (a0 ≤ a2))
 else
 J4 false))
theorem e_join_New_1 (a0 : Int) (a1 : Int) (a2 : Int) (w : World) (K : Bool → World → Prop) : den Try.prog 15 (bodyOf Try.f22) none (.seq .leaf (.seq .leaf .leaf)) (argEnv 0 [(Value.int .i64 a0), (Value.int .i64 a1), (Value.int .i64 a2)]) [] w (retK Try.prog [.tmp 6] [.one .bool] K) = s_join_New_1 a0 a1 a2 w K := by kernel_rfl
theorem ok_join_New_1 {a0 a1 a2 w K} (h : s_join_New_1 a0 a1 a2 w K) : c_join_New_1 a0 a1 a2 w K :=
  fn_sound pok Try.func22 (fn := Try.f22) (c := bodyOf Try.f22) (nt := 15) (by kernel_rfl) (by kernel_rfl) (rs := [.tmp 6]) (by kernel_rfl) [.one .bool] K (.seq .leaf (.seq .leaf .leaf)) [(Value.int .i64 a0), (Value.int .i64 a1), (Value.int .i64 a2)] (by kernel_rfl) w ((e_join_New_1 a0 a1 a2 w K).mpr h)

/-- (*goosepond/join.Table).ready -/
def s_join_Table_ready (a0 : Option Addr) (w : World) (K : Bool → World → Prop) : Prop :=
 (let J2 : Bool → Prop := fun j3 =>
 (K j3 w)
 (bif (!(Option.isNone a0)) then
 ∃ a4 : Addr, a0 = some a4 ∧
 Ld .map w a4 fun x5 =>
 J2 (!(Option.isNone x5))
 else
 J2 false))
theorem e_join_Table_ready (a0 : Option Addr) (w : World) (K : Bool → World → Prop) : den Try.prog 12 (bodyOf Try.f23) none (.seq .leaf (.seq .leaf .leaf)) (argEnv 0 [(Value.pointer a0)]) [] w (retK Try.prog [.tmp 2] [.one .bool] K) = s_join_Table_ready a0 w K := by kernel_rfl
theorem ok_join_Table_ready {a0 w K} (h : s_join_Table_ready a0 w K) : c_join_Table_ready a0 w K :=
  fn_sound pok Try.func23 (fn := Try.f23) (c := bodyOf Try.f23) (nt := 12) (by kernel_rfl) (by kernel_rfl) (rs := [.tmp 2]) (by kernel_rfl) [.one .bool] K (.seq .leaf (.seq .leaf .leaf)) [(Value.pointer a0)] (by kernel_rfl) w ((e_join_Table_ready a0 w K).mpr h)

/-- (*goosepond/join.Table).open -/
def s_join_Table_open (a0 : Option Addr) (a1 : ByteArray) (a2 : Int) (w : World) (K : (Option Addr) → Int → World → Prop) : Prop :=
 (∃ a4 : Addr, a0 = some a4 ∧
 Ld .map w a4 fun x5 =>
 MapGetV Try.prog 9 x5 (Value.string a1) (Value.pointer none) w fun v6 b7 =>
 ∃ r8 : Option Addr, v6 = (Value.pointer r8) ∧
 (bif b7 then
 K r8 0 w
 else
 ∃ a9 : Addr, a0 = some a9 ∧
 Ld .map w.drew a9 fun x10 =>
 ∃ a11 : Addr, a0 = some a11 ∧
 Ld (.int .i64) w.drew (a11.add 1) fun x12 =>
 MapLen w.drew x10 fun n13 =>
 w.drew.cell? (a11.add 1) = some (Value.int .i64 x12) ∧
 (bif (decide (n13 ≥ x12)) then
 K none 7 w.drew
 else
 c_holes_New  w.drew fun r14 w15 =>
 Al w15 (.cells ⟨[(Value.pointer r14), (Value.int .i64 (if (1099511627776 : Int) < (if (0 : Int) > a2 then 0 else a2) then 1099511627776 else (if (0 : Int) > a2 then 0 else a2))), (Value.string (bs [])), (Value.bool false)]⟩ 59) fun a17 w16 =>
 K (some a17) 0 w16)))
theorem e_join_Table_open (a0 : Option Addr) (a1 : ByteArray) (a2 : Int) (w : World) (K : (Option Addr) → Int → World → Prop) : den Try.prog 39 (bodyOf Try.f24) none (.seq .leaf (.seq (.seq .leaf (.seq .leaf (.cond (.seq .leaf .leaf) .leaf))) (.seq (.seq .leaf (.cond (.seq .leaf .leaf) .leaf)) (.seq .leaf (.seq .leaf .leaf))))) (argEnv 0 [(Value.pointer a0), (Value.string a1), (Value.int .i64 a2)]) [] w (retK Try.prog [.tmp 6, .tmp 7] [.one .ptr, .one (.int .i64)] K) = s_join_Table_open a0 a1 a2 w K := by kernel_rfl
theorem ok_join_Table_open {a0 a1 a2 w K} (h : s_join_Table_open a0 a1 a2 w K) : c_join_Table_open a0 a1 a2 w K :=
  fn_sound pok Try.func24 (fn := Try.f24) (c := bodyOf Try.f24) (nt := 39) (by kernel_rfl) (by kernel_rfl) (rs := [.tmp 6, .tmp 7]) (by kernel_rfl) [.one .ptr, .one (.int .i64)] K (.seq .leaf (.seq (.seq .leaf (.seq .leaf (.cond (.seq .leaf .leaf) .leaf))) (.seq (.seq .leaf (.cond (.seq .leaf .leaf) .leaf)) (.seq .leaf (.seq .leaf .leaf))))) [(Value.pointer a0), (Value.string a1), (Value.int .i64 a2)] (by kernel_rfl) w ((e_join_Table_open a0 a1 a2 w K).mpr h)

/-- (*goosepond/holes.Holes).Room -/
def s_holes_Holes_Room (a0 : Option Addr) (a1 : Int) (a2 : SliceV) (w : World) (K : Int → World → Prop) : Prop :=
 (let J4 : Bool → World → Prop := fun j5 w6 =>
 ((bif j5 then
 K 0 w6
 else
 K (a2.len : Int) w6))
 c_holes_Holes_ready a0 w fun r7 w8 =>
 (bif (!r7) then
 J4 true w8
 else
 c_holes_Holes_has a0 a1 true a2 w8 fun r9 w10 =>
 (bif r9 then
 J4 true w10
 else
 c_holes_Holes_has a0 a1 false a2 w10 fun r11 w12 =>
 J4 r11 w12)))
theorem e_holes_Holes_Room (a0 : Option Addr) (a1 : Int) (a2 : SliceV) (w : World) (K : Int → World → Prop) : den Try.prog 26 (bodyOf Try.f25) none (.seq .leaf (.seq (.seq .leaf (.cond (.seq .leaf .leaf) .leaf)) (.seq .leaf .leaf))) (argEnv 0 [(Value.pointer a0), (Value.int .i64 a1), (Value.slice a2.a a2.len a2.cap)]) [] w (retK Try.prog [.tmp 6] [.one (.int .i64)] K) = s_holes_Holes_Room a0 a1 a2 w K := by kernel_rfl
theorem ok_holes_Holes_Room {a0 a1 a2 w K} (h : s_holes_Holes_Room a0 a1 a2 w K) : c_holes_Holes_Room a0 a1 a2 w K :=
  fn_sound pok Try.func25 (fn := Try.f25) (c := bodyOf Try.f25) (nt := 26) (by kernel_rfl) (by kernel_rfl) (rs := [.tmp 6]) (by kernel_rfl) [.one (.int .i64)] K (.seq .leaf (.seq (.seq .leaf (.cond (.seq .leaf .leaf) .leaf)) (.seq .leaf .leaf))) [(Value.pointer a0), (Value.int .i64 a1), (Value.slice a2.a a2.len a2.cap)] (by kernel_rfl) w ((e_holes_Holes_Room a0 a1 a2 w K).mpr h)

/-- (*goosepond/join.Table).sum -/
def s_join_Table_sum (a0 : Option Addr) (w : World) (K : Int → World → Prop) : Prop :=
 (∃ a2 : Addr, a0 = some a2 ∧
 Ld .map w a2 fun x3 =>
 RngMap x3 w fun a4 w5 =>
 LoopP (S := Int × Unit) (fun s6 w7 next8 =>
 a4 = ⟨a4.block, 0, none⟩ ∧
 NextM a4.block w7 (fun w9 =>
 K s6.1 w9) (fun k11 v12 w10 =>
 a4 = ⟨a4.block, 0, none⟩ ∧
 EntryM a4.block w10 fun k13 v14 =>
 Kind.dec .ptr v14 fun x15 =>
 ∃ a16 : Addr, x15 = some a16 ∧
 Ld .ptr w10 a16 fun x17 =>
 c_holes_Holes_Bytes x17 w10 fun r18 w19 =>
 next8 ((IntKind.i64.wrap (s6.1 + r18)), ()) w19)) (0, ()) w5)
theorem e_join_Table_sum (a0 : Option Addr) (w : World) (K : Int → World → Prop) : den Try.prog 23 (bodyOf Try.f26) none (.seq .leaf (.seq .leaf (.seq (.seq .leaf (.blk (.loop [(3, (.int .i64))] (.seq .leaf (.seq (.cond .leaf .leaf) (.blk (.seq .leaf .leaf))))))) (.seq .leaf .leaf)))) (argEnv 0 [(Value.pointer a0)]) [] w (retK Try.prog [.tmp 2] [.one (.int .i64)] K) = s_join_Table_sum a0 w K := by kernel_rfl
theorem ok_join_Table_sum {a0 w K} (h : s_join_Table_sum a0 w K) : c_join_Table_sum a0 w K :=
  fn_sound pok Try.func26 (fn := Try.f26) (c := bodyOf Try.f26) (nt := 23) (by kernel_rfl) (by kernel_rfl) (rs := [.tmp 2]) (by kernel_rfl) [.one (.int .i64)] K (.seq .leaf (.seq .leaf (.seq (.seq .leaf (.blk (.loop [(3, (.int .i64))] (.seq .leaf (.seq (.cond .leaf .leaf) (.blk (.seq .leaf .leaf))))))) (.seq .leaf .leaf)))) [(Value.pointer a0)] (by kernel_rfl) w ((e_join_Table_sum a0 w K).mpr h)

/-- (*goosepond/holes.Holes).Add -/
def s_holes_Holes_Add (a0 : Option Addr) (a1 : Int) (a2 : Bool) (a3 : SliceV) (w : World) (K : Int → World → Prop) : Prop :=
 (c_holes_Holes_ready a0 w fun r5 w6 =>
 (bif (!r5) then
 K 2 w6
 else
 Al w6 (.cells ⟨[(Value.int .i64 0), (Value.bool false), (Value.slice none 0 0)]⟩ 77) fun a8 w7 =>
 StN [(Value.int .i64 a1), (Value.bool a2), (Value.slice a3.a a3.len a3.cap)] w7 a8 0 fun w9 =>
 Ld (.int .i64) w9 (a8.add 0) fun x10 =>
 Ld .bool w9 (a8.add 1) fun x11 =>
 Ld .slice w9 (a8.add 2) fun x12 =>
 c_holes_may x10 x11 x12 w9 fun r13 w14 =>
 (bif (r13 != 0) then
 K r13 w14
 else
 Ld (.int .i64) w14 (a8.add 0) fun x15 =>
 Ld .bool w14 (a8.add 1) fun x16 =>
 Ld .slice w14 (a8.add 2) fun x17 =>
 c_holes_Holes_has a0 x15 x16 x17 w14 fun r18 w19 =>
 (bif r18 then
 K 0 w19
 else
 Ld (.int .i64) w19 (a8.add 0) fun x20 =>
 Ld .bool w19 (a8.add 1) fun x21 =>
 Ld .slice w19 (a8.add 2) fun x22 =>
 c_holes_Holes_meets a0 x20 x21 x22 w19 fun r23 w24 =>
 (bif r23 then
 K 9 w24
 else
 Ld (.int .i64) w24 (a8.add 0) fun x25 =>
 Ld .bool w24 (a8.add 1) fun x26 =>
 Ld .slice w24 (a8.add 2) fun x27 =>
 c_holes_Holes_fits a0 x25 x26 x27 w24 fun r28 w29 =>
 (bif (!r28) then
 K 4 w29
 else
 c_slices_Clone_byte_byte a3 w29 fun r30 w31 =>
 St w31 (a8.add 2) (Value.slice r30.a r30.len r30.cap) fun w32 =>
 ∃ a33 : Addr, a0 = some a33 ∧
 Ld .slice w32.drew a33 fun x34 =>
 Ld (.int .i64) w32.drew (a8.add 0) fun x35 =>
 Ld .bool w32.drew (a8.add 1) fun x36 =>
 Ld .slice w32.drew (a8.add 2) fun x37 =>
 c_slices_BinarySearchFunc_holes_piece_holes_piece_holes_piece x34 x35 x36 x37 (Value.func (.func 46) #[] #[]) w32.drew fun r38 r39 w40 =>
 ∃ a41 : Addr, a0 = some a41 ∧
 Ld .slice w40.drew a41 fun x42 =>
 Ld (.int .i64) w40.drew (a8.add 0) fun x43 =>
 Ld .bool w40.drew (a8.add 1) fun x44 =>
 Ld .slice w40.drew (a8.add 2) fun x45 =>
 Al w40.drew (.cells ⟨[(Value.int .i64 x43), (Value.bool x44), (Value.slice x45.a x45.len x45.cap)]⟩ 77) fun a47 w46 =>
 w46.cell? a41 = some (Value.slice x42.a x42.len x42.cap) ∧
 c_slices_Insert_holes_piece_holes_piece x42 r38 ⟨(some a47), 1, 1⟩ w46 fun r48 w49 =>
 ∃ a50 : Addr, a0 = some a50 ∧
 St w49 a50 (Value.slice r48.a r48.len r48.cap) fun w51 =>
 ∃ a52 : Addr, a0 = some a52 ∧
 Ld (.int .i64) w51 (a52.add 1) fun x53 =>
 ∃ a54 : Addr, a0 = some a54 ∧
 St w51 (a54.add 1) (Value.int .i64 (IntKind.i64.wrap (x53 + (a3.len : Int)))) fun w55 =>
 let J56 : World → Prop := fun w57 =>
 (K 0 w57)
 (bif (!a2) then
 Ld (.int .i64) w55 (a8.add 0) fun x58 =>
 Ld .bool w55 (a8.add 1) fun x59 =>
 Ld .slice w55 (a8.add 2) fun x60 =>
 c_holes_piece_end x58 x59 x60 w55 fun r61 w62 =>
 ∃ a63 : Addr, a0 = some a63 ∧
 St w62 (a63.add 2) (Value.int .i64 r61) fun w64 =>
 J56 w64
 else
 J56 w55)))))))
theorem e_holes_Holes_Add (a0 : Option Addr) (a1 : Int) (a2 : Bool) (a3 : SliceV) (w : World) (K : Int → World → Prop) : den Try.prog 77 (bodyOf Try.f27) none (.seq .leaf (.seq (.seq .leaf (.cond (.seq .leaf .leaf) .leaf)) (.seq .leaf (.seq (.seq .leaf (.seq .leaf (.cond (.seq .leaf .leaf) .leaf))) (.seq (.blk (.seq .leaf (.cond (.seq .leaf .leaf) (.seq .leaf (.cond (.seq .leaf .leaf) (.seq .leaf (.cond (.seq .leaf .leaf) .leaf))))))) (.seq .leaf (.seq .leaf (.seq .leaf (.seq .leaf (.seq (.seq .leaf (.cond .leaf .leaf)) (.seq .leaf .leaf))))))))))) (argEnv 0 [(Value.pointer a0), (Value.int .i64 a1), (Value.bool a2), (Value.slice a3.a a3.len a3.cap)]) [] w (retK Try.prog [.tmp 8] [.one (.int .i64)] K) = s_holes_Holes_Add a0 a1 a2 a3 w K := by kernel_rfl
theorem ok_holes_Holes_Add {a0 a1 a2 a3 w K} (h : s_holes_Holes_Add a0 a1 a2 a3 w K) : c_holes_Holes_Add a0 a1 a2 a3 w K :=
  fn_sound pok Try.func27 (fn := Try.f27) (c := bodyOf Try.f27) (nt := 77) (by kernel_rfl) (by kernel_rfl) (rs := [.tmp 8]) (by kernel_rfl) [.one (.int .i64)] K (.seq .leaf (.seq (.seq .leaf (.cond (.seq .leaf .leaf) .leaf)) (.seq .leaf (.seq (.seq .leaf (.seq .leaf (.cond (.seq .leaf .leaf) .leaf))) (.seq (.blk (.seq .leaf (.cond (.seq .leaf .leaf) (.seq .leaf (.cond (.seq .leaf .leaf) (.seq .leaf (.cond (.seq .leaf .leaf) .leaf))))))) (.seq .leaf (.seq .leaf (.seq .leaf (.seq .leaf (.seq (.seq .leaf (.cond .leaf .leaf)) (.seq .leaf .leaf))))))))))) [(Value.pointer a0), (Value.int .i64 a1), (Value.bool a2), (Value.slice a3.a a3.len a3.cap)] (by kernel_rfl) w ((e_holes_Holes_Add a0 a1 a2 a3 w K).mpr h)

/-- (*goosepond/holes.Holes).Done -/
def s_holes_Holes_Done (a0 : Option Addr) (w : World) (K : SliceV → Bool → World → Prop) : Prop :=
 (Al w (.cells ⟨[(Value.slice none 0 0)]⟩ 29) fun a3 w2 =>
 Al w2 (.cells ⟨[(Value.bool false)]⟩ 4) fun a5 w4 =>
 let J6 : Bool → World → Prop := fun j7 w8 =>
 ((bif j7 then
 St w8 a3 (Value.slice none 0 0) fun w9 =>
 St w9 a5 (Value.bool false) fun w10 =>
 Ld .slice w10 a3 fun y11 =>
 Ld .bool w10 a5 fun y12 =>
 K y11 y12 w10
 else
 c_holes_Holes_Gaps a0 w8 fun r13 w14 =>
 RngP Try.prog none [.one (.int .i64), .one (.int .i64)] r13 w14 (fun l15 x16 W17 Kb18 =>
 W17.heap[l15]? = W17.heap[l15]? ∧
 St (busyW W17 l15) a3 (Value.slice none 0 0) fun w19 =>
 St w19 a5 (Value.bool false) fun w20 =>
 Kb18 .ret w20)
 (fun w21 =>
 ∃ a22 : Addr, a0 = some a22 ∧
 Ld (.int .i64) w21 (a22.add 1) fun x23 =>
 MkSl 5 1 1 [(Value.int .u8 0)] 0 x23 w21 fun s24 w25 =>
 ∃ a26 : Addr, a0 = some a26 ∧
 Ld .slice w25 a26 fun x27 =>
 LoopP (S := SliceV × Int × Unit) (fun s28 w29 next30 =>
 (bif (decide (s28.2.1 < (x27.len : Int))) then
 AtIx x27 3 s28.2.1 fun a31 =>
 Ld (.int .i64) w29 (a31.add 0) fun x32 =>
 Ld .bool w29 (a31.add 1) fun x33 =>
 Ld .slice w29 (a31.add 2) fun x34 =>
 Al w29 (.cells ⟨[(Value.int .i64 0), (Value.bool false), (Value.slice none 0 0)]⟩ 77) fun a36 w35 =>
 StN [(Value.int .i64 x32), (Value.bool x33), (Value.slice x34.a x34.len x34.cap)] w35 a36 0 fun w37 =>
 Ld .slice w37 (a36.add 2) fun x38 =>
 AppSl 5 1 1 [(Value.int .u8 0)] s28.1 x38 w37 fun s39 w40 =>
 next30 (s39, (IntKind.i64.wrap (s28.2.1 + 1)), ()) w40
 else
 St w29 a3 (Value.slice s28.1.a s28.1.len s28.1.cap) fun w41 =>
 St w41 a5 (Value.bool true) fun w42 =>
 w42.heap[w14.heap.size]? = some (.deferred (some [])) ∧
 Ld .slice (w42.putObj w14.heap.size (.deferred none)) a3 fun y43 =>
 Ld .bool (w42.putObj w14.heap.size (.deferred none)) a5 fun y44 =>
 K y43 y44 (w42.putObj w14.heap.size (.deferred none)))) (s24, 0, ()) w25)
 (fun w45 =>
 w45.heap[w14.heap.size]? = some (.deferred (some [])) ∧
 Ld .slice (w45.putObj w14.heap.size (.deferred none)) a3 fun y46 =>
 Ld .bool (w45.putObj w14.heap.size (.deferred none)) a5 fun y47 =>
 K y46 y47 (w45.putObj w14.heap.size (.deferred none)))
 []))
 c_holes_Holes_ready a0 w4 fun r48 w49 =>
 (bif (!r48) then
 J6 true w49
 else
 ∃ a50 : Addr, a0 = some a50 ∧
 Ld (.int .i64) w49 (a50.add 2) fun x51 =>
 J6 (decide (x51 < 0)) w49))
theorem e_holes_Holes_Done (a0 : Option Addr) (w : World) (K : SliceV → Bool → World → Prop) : den Try.prog 41 (bodyOf Try.f28) none (.seq .leaf (.seq (.seq .leaf (.cond (.seq .leaf .leaf) .leaf)) (.seq (.seq .leaf (.blk (.rng [.one (.int .i64), .one (.int .i64)] .leaf (.blk (.seq .leaf .leaf))))) (.seq .leaf (.seq (.seq .leaf (.blk (.loop [(4, .slice), (31, (.int .i64))] (.seq .leaf (.seq (.cond .leaf .leaf) (.seq (.blk (.seq .leaf .leaf)) .leaf)))))) (.seq .leaf .leaf)))))) (argEnv 0 [(Value.pointer a0)]) [] w (retK Try.prog [.cell 2 29, .cell 3 4] [.one .slice, .one .bool] K) = s_holes_Holes_Done a0 w K := by kernel_rfl
theorem ok_holes_Holes_Done {a0 w K} (h : s_holes_Holes_Done a0 w K) : c_holes_Holes_Done a0 w K :=
  fn_sound pok Try.func28 (fn := Try.f28) (c := bodyOf Try.f28) (nt := 41) (by kernel_rfl) (by kernel_rfl) (rs := [.cell 2 29, .cell 3 4]) (by kernel_rfl) [.one .slice, .one .bool] K (.seq .leaf (.seq (.seq .leaf (.cond (.seq .leaf .leaf) .leaf)) (.seq (.seq .leaf (.blk (.rng [.one (.int .i64), .one (.int .i64)] .leaf (.blk (.seq .leaf .leaf))))) (.seq .leaf (.seq (.seq .leaf (.blk (.loop [(4, .slice), (31, (.int .i64))] (.seq .leaf (.seq (.cond .leaf .leaf) (.seq (.blk (.seq .leaf .leaf)) .leaf)))))) (.seq .leaf .leaf)))))) [(Value.pointer a0)] (by kernel_rfl) w ((e_holes_Holes_Done a0 w K).mpr h)

/-- slices.Sort[[]string,string] -/
def s_slices_Sort_string_string (a0 : SliceV) (w : World) (K : World → Prop) : Prop :=
 (c_math_bits_Len (IntKind.u64.wrap (a0.len : Int)) w fun r2 w3 =>
 c_slices_pdqsortOrdered_string a0 0 (a0.len : Int) r2 w3 fun w4 =>
 K w4)
theorem e_slices_Sort_string_string (a0 : SliceV) (w : World) (K : World → Prop) : den Try.prog 11 (bodyOf Try.f29) none (.seq .leaf .leaf) (argEnv 0 [(Value.slice a0.a a0.len a0.cap)]) [] w (retK Try.prog [] [] K) = s_slices_Sort_string_string a0 w K := by kernel_rfl
theorem ok_slices_Sort_string_string {a0 w K} (h : s_slices_Sort_string_string a0 w K) : c_slices_Sort_string_string a0 w K :=
  fn_sound pok Try.func29 (fn := Try.f29) (c := bodyOf Try.f29) (nt := 11) (by kernel_rfl) (by kernel_rfl) (rs := []) (by kernel_rfl) [] K (.seq .leaf .leaf) [(Value.slice a0.a a0.len a0.cap)] (by kernel_rfl) w ((e_slices_Sort_string_string a0 w K).mpr h)

/-- goosepond/goosepondref16.insert -/
def s_ref16_insert (a0 : SliceV) (a1 : ByteArray) (w : World) (K : SliceV → World → Prop) : Prop :=
 (LoopP (S := Int × Unit) (fun s3 w4 next5 =>
 let J6 : Bool → Prop := fun j7 =>
 ((bif j7 then
 next5 ((IntKind.i64.wrap (s3.1 + 1)), ()) w4
 else
 let J8 : SliceV → World → Prop := fun j9 w10 =>
 (K j9 w10)
 SubSl a0 1 0 s3.1 fun s11 =>
 SubSl a0 1 s3.1 (a0.len : Int) fun s12 =>
 (AppSl 9 1 16 [(Value.string (bs []))] ⟨none, 0, 0⟩ s11 w4.drew fun s13 w14 =>
 Al w14 (.cells ⟨[(Value.string a1)]⟩ 9) fun a16 w15 =>
 AppSl 9 1 16 [(Value.string (bs []))] s13 ⟨(some a16), 1, 1⟩ w15 fun s17 w18 =>
 AppSl 9 1 16 [(Value.string (bs []))] s17 s12 w18 fun s19 w20 =>
 J8 s19 w20) ∧
 (Al w4.drew (.cells ⟨[(Value.string a1)]⟩ 9) fun a22 w21 =>
 AppSl 9 1 16 [(Value.string (bs []))] ⟨none, 0, 0⟩ s11 w21 fun s23 w24 =>
 AppSl 9 1 16 [(Value.string (bs []))] s23 ⟨(some a22), 1, 1⟩ w24 fun s25 w26 =>
 AppSl 9 1 16 [(Value.string (bs []))] s25 s12 w26 fun s27 w28 =>
 J8 s27 w28)))
 (bif (decide (s3.1 < (a0.len : Int))) then
 AtIx a0 1 s3.1 fun a29 =>
 Ld .str w4 a29 fun x30 =>
 J6 (strLt x30 a1)
 else
 J6 false)) (0, ()) w)
theorem e_ref16_insert (a0 : SliceV) (a1 : ByteArray) (w : World) (K : SliceV → World → Prop) : den Try.prog 31 (bodyOf Try.f30) none (.seq .leaf (.seq .leaf (.seq (.blk (.loop [(5, (.int .i64))] (.seq (.seq .leaf (.cond .leaf .leaf)) (.blk .leaf)))) (.seq .leaf .leaf)))) (argEnv 0 [(Value.slice a0.a a0.len a0.cap), (Value.string a1)]) [] w (retK Try.prog [.tmp 4] [.one .slice] K) = s_ref16_insert a0 a1 w K := by kernel_rfl
theorem ok_ref16_insert {a0 a1 w K} (h : s_ref16_insert a0 a1 w K) : c_ref16_insert a0 a1 w K :=
  fn_sound pok Try.func30 (fn := Try.f30) (c := bodyOf Try.f30) (nt := 31) (by kernel_rfl) (by kernel_rfl) (rs := [.tmp 4]) (by kernel_rfl) [.one .slice] K (.seq .leaf (.seq .leaf (.seq (.blk (.loop [(5, (.int .i64))] (.seq (.seq .leaf (.cond .leaf .leaf)) (.blk .leaf)))) (.seq .leaf .leaf)))) [(Value.slice a0.a a0.len a0.cap), (Value.string a1)] (by kernel_rfl) w ((e_ref16_insert a0 a1 w K).mpr h)

/-- (*goosepond/goosepondref16.Table).find -/
def s_ref16_Table_find (a0 : Option Addr) (a1 : ByteArray) (w : World) (K : Int → World → Prop) : Prop :=
 (LoopP (S := Int × Unit) (fun s3 w4 next5 =>
 ∃ a6 : Addr, a0 = some a6 ∧
 Ld .slice w4 a6 fun x7 =>
 (bif (decide (s3.1 < (x7.len : Int))) then
 ∃ a8 : Addr, a0 = some a8 ∧
 Ld .slice w4 a8 fun x9 =>
 AtIx x9 5 s3.1 fun a10 =>
 Ld .str w4 a10 fun x11 =>
 (bif (strEq x11 a1) then
 K s3.1 w4
 else
 next5 ((IntKind.i64.wrap (s3.1 + 1)), ()) w4)
 else
 K (-1) w4)) (0, ()) w)
theorem e_ref16_Table_find (a0 : Option Addr) (a1 : ByteArray) (w : World) (K : Int → World → Prop) : den Try.prog 26 (bodyOf Try.f31) none (.seq .leaf (.seq (.seq .leaf (.blk (.loop [(5, (.int .i64))] (.seq (.seq .leaf (.cond .leaf .leaf)) (.seq (.blk (.seq .leaf (.cond (.seq .leaf .leaf) .leaf))) .leaf))))) (.seq .leaf .leaf))) (argEnv 0 [(Value.pointer a0), (Value.string a1)]) [] w (retK Try.prog [.tmp 4] [.one (.int .i64)] K) = s_ref16_Table_find a0 a1 w K := by kernel_rfl
theorem ok_ref16_Table_find {a0 a1 w K} (h : s_ref16_Table_find a0 a1 w K) : c_ref16_Table_find a0 a1 w K :=
  fn_sound pok Try.func31 (fn := Try.f31) (c := bodyOf Try.f31) (nt := 26) (by kernel_rfl) (by kernel_rfl) (rs := [.tmp 4]) (by kernel_rfl) [.one (.int .i64)] K (.seq .leaf (.seq (.seq .leaf (.blk (.loop [(5, (.int .i64))] (.seq (.seq .leaf (.cond .leaf .leaf)) (.seq (.blk (.seq .leaf (.cond (.seq .leaf .leaf) .leaf))) .leaf))))) (.seq .leaf .leaf))) [(Value.pointer a0), (Value.string a1)] (by kernel_rfl) w ((e_ref16_Table_find a0 a1 w K).mpr h)

/-- (*goosepond/goosepondref15.Holes).Room -/
def s_ref15_Holes_Room (a0 : Option Addr) (a1 : Int) (a2 : SliceV) (w : World) (K : Int → World → Prop) : Prop :=
 (let J4 : Bool → World → Prop := fun j5 w6 =>
 ((bif j5 then
 K 0 w6
 else
 K (a2.len : Int) w6))
 c_ref15_Holes_same a0 a1 true a2 w fun r7 w8 =>
 (bif r7 then
 J4 true w8
 else
 c_ref15_Holes_same a0 a1 false a2 w8 fun r9 w10 =>
 J4 r9 w10))
theorem e_ref15_Holes_Room (a0 : Option Addr) (a1 : Int) (a2 : SliceV) (w : World) (K : Int → World → Prop) : den Try.prog 19 (bodyOf Try.f32) none (.seq .leaf (.seq (.seq .leaf (.cond (.seq .leaf .leaf) .leaf)) (.seq .leaf .leaf))) (argEnv 0 [(Value.pointer a0), (Value.int .i64 a1), (Value.slice a2.a a2.len a2.cap)]) [] w (retK Try.prog [.tmp 6] [.one (.int .i64)] K) = s_ref15_Holes_Room a0 a1 a2 w K := by kernel_rfl
theorem ok_ref15_Holes_Room {a0 a1 a2 w K} (h : s_ref15_Holes_Room a0 a1 a2 w K) : c_ref15_Holes_Room a0 a1 a2 w K :=
  fn_sound pok Try.func32 (fn := Try.f32) (c := bodyOf Try.f32) (nt := 19) (by kernel_rfl) (by kernel_rfl) (rs := [.tmp 6]) (by kernel_rfl) [.one (.int .i64)] K (.seq .leaf (.seq (.seq .leaf (.cond (.seq .leaf .leaf) .leaf)) (.seq .leaf .leaf))) [(Value.pointer a0), (Value.int .i64 a1), (Value.slice a2.a a2.len a2.cap)] (by kernel_rfl) w ((e_ref15_Holes_Room a0 a1 a2 w K).mpr h)

/-- (*goosepond/goosepondref16.Table).without -/
def s_ref16_Table_without (a0 : Option Addr) (a1 : Int) (w : World) (K : World → Prop) : Prop :=
 (∃ a3 : Addr, a0 = some a3 ∧
 Ld .slice w.drew a3 fun x4 =>
 SubSl x4 5 0 a1 fun s5 =>
 ∃ a6 : Addr, a0 = some a6 ∧
 Ld .slice w.drew a6 fun x7 =>
 SubSl x7 5 (IntKind.i64.wrap (a1 + 1)) (x7.len : Int) fun s8 =>
 AppSl 68 5 72 [(Value.string (bs [])), (Value.int .i64 0), (Value.slice none 0 0), (Value.string (bs [])), (Value.bool false)] ⟨none, 0, 0⟩ s5 w.drew fun s9 w10 =>
 w10.cell? a6 = some (Value.slice x7.a x7.len x7.cap) ∧
 AppSl 68 5 72 [(Value.string (bs [])), (Value.int .i64 0), (Value.slice none 0 0), (Value.string (bs [])), (Value.bool false)] s9 s8 w10 fun s11 w12 =>
 ∃ a13 : Addr, a0 = some a13 ∧
 St w12 a13 (Value.slice s11.a s11.len s11.cap) fun w14 =>
 K w14)
theorem e_ref16_Table_without (a0 : Option Addr) (a1 : Int) (w : World) (K : World → Prop) : den Try.prog 22 (bodyOf Try.f33) none .leaf (argEnv 0 [(Value.pointer a0), (Value.int .i64 a1)]) [] w (retK Try.prog [] [] K) = s_ref16_Table_without a0 a1 w K := by kernel_rfl
theorem ok_ref16_Table_without {a0 a1 w K} (h : s_ref16_Table_without a0 a1 w K) : c_ref16_Table_without a0 a1 w K :=
  fn_sound pok Try.func33 (fn := Try.f33) (c := bodyOf Try.f33) (nt := 22) (by kernel_rfl) (by kernel_rfl) (rs := []) (by kernel_rfl) [] K .leaf [(Value.pointer a0), (Value.int .i64 a1)] (by kernel_rfl) w ((e_ref16_Table_without a0 a1 w K).mpr h)

/-- (*goosepond/goosepondref15.Holes).Add -/
def s_ref15_Holes_Add (a0 : Option Addr) (a1 : Int) (a2 : Bool) (a3 : SliceV) (w : World) (K : Int → World → Prop) : Prop :=
 (let J5 : Bool → Prop := fun j6 =>
 ((bif j6 then
 K 4 w
 else
 (bif (decide (a1 > (IntKind.i64.wrap (65535 - (a3.len : Int))))) then
 K 6 w
 else
 c_ref15_Holes_same a0 a1 a2 a3 w fun r7 w8 =>
 (bif r7 then
 K 0 w8
 else
 c_ref15_Holes_shares a0 a1 a3 w8 fun r9 w10 =>
 (bif r9 then
 K 9 w10
 else
 c_ref15_Holes_end a0 w10 fun r11 w12 =>
 let J13 : Bool → World → Prop := fun j14 w15 =>
 ((bif j14 then
 K 4 w15
 else
 ∃ a16 : Addr, a0 = some a16 ∧
 Ld .slice w15 a16 fun x17 =>
 AppSl 97 3 40 [(Value.int .i64 0), (Value.bool false), (Value.slice none 0 0)] ⟨none, 0, 0⟩ x17 w15 fun s18 w19 =>
 AppSl 5 1 1 [(Value.int .u8 0)] ⟨none, 0, 0⟩ a3 w19 fun s20 w21 =>
 Al w21 (.cells ⟨[(Value.int .i64 a1), (Value.bool a2), (Value.slice s20.a s20.len s20.cap)]⟩ 97) fun a23 w22 =>
 AppSl 97 3 40 [(Value.int .i64 0), (Value.bool false), (Value.slice none 0 0)] s18 ⟨(some a23), 1, 1⟩ w22 fun s24 w25 =>
 ∃ a26 : Addr, a0 = some a26 ∧
 St w25 a26 (Value.slice s24.a s24.len s24.cap) fun w27 =>
 K 0 w27))
 (bif (!a2) then
 (bif (decide (r11 ≥ 0)) then
 J13 true w12
 else
 c_ref15_Holes_Far a0 w12 fun r28 w29 =>
 (bif (decide (r28 > (IntKind.i64.wrap (a1 + (a3.len : Int))))) then
 J13 true w29
 else
 (bif (decide (r11 ≥ 0)) then
 J13 (decide ((IntKind.i64.wrap (a1 + (a3.len : Int))) > r11)) w29
 else
 J13 false w29)))
 else
 (bif (decide (r11 ≥ 0)) then
 J13 (decide ((IntKind.i64.wrap (a1 + (a3.len : Int))) > r11)) w12
 else
 J13 false w12)))))))
 (bif (decide (a1 < 0)) then
 J5 true
 else
 (bif a2 then
 (bif ((a3.len : Int) == 0) then
 J5 true
 else
 (8 : Int) ≠ 0 ∧
 J5 ((Int.tmod (a3.len : Int) 8) != 0))
 else
 J5 false)))
theorem e_ref15_Holes_Add (a0 : Option Addr) (a1 : Int) (a2 : Bool) (a3 : SliceV) (w : World) (K : Int → World → Prop) : den Try.prog 88 (bodyOf Try.f34) none (.seq .leaf (.seq (.blk (.seq .leaf (.cond (.seq .leaf .leaf) (.seq .leaf (.cond (.seq .leaf .leaf) (.seq .leaf (.cond (.seq .leaf .leaf) (.seq .leaf (.cond (.seq .leaf .leaf) .leaf))))))))) (.seq .leaf (.seq (.seq .leaf (.cond (.seq .leaf .leaf) .leaf)) (.seq .leaf (.seq .leaf .leaf)))))) (argEnv 0 [(Value.pointer a0), (Value.int .i64 a1), (Value.bool a2), (Value.slice a3.a a3.len a3.cap)]) [] w (retK Try.prog [.tmp 8] [.one (.int .i64)] K) = s_ref15_Holes_Add a0 a1 a2 a3 w K := by kernel_rfl
theorem ok_ref15_Holes_Add {a0 a1 a2 a3 w K} (h : s_ref15_Holes_Add a0 a1 a2 a3 w K) : c_ref15_Holes_Add a0 a1 a2 a3 w K :=
  fn_sound pok Try.func34 (fn := Try.f34) (c := bodyOf Try.f34) (nt := 88) (by kernel_rfl) (by kernel_rfl) (rs := [.tmp 8]) (by kernel_rfl) [.one (.int .i64)] K (.seq .leaf (.seq (.blk (.seq .leaf (.cond (.seq .leaf .leaf) (.seq .leaf (.cond (.seq .leaf .leaf) (.seq .leaf (.cond (.seq .leaf .leaf) (.seq .leaf (.cond (.seq .leaf .leaf) .leaf))))))))) (.seq .leaf (.seq (.seq .leaf (.cond (.seq .leaf .leaf) .leaf)) (.seq .leaf (.seq .leaf .leaf)))))) [(Value.pointer a0), (Value.int .i64 a1), (Value.bool a2), (Value.slice a3.a a3.len a3.cap)] (by kernel_rfl) w ((e_ref15_Holes_Add a0 a1 a2 a3 w K).mpr h)

/-- (*goosepond/goosepondref15.Holes).Done -/
def s_ref15_Holes_Done (a0 : Option Addr) (w : World) (K : SliceV → Bool → World → Prop) : Prop :=
 (c_ref15_Holes_end a0 w fun r2 w3 =>
 let J4 : Bool → World → Prop := fun j5 w6 =>
 ((bif j5 then
 K ⟨none, 0, 0⟩ false w6
 else
 MkSl 5 1 1 [(Value.int .u8 0)] r2 r2 w6 fun s7 w8 =>
 LoopP (S := Int × Unit) (fun s9 w10 next11 =>
 ∃ a12 : Addr, a0 = some a12 ∧
 Ld .slice w10 a12 fun x13 =>
 (bif (decide (s9.1 < (x13.len : Int))) then
 LoopP (S := Int × Unit) (fun s14 w15 next16 =>
 ∃ a17 : Addr, a0 = some a17 ∧
 Ld .slice w15 a17 fun x18 =>
 AtIx x18 3 s9.1 fun a19 =>
 Ld .slice w15 (a19.add 2) fun x20 =>
 (bif (decide (s14.1 < (x20.len : Int))) then
 ∃ a21 : Addr, a0 = some a21 ∧
 Ld .slice w15.drew a21 fun x22 =>
 AtIx x22 3 s9.1 fun a23 =>
 Ld (.int .i64) w15.drew a23 fun x24 =>
 ∃ a25 : Addr, a0 = some a25 ∧
 Ld .slice w15.drew a25 fun x26 =>
 AtIx x26 3 s9.1 fun a27 =>
 Ld .slice w15.drew (a27.add 2) fun x28 =>
 AtIx x28 1 s14.1 fun a29 =>
 Ld (.int .u8) w15.drew a29 fun x30 =>
 AtIx s7 1 (IntKind.i64.wrap (x24 + s14.1)) fun a31 =>
 St w15.drew a31 (Value.int .u8 x30) fun w32 =>
 next16 ((IntKind.i64.wrap (s14.1 + 1)), ()) w32
 else
 next11 ((IntKind.i64.wrap (s9.1 + 1)), ()) w15)) (0, ()) w10
 else
 K s7 true w10)) (0, ()) w8))
 (bif (decide (r2 < 0)) then
 J4 true w3
 else
 c_ref15_Holes_Bytes a0 w3 fun r33 w34 =>
 J4 (r33 != r2) w34))
theorem e_ref15_Holes_Done (a0 : Option Addr) (w : World) (K : SliceV → Bool → World → Prop) : den Try.prog 66 (bodyOf Try.f35) none (.seq .leaf (.seq .leaf (.seq (.seq .leaf (.cond (.seq .leaf .leaf) .leaf)) (.seq .leaf (.seq (.seq .leaf (.blk (.loop [(6, (.int .i64))] (.seq (.seq .leaf (.cond .leaf .leaf)) (.seq (.blk (.seq .leaf (.blk (.loop [(7, (.int .i64))] (.seq (.seq .leaf (.cond .leaf .leaf)) (.seq (.blk .leaf) .leaf)))))) .leaf))))) (.seq .leaf .leaf)))))) (argEnv 0 [(Value.pointer a0)]) [] w (retK Try.prog [.tmp 2, .tmp 3] [.one .slice, .one .bool] K) = s_ref15_Holes_Done a0 w K := by kernel_rfl
theorem ok_ref15_Holes_Done {a0 w K} (h : s_ref15_Holes_Done a0 w K) : c_ref15_Holes_Done a0 w K :=
  fn_sound pok Try.func35 (fn := Try.f35) (c := bodyOf Try.f35) (nt := 66) (by kernel_rfl) (by kernel_rfl) (rs := [.tmp 2, .tmp 3]) (by kernel_rfl) [.one .slice, .one .bool] K (.seq .leaf (.seq .leaf (.seq (.seq .leaf (.cond (.seq .leaf .leaf) .leaf)) (.seq .leaf (.seq (.seq .leaf (.blk (.loop [(6, (.int .i64))] (.seq (.seq .leaf (.cond .leaf .leaf)) (.seq (.blk (.seq .leaf (.blk (.loop [(7, (.int .i64))] (.seq (.seq .leaf (.cond .leaf .leaf)) (.seq (.blk .leaf) .leaf)))))) .leaf))))) (.seq .leaf .leaf)))))) [(Value.pointer a0)] (by kernel_rfl) w ((e_ref15_Holes_Done a0 w K).mpr h)

/-- (*goosepond/goosepondref15.Holes).Bytes -/
def s_ref15_Holes_Bytes (a0 : Option Addr) (w : World) (K : Int → World → Prop) : Prop :=
 (LoopP (S := Int × Int × Unit) (fun s2 w3 next4 =>
 ∃ a5 : Addr, a0 = some a5 ∧
 Ld .slice w3 a5 fun x6 =>
 (bif (decide (s2.2.1 < (x6.len : Int))) then
 ∃ a7 : Addr, a0 = some a7 ∧
 Ld .slice w3 a7 fun x8 =>
 AtIx x8 3 s2.2.1 fun a9 =>
 Ld .slice w3 (a9.add 2) fun x10 =>
 next4 ((IntKind.i64.wrap (s2.1 + (x10.len : Int))), (IntKind.i64.wrap (s2.2.1 + 1)), ()) w3
 else
 K s2.1 w3)) (0, 0, ()) w)
theorem e_ref15_Holes_Bytes (a0 : Option Addr) (w : World) (K : Int → World → Prop) : den Try.prog 26 (bodyOf Try.f36) none (.seq .leaf (.seq .leaf (.seq (.seq .leaf (.blk (.loop [(3, (.int .i64)), (4, (.int .i64))] (.seq (.seq .leaf (.cond .leaf .leaf)) (.seq (.blk .leaf) .leaf))))) (.seq .leaf .leaf)))) (argEnv 0 [(Value.pointer a0)]) [] w (retK Try.prog [.tmp 2] [.one (.int .i64)] K) = s_ref15_Holes_Bytes a0 w K := by kernel_rfl
theorem ok_ref15_Holes_Bytes {a0 w K} (h : s_ref15_Holes_Bytes a0 w K) : c_ref15_Holes_Bytes a0 w K :=
  fn_sound pok Try.func36 (fn := Try.f36) (c := bodyOf Try.f36) (nt := 26) (by kernel_rfl) (by kernel_rfl) (rs := [.tmp 2]) (by kernel_rfl) [.one (.int .i64)] K (.seq .leaf (.seq .leaf (.seq (.seq .leaf (.blk (.loop [(3, (.int .i64)), (4, (.int .i64))] (.seq (.seq .leaf (.cond .leaf .leaf)) (.seq (.blk .leaf) .leaf))))) (.seq .leaf .leaf)))) [(Value.pointer a0)] (by kernel_rfl) w ((e_ref15_Holes_Bytes a0 w K).mpr h)

/-- goosepond/holes.New -/
def s_holes_New  (w : World) (K : (Option Addr) → World → Prop) : Prop :=
 (Al w (.cells ⟨[(Value.slice none 0 0), (Value.int .i64 0), (Value.int .i64 (-1)), (Value.bool true)]⟩ 84) fun a2 w1 =>
 K (some a2) w1)
theorem e_holes_New  (w : World) (K : (Option Addr) → World → Prop) : den Try.prog 3 (bodyOf Try.f37) none (.seq .leaf (.seq .leaf .leaf)) (argEnv 0 []) [] w (retK Try.prog [.tmp 0] [.one .ptr] K) = s_holes_New  w K := by kernel_rfl
theorem ok_holes_New { w K} (h : s_holes_New  w K) : c_holes_New  w K :=
  fn_sound pok Try.func37 (fn := Try.f37) (c := bodyOf Try.f37) (nt := 3) (by kernel_rfl) (by kernel_rfl) (rs := [.tmp 0]) (by kernel_rfl) [.one .ptr] K (.seq .leaf (.seq .leaf .leaf)) [] (by kernel_rfl) w ((e_holes_New  w K).mpr h)

/-- (*goosepond/holes.Holes).ready -/
def s_holes_Holes_ready (a0 : Option Addr) (w : World) (K : Bool → World → Prop) : Prop :=
 (let J2 : Bool → Prop := fun j3 =>
 (K j3 w)
 (bif (!(Option.isNone a0)) then
 ∃ a4 : Addr, a0 = some a4 ∧
 Ld .bool w (a4.add 3) fun x5 =>
 J2 x5
 else
 J2 false))
theorem e_holes_Holes_ready (a0 : Option Addr) (w : World) (K : Bool → World → Prop) : den Try.prog 11 (bodyOf Try.f38) none (.seq .leaf (.seq .leaf .leaf)) (argEnv 0 [(Value.pointer a0)]) [] w (retK Try.prog [.tmp 2] [.one .bool] K) = s_holes_Holes_ready a0 w K := by kernel_rfl
theorem ok_holes_Holes_ready {a0 w K} (h : s_holes_Holes_ready a0 w K) : c_holes_Holes_ready a0 w K :=
  fn_sound pok Try.func38 (fn := Try.f38) (c := bodyOf Try.f38) (nt := 11) (by kernel_rfl) (by kernel_rfl) (rs := [.tmp 2]) (by kernel_rfl) [.one .bool] K (.seq .leaf (.seq .leaf .leaf)) [(Value.pointer a0)] (by kernel_rfl) w ((e_holes_Holes_ready a0 w K).mpr h)

/-- (*goosepond/holes.Holes).has -/
def s_holes_Holes_has (a0 : Option Addr) (a1_0 : Int) (a1_1 : Bool) (a1_2 : SliceV) (w : World) (K : Bool → World → Prop) : Prop :=
 (Al w (.cells ⟨[(Value.int .i64 a1_0), (Value.bool a1_1), (Value.slice a1_2.a a1_2.len a1_2.cap)]⟩ 77) fun a4 w3 =>
 ∃ a5 : Addr, a0 = some a5 ∧
 Ld .slice w3.drew a5 fun x6 =>
 Ld (.int .i64) w3.drew (a4.add 0) fun x7 =>
 Ld .bool w3.drew (a4.add 1) fun x8 =>
 Ld .slice w3.drew (a4.add 2) fun x9 =>
 c_slices_ContainsFunc_holes_piece_holes_piece x6 (Value.func (.func 57) #[(Value.agg ⟨[(Value.int .i64 x7), (Value.bool x8), (Value.slice x9.a x9.len x9.cap)]⟩)] #[]) w3.drew fun r10 w11 =>
 K r10 w11)
theorem e_holes_Holes_has (a0 : Option Addr) (a1_0 : Int) (a1_1 : Bool) (a1_2 : SliceV) (w : World) (K : Bool → World → Prop) : den Try.prog 12 (bodyOf Try.f39) none (.seq .leaf (.seq .leaf .leaf)) (argEnv 0 [(Value.pointer a0), (Value.agg ⟨[(Value.int .i64 a1_0), (Value.bool a1_1), (Value.slice a1_2.a a1_2.len a1_2.cap)]⟩)]) [] w (retK Try.prog [.tmp 4] [.one .bool] K) = s_holes_Holes_has a0 a1_0 a1_1 a1_2 w K := by kernel_rfl
theorem ok_holes_Holes_has {a0 a1_0 a1_1 a1_2 w K} (h : s_holes_Holes_has a0 a1_0 a1_1 a1_2 w K) : c_holes_Holes_has a0 a1_0 a1_1 a1_2 w K :=
  fn_sound pok Try.func39 (fn := Try.f39) (c := bodyOf Try.f39) (nt := 12) (by kernel_rfl) (by kernel_rfl) (rs := [.tmp 4]) (by kernel_rfl) [.one .bool] K (.seq .leaf (.seq .leaf .leaf)) [(Value.pointer a0), (Value.agg ⟨[(Value.int .i64 a1_0), (Value.bool a1_1), (Value.slice a1_2.a a1_2.len a1_2.cap)]⟩)] (by kernel_rfl) w ((e_holes_Holes_has a0 a1_0 a1_1 a1_2 w K).mpr h)

/-- (*goosepond/holes.Holes).Bytes -/
def s_holes_Holes_Bytes (a0 : Option Addr) (w : World) (K : Int → World → Prop) : Prop :=
 (c_holes_Holes_ready a0 w fun r2 w3 =>
 (bif (!r2) then
 K 0 w3
 else
 ∃ a4 : Addr, a0 = some a4 ∧
 Ld (.int .i64) w3 (a4.add 1) fun x5 =>
 K x5 w3))
theorem e_holes_Holes_Bytes (a0 : Option Addr) (w : World) (K : Int → World → Prop) : den Try.prog 10 (bodyOf Try.f40) none (.seq .leaf (.seq (.seq .leaf (.cond (.seq .leaf .leaf) .leaf)) (.seq .leaf .leaf))) (argEnv 0 [(Value.pointer a0)]) [] w (retK Try.prog [.tmp 2] [.one (.int .i64)] K) = s_holes_Holes_Bytes a0 w K := by kernel_rfl
theorem ok_holes_Holes_Bytes {a0 w K} (h : s_holes_Holes_Bytes a0 w K) : c_holes_Holes_Bytes a0 w K :=
  fn_sound pok Try.func40 (fn := Try.f40) (c := bodyOf Try.f40) (nt := 10) (by kernel_rfl) (by kernel_rfl) (rs := [.tmp 2]) (by kernel_rfl) [.one (.int .i64)] K (.seq .leaf (.seq (.seq .leaf (.cond (.seq .leaf .leaf) .leaf)) (.seq .leaf .leaf))) [(Value.pointer a0)] (by kernel_rfl) w ((e_holes_Holes_Bytes a0 w K).mpr h)

/-- goosepond/holes.may -/
def s_holes_may (a0_0 : Int) (a0_1 : Bool) (a0_2 : SliceV) (w : World) (K : Int → World → Prop) : Prop :=
 (Al w (.cells ⟨[(Value.int .i64 a0_0), (Value.bool a0_1), (Value.slice a0_2.a a0_2.len a0_2.cap)]⟩ 77) fun a3 w2 =>
 let J4 : Bool → Prop := fun j5 =>
 ((bif j5 then
 K 4 w2
 else
 Ld (.int .i64) w2 a3 fun x6 =>
 Ld .slice w2 (a3.add 2) fun x7 =>
 (bif (decide (x6 > (IntKind.i64.wrap (65535 - (x7.len : Int))))) then
 K 6 w2
 else
 K 0 w2)))
 Ld (.int .i64) w2 a3 fun x8 =>
 (bif (decide (x8 < 0)) then
 J4 (decide (x8 < 0))
 else
 Ld .bool w2 (a3.add 1) fun x9 =>
 (bif x9 then
 Ld .slice w2 (a3.add 2) fun x10 =>
 (bif ((x10.len : Int) == 0) then
 J4 true
 else
 Ld .slice w2 (a3.add 2) fun x11 =>
 (8 : Int) ≠ 0 ∧
 J4 ((Int.tmod (x11.len : Int) 8) != 0))
 else
 J4 false)))
theorem e_holes_may (a0_0 : Int) (a0_1 : Bool) (a0_2 : SliceV) (w : World) (K : Int → World → Prop) : den Try.prog 30 (bodyOf Try.f41) none (.seq .leaf (.seq (.blk (.seq (.seq .leaf (.cond .leaf .leaf)) (.cond (.seq .leaf .leaf) (.seq .leaf (.cond (.seq .leaf .leaf) .leaf))))) (.seq .leaf .leaf))) (argEnv 0 [(Value.agg ⟨[(Value.int .i64 a0_0), (Value.bool a0_1), (Value.slice a0_2.a a0_2.len a0_2.cap)]⟩)]) [] w (retK Try.prog [.tmp 2] [.one (.int .i64)] K) = s_holes_may a0_0 a0_1 a0_2 w K := by kernel_rfl
theorem ok_holes_may {a0_0 a0_1 a0_2 w K} (h : s_holes_may a0_0 a0_1 a0_2 w K) : c_holes_may a0_0 a0_1 a0_2 w K :=
  fn_sound pok Try.func41 (fn := Try.f41) (c := bodyOf Try.f41) (nt := 30) (by kernel_rfl) (by kernel_rfl) (rs := [.tmp 2]) (by kernel_rfl) [.one (.int .i64)] K (.seq .leaf (.seq (.blk (.seq (.seq .leaf (.cond .leaf .leaf)) (.cond (.seq .leaf .leaf) (.seq .leaf (.cond (.seq .leaf .leaf) .leaf))))) (.seq .leaf .leaf))) [(Value.agg ⟨[(Value.int .i64 a0_0), (Value.bool a0_1), (Value.slice a0_2.a a0_2.len a0_2.cap)]⟩)] (by kernel_rfl) w ((e_holes_may a0_0 a0_1 a0_2 w K).mpr h)

/-- (*goosepond/holes.Holes).meets -/
def s_holes_Holes_meets (a0 : Option Addr) (a1_0 : Int) (a1_1 : Bool) (a1_2 : SliceV) (w : World) (K : Bool → World → Prop) : Prop :=
 (Al w (.cells ⟨[(Value.int .i64 a1_0), (Value.bool a1_1), (Value.slice a1_2.a a1_2.len a1_2.cap)]⟩ 77) fun a4 w3 =>
 ∃ a5 : Addr, a0 = some a5 ∧
 Ld .slice w3 a5 fun x6 =>
 LoopP (S := Int × Unit) (fun s7 w8 next9 =>
 (bif (decide (s7.1 < (x6.len : Int))) then
 let J10 : World → Prop := fun w11 =>
 (next9 ((IntKind.i64.wrap (s7.1 + 1)), ()) w11)
 AtIx x6 3 s7.1 fun a12 =>
 Ld (.int .i64) w8 (a12.add 0) fun x13 =>
 Ld .bool w8 (a12.add 1) fun x14 =>
 Ld .slice w8 (a12.add 2) fun x15 =>
 Al w8 (.cells ⟨[(Value.int .i64 0), (Value.bool false), (Value.slice none 0 0)]⟩ 77) fun a17 w16 =>
 StN [(Value.int .i64 x13), (Value.bool x14), (Value.slice x15.a x15.len x15.cap)] w16 a17 0 fun w18 =>
 let J19 : Bool → Prop := fun j20 =>
 (let J21 : Bool → Prop := fun j22 =>
 ((bif j22 then
 K true w18
 else
 let J23 : Bool → Prop := fun j24 =>
 ((bif j24 then
 J10 w18
 else
 let J25 : Bool → World → Prop := fun j26 w27 =>
 ((bif j26 then
 K true w27
 else
 J10 w27))
 Ld (.int .i64) w18.drew a17 fun x28 =>
 Ld (.int .i64) w18.drew (a4.add 0) fun x29 =>
 Ld .bool w18.drew (a4.add 1) fun x30 =>
 Ld .slice w18.drew (a4.add 2) fun x31 =>
 c_holes_piece_end x29 x30 x31 w18.drew fun r32 w33 =>
 w33.cell? a17 = some (Value.int .i64 x28) ∧
 (bif (decide (x28 < r32)) then
 Ld (.int .i64) w33 a4 fun x34 =>
 Ld (.int .i64) w33 (a17.add 0) fun x35 =>
 Ld .bool w33 (a17.add 1) fun x36 =>
 Ld .slice w33 (a17.add 2) fun x37 =>
 c_holes_piece_end x35 x36 x37 w33 fun r38 w39 =>
 w39.cell? a4 = some (Value.int .i64 x34) ∧
 J25 (decide (x34 < r38)) w39
 else
 J25 false w33)))
 Ld .slice w18 (a4.add 2) fun x40 =>
 (bif ((x40.len : Int) == 0) then
 J23 true
 else
 Ld .slice w18 (a17.add 2) fun x41 =>
 J23 ((x41.len : Int) == 0))))
 (bif j20 then
 Ld (.int .i64) w18 a4 fun x42 =>
 Ld (.int .i64) w18 a17 fun x43 =>
 J21 (x42 == x43)
 else
 J21 false))
 Ld .slice w18 (a4.add 2) fun x44 =>
 (bif ((x44.len : Int) == 0) then
 Ld .slice w18 (a17.add 2) fun x45 =>
 J19 ((x45.len : Int) == 0)
 else
 J19 false)
 else
 K false w8)) (0, ()) w3)
theorem e_holes_Holes_meets (a0 : Option Addr) (a1_0 : Int) (a1_1 : Bool) (a1_2 : SliceV) (w : World) (K : Bool → World → Prop) : den Try.prog 61 (bodyOf Try.f42) none (.seq .leaf (.seq (.seq .leaf (.blk (.loop [(13, (.int .i64))] (.seq .leaf (.seq (.cond .leaf .leaf) (.seq (.blk (.seq .leaf (.seq .leaf (.blk (.seq .leaf (.cond (.seq .leaf .leaf) (.seq .leaf (.cond .leaf (.seq .leaf (.cond (.seq .leaf .leaf) .leaf)))))))))) .leaf)))))) (.seq .leaf .leaf))) (argEnv 0 [(Value.pointer a0), (Value.agg ⟨[(Value.int .i64 a1_0), (Value.bool a1_1), (Value.slice a1_2.a a1_2.len a1_2.cap)]⟩)]) [] w (retK Try.prog [.tmp 4] [.one .bool] K) = s_holes_Holes_meets a0 a1_0 a1_1 a1_2 w K := by kernel_rfl
theorem ok_holes_Holes_meets {a0 a1_0 a1_1 a1_2 w K} (h : s_holes_Holes_meets a0 a1_0 a1_1 a1_2 w K) : c_holes_Holes_meets a0 a1_0 a1_1 a1_2 w K :=
  fn_sound pok Try.func42 (fn := Try.f42) (c := bodyOf Try.f42) (nt := 61) (by kernel_rfl) (by kernel_rfl) (rs := [.tmp 4]) (by kernel_rfl) [.one .bool] K (.seq .leaf (.seq (.seq .leaf (.blk (.loop [(13, (.int .i64))] (.seq .leaf (.seq (.cond .leaf .leaf) (.seq (.blk (.seq .leaf (.seq .leaf (.blk (.seq .leaf (.cond (.seq .leaf .leaf) (.seq .leaf (.cond .leaf (.seq .leaf (.cond (.seq .leaf .leaf) .leaf)))))))))) .leaf)))))) (.seq .leaf .leaf))) [(Value.pointer a0), (Value.agg ⟨[(Value.int .i64 a1_0), (Value.bool a1_1), (Value.slice a1_2.a a1_2.len a1_2.cap)]⟩)] (by kernel_rfl) w ((e_holes_Holes_meets a0 a1_0 a1_1 a1_2 w K).mpr h)

/-- (*goosepond/holes.Holes).fits -/
def s_holes_Holes_fits (a0 : Option Addr) (a1_0 : Int) (a1_1 : Bool) (a1_2 : SliceV) (w : World) (K : Bool → World → Prop) : Prop :=
 (Al w (.cells ⟨[(Value.int .i64 a1_0), (Value.bool a1_1), (Value.slice a1_2.a a1_2.len a1_2.cap)]⟩ 77) fun a4 w3 =>
 Ld .bool w3 (a4.add 1) fun x5 =>
 (bif x5 then
 let J6 : Bool → World → Prop := fun j7 w8 =>
 (K j7 w8)
 ∃ a9 : Addr, a0 = some a9 ∧
 Ld (.int .i64) w3.drew (a9.add 2) fun x10 =>
 (bif (decide (x10 < 0)) then
 J6 true w3.drew
 else
 Ld (.int .i64) w3.drew (a4.add 0) fun x11 =>
 Ld .bool w3.drew (a4.add 1) fun x12 =>
 Ld .slice w3.drew (a4.add 2) fun x13 =>
 ∃ a14 : Addr, a0 = some a14 ∧
 Ld (.int .i64) w3.drew (a14.add 2) fun x15 =>
 c_holes_piece_end x11 x12 x13 w3.drew fun r16 w17 =>
 w17.cell? (a14.add 2) = some (Value.int .i64 x15) ∧
 J6 (decide (r16 ≤ x15)) w17)
 else
 let J18 : Bool → World → Prop := fun j19 w20 =>
 (K j19 w20)
 ∃ a21 : Addr, a0 = some a21 ∧
 Ld (.int .i64) w3.drew (a21.add 2) fun x22 =>
 (bif (decide (x22 < 0)) then
 Ld (.int .i64) w3.drew (a4.add 0) fun x23 =>
 Ld .bool w3.drew (a4.add 1) fun x24 =>
 Ld .slice w3.drew (a4.add 2) fun x25 =>
 c_holes_Holes_far a0 w3.drew fun r26 w27 =>
 w27.cell? (a4.add 0) = some (Value.int .i64 x23) ∧
 w27.cell? (a4.add 1) = some (Value.bool x24) ∧
 w27.cell? (a4.add 2) = some (Value.slice x25.a x25.len x25.cap) ∧
 c_holes_piece_end x23 x24 x25 w27 fun r28 w29 =>
 J18 (decide (r26 ≤ r28)) w29
 else
 J18 false w3.drew)))
theorem e_holes_Holes_fits (a0 : Option Addr) (a1_0 : Int) (a1_1 : Bool) (a1_2 : SliceV) (w : World) (K : Bool → World → Prop) : den Try.prog 33 (bodyOf Try.f43) none (.seq .leaf (.seq (.seq .leaf (.cond (.seq .leaf .leaf) .leaf)) (.seq .leaf .leaf))) (argEnv 0 [(Value.pointer a0), (Value.agg ⟨[(Value.int .i64 a1_0), (Value.bool a1_1), (Value.slice a1_2.a a1_2.len a1_2.cap)]⟩)]) [] w (retK Try.prog [.tmp 4] [.one .bool] K) = s_holes_Holes_fits a0 a1_0 a1_1 a1_2 w K := by kernel_rfl
theorem ok_holes_Holes_fits {a0 a1_0 a1_1 a1_2 w K} (h : s_holes_Holes_fits a0 a1_0 a1_1 a1_2 w K) : c_holes_Holes_fits a0 a1_0 a1_1 a1_2 w K :=
  fn_sound pok Try.func43 (fn := Try.f43) (c := bodyOf Try.f43) (nt := 33) (by kernel_rfl) (by kernel_rfl) (rs := [.tmp 4]) (by kernel_rfl) [.one .bool] K (.seq .leaf (.seq (.seq .leaf (.cond (.seq .leaf .leaf) .leaf)) (.seq .leaf .leaf))) [(Value.pointer a0), (Value.agg ⟨[(Value.int .i64 a1_0), (Value.bool a1_1), (Value.slice a1_2.a a1_2.len a1_2.cap)]⟩)] (by kernel_rfl) w ((e_holes_Holes_fits a0 a1_0 a1_1 a1_2 w K).mpr h)

/-- slices.Clone[[]byte,byte] -/
def s_slices_Clone_byte_byte (a0 : SliceV) (w : World) (K : SliceV → World → Prop) : Prop :=
 ((bif (Option.isNone a0.a) then
 K ⟨none, 0, 0⟩ w
 else
 Al w (.cells ⟨[]⟩ 5) fun a3 w2 =>
 AppSl 5 1 1 [(Value.int .u8 0)] ⟨(some a3), 0, 0⟩ a0 w2 fun s4 w5 =>
 K s4 w5))
theorem e_slices_Clone_byte_byte (a0 : SliceV) (w : World) (K : SliceV → World → Prop) : den Try.prog 8 (bodyOf Try.f44) none (.seq .leaf (.seq (.seq .leaf (.cond (.seq .leaf .leaf) .leaf)) (.seq .leaf .leaf))) (argEnv 0 [(Value.slice a0.a a0.len a0.cap)]) [] w (retK Try.prog [.tmp 2] [.one .slice] K) = s_slices_Clone_byte_byte a0 w K := by kernel_rfl
theorem ok_slices_Clone_byte_byte {a0 w K} (h : s_slices_Clone_byte_byte a0 w K) : c_slices_Clone_byte_byte a0 w K :=
  fn_sound pok Try.func44 (fn := Try.f44) (c := bodyOf Try.f44) (nt := 8) (by kernel_rfl) (by kernel_rfl) (rs := [.tmp 2]) (by kernel_rfl) [.one .slice] K (.seq .leaf (.seq (.seq .leaf (.cond (.seq .leaf .leaf) .leaf)) (.seq .leaf .leaf))) [(Value.slice a0.a a0.len a0.cap)] (by kernel_rfl) w ((e_slices_Clone_byte_byte a0 w K).mpr h)

/-- slices.BinarySearchFunc[[]goosepond/holes.piece,goosepond/holes.piece,goosepond/holes.piece] -/
def s_slices_BinarySearchFunc_holes_piece_holes_piece_holes_piece (a0 : SliceV) (a1_0 : Int) (a1_1 : Bool) (a1_2 : SliceV) (a2 : Value) (w : World) (K : Int → Bool → World → Prop) : Prop :=
 (Al w (.cells ⟨[(Value.int .i64 a1_0), (Value.bool a1_1), (Value.slice a1_2.a a1_2.len a1_2.cap)]⟩ 77) fun a5 w4 =>
 LoopP (S := Int × Int × Unit) (fun s6 w7 next8 =>
 (bif (decide (s6.1 < s6.2.1)) then
 0 ≤ (1 : Int) ∧
 AtIx a0 3 (IntKind.i64.wrap (shrI .u64 (IntKind.u64.wrap (IntKind.i64.wrap (s6.1 + s6.2.1))) 1)) fun a9 =>
 Ld (.int .i64) w7.drew (a9.add 0) fun x10 =>
 Ld .bool w7.drew (a9.add 1) fun x11 =>
 Ld .slice w7.drew (a9.add 2) fun x12 =>
 Ld (.int .i64) w7.drew (a5.add 0) fun x13 =>
 Ld .bool w7.drew (a5.add 1) fun x14 =>
 Ld .slice w7.drew (a5.add 2) fun x15 =>
 CallV Try.prog [.one (.int .i64)] a2 [(Value.agg ⟨[(Value.int .i64 x10), (Value.bool x11), (Value.slice x12.a x12.len x12.cap)]⟩), (Value.agg ⟨[(Value.int .i64 x13), (Value.bool x14), (Value.slice x15.a x15.len x15.cap)]⟩)] w7.drew fun r16 w17 =>
 ∃ r18 : Int, r16 = (Value.int .i64 r18) ∧
 (bif (decide (r18 < 0)) then
 next8 ((IntKind.i64.wrap ((IntKind.i64.wrap (shrI .u64 (IntKind.u64.wrap (IntKind.i64.wrap (s6.1 + s6.2.1))) 1)) + 1)), s6.2.1, ()) w17
 else
 next8 (s6.1, (IntKind.i64.wrap (shrI .u64 (IntKind.u64.wrap (IntKind.i64.wrap (s6.1 + s6.2.1))) 1)), ()) w17)
 else
 let J19 : Int → Bool → World → Prop := fun j20 j21 w22 =>
 (K j20 j21 w22)
 (bif (decide (s6.1 < (a0.len : Int))) then
 AtIx a0 3 s6.1 fun a23 =>
 Ld (.int .i64) w7.drew (a23.add 0) fun x24 =>
 Ld .bool w7.drew (a23.add 1) fun x25 =>
 Ld .slice w7.drew (a23.add 2) fun x26 =>
 Ld (.int .i64) w7.drew (a5.add 0) fun x27 =>
 Ld .bool w7.drew (a5.add 1) fun x28 =>
 Ld .slice w7.drew (a5.add 2) fun x29 =>
 CallV Try.prog [.one (.int .i64)] a2 [(Value.agg ⟨[(Value.int .i64 x24), (Value.bool x25), (Value.slice x26.a x26.len x26.cap)]⟩), (Value.agg ⟨[(Value.int .i64 x27), (Value.bool x28), (Value.slice x29.a x29.len x29.cap)]⟩)] w7.drew fun r30 w31 =>
 ∃ r32 : Int, r30 = (Value.int .i64 r32) ∧
 J19 s6.1 (r32 == 0) w31
 else
 J19 s6.1 false w7.drew))) (0, (a0.len : Int), ()) w4)
theorem e_slices_BinarySearchFunc_holes_piece_holes_piece_holes_piece (a0 : SliceV) (a1_0 : Int) (a1_1 : Bool) (a1_2 : SliceV) (a2 : Value) (w : World) (K : Int → Bool → World → Prop) : den Try.prog 49 (bodyOf Try.f45) none (.seq .leaf (.seq .leaf (.seq .leaf (.seq (.blk (.loop [(9, (.int .i64)), (10, (.int .i64))] (.seq (.seq .leaf (.cond .leaf .leaf)) (.blk (.seq .leaf (.seq .leaf (.cond .leaf .leaf))))))) (.seq .leaf .leaf))))) (argEnv 0 [(Value.slice a0.a a0.len a0.cap), (Value.agg ⟨[(Value.int .i64 a1_0), (Value.bool a1_1), (Value.slice a1_2.a a1_2.len a1_2.cap)]⟩), a2]) [] w (retK Try.prog [.tmp 6, .tmp 7] [.one (.int .i64), .one .bool] K) = s_slices_BinarySearchFunc_holes_piece_holes_piece_holes_piece a0 a1_0 a1_1 a1_2 a2 w K := by kernel_rfl
theorem ok_slices_BinarySearchFunc_holes_piece_holes_piece_holes_piece {a0 a1_0 a1_1 a1_2 a2 w K} (h : s_slices_BinarySearchFunc_holes_piece_holes_piece_holes_piece a0 a1_0 a1_1 a1_2 a2 w K) : c_slices_BinarySearchFunc_holes_piece_holes_piece_holes_piece a0 a1_0 a1_1 a1_2 a2 w K :=
  fn_sound pok Try.func45 (fn := Try.f45) (c := bodyOf Try.f45) (nt := 49) (by kernel_rfl) (by kernel_rfl) (rs := [.tmp 6, .tmp 7]) (by kernel_rfl) [.one (.int .i64), .one .bool] K (.seq .leaf (.seq .leaf (.seq .leaf (.seq (.blk (.loop [(9, (.int .i64)), (10, (.int .i64))] (.seq (.seq .leaf (.cond .leaf .leaf)) (.blk (.seq .leaf (.seq .leaf (.cond .leaf .leaf))))))) (.seq .leaf .leaf))))) [(Value.slice a0.a a0.len a0.cap), (Value.agg ⟨[(Value.int .i64 a1_0), (Value.bool a1_1), (Value.slice a1_2.a a1_2.len a1_2.cap)]⟩), a2] (by kernel_rfl) w ((e_slices_BinarySearchFunc_holes_piece_holes_piece_holes_piece a0 a1_0 a1_1 a1_2 a2 w K).mpr h)

/-- goosepond/holes.order -/
def s_holes_order (a0_0 : Int) (a0_1 : Bool) (a0_2 : SliceV) (a1_0 : Int) (a1_1 : Bool) (a1_2 : SliceV) (w : World) (K : Int → World → Prop) : Prop :=
 (Al w (.cells ⟨[(Value.int .i64 a0_0), (Value.bool a0_1), (Value.slice a0_2.a a0_2.len a0_2.cap)]⟩ 77) fun a4 w3 =>
 Al w3 (.cells ⟨[(Value.int .i64 a1_0), (Value.bool a1_1), (Value.slice a1_2.a a1_2.len a1_2.cap)]⟩ 77) fun a6 w5 =>
 Ld (.int .i64) w5.drew a4 fun x7 =>
 Ld (.int .i64) w5.drew a6 fun x8 =>
 Ld .slice w5.drew (a4.add 2) fun x9 =>
 Ld .slice w5.drew (a6.add 2) fun x10 =>
 c_cmp_Compare_int x7 x8 w5.drew fun r11 w12 =>
 w12.cell? (a6.add 2) = some (Value.slice x10.a x10.len x10.cap) ∧
 w12.cell? (a4.add 2) = some (Value.slice x9.a x9.len x9.cap) ∧
 c_cmp_Compare_int (x9.len : Int) (x10.len : Int) w12 fun r13 w14 =>
 Al w14 (.cells ⟨[(Value.int .i64 r11), (Value.int .i64 r13)]⟩ 3) fun a16 w15 =>
 c_cmp_Or_int ⟨(some a16), 2, 2⟩ w15 fun r17 w18 =>
 K r17 w18)
theorem e_holes_order (a0_0 : Int) (a0_1 : Bool) (a0_2 : SliceV) (a1_0 : Int) (a1_1 : Bool) (a1_2 : SliceV) (w : World) (K : Int → World → Prop) : den Try.prog 19 (bodyOf Try.f46) none (.seq .leaf (.seq .leaf .leaf)) (argEnv 0 [(Value.agg ⟨[(Value.int .i64 a0_0), (Value.bool a0_1), (Value.slice a0_2.a a0_2.len a0_2.cap)]⟩), (Value.agg ⟨[(Value.int .i64 a1_0), (Value.bool a1_1), (Value.slice a1_2.a a1_2.len a1_2.cap)]⟩)]) [] w (retK Try.prog [.tmp 4] [.one (.int .i64)] K) = s_holes_order a0_0 a0_1 a0_2 a1_0 a1_1 a1_2 w K := by kernel_rfl
theorem ok_holes_order {a0_0 a0_1 a0_2 a1_0 a1_1 a1_2 w K} (h : s_holes_order a0_0 a0_1 a0_2 a1_0 a1_1 a1_2 w K) : c_holes_order a0_0 a0_1 a0_2 a1_0 a1_1 a1_2 w K :=
  fn_sound pok Try.func46 (fn := Try.f46) (c := bodyOf Try.f46) (nt := 19) (by kernel_rfl) (by kernel_rfl) (rs := [.tmp 4]) (by kernel_rfl) [.one (.int .i64)] K (.seq .leaf (.seq .leaf .leaf)) [(Value.agg ⟨[(Value.int .i64 a0_0), (Value.bool a0_1), (Value.slice a0_2.a a0_2.len a0_2.cap)]⟩), (Value.agg ⟨[(Value.int .i64 a1_0), (Value.bool a1_1), (Value.slice a1_2.a a1_2.len a1_2.cap)]⟩)] (by kernel_rfl) w ((e_holes_order a0_0 a0_1 a0_2 a1_0 a1_1 a1_2 w K).mpr h)

/-- slices.Insert[[]goosepond/holes.piece,goosepond/holes.piece] -/
def s_slices_Insert_holes_piece_holes_piece (a0 : SliceV) (a1 : Int) (a2 : SliceV) (w : World) (K : SliceV → World → Prop) : Prop :=
 (SubSl a0 3 a1 (a0.len : Int) fun s4 =>
 (bif ((a2.len : Int) == 0) then
 K a0 w
 else
 (bif (a1 == (a0.len : Int)) then
 AppSl 77 3 40 [(Value.int .i64 0), (Value.bool false), (Value.slice none 0 0)] a0 a2 w fun s5 w6 =>
 K s5 w6
 else
 (bif (decide ((IntKind.i64.wrap ((a0.len : Int) + (a2.len : Int))) > (a0.cap : Int))) then
 SubSl a0 3 0 a1 fun s7 =>
 AppMk 77 3 40 [(Value.int .i64 0), (Value.bool false), (Value.slice none 0 0)] s7 (IntKind.i64.wrap ((IntKind.i64.wrap ((a0.len : Int) + (a2.len : Int))) - a1)) w fun s8 w9 =>
 SubSl s8 3 a1 (s8.len : Int) fun s10 =>
 CopySl 3 s10 a2 w9 fun n11 w12 =>
 SubSl s8 3 (IntKind.i64.wrap (a1 + (a2.len : Int))) (s8.len : Int) fun s13 =>
 SubSl a0 3 a1 (a0.len : Int) fun s14 =>
 CopySl 3 s13 s14 w12.drew fun n15 w16 =>
 K s8 w16
 else
 SubSl a0 3 0 (IntKind.i64.wrap ((a0.len : Int) + (a2.len : Int))) fun s17 =>
 SubSl s17 3 (IntKind.i64.wrap (a1 + (a2.len : Int))) (s17.len : Int) fun s18 =>
 ExtP Try.prog 61 [(Value.slice a2.a a2.len a2.cap), (Value.slice s18.a s18.len s18.cap)] w fun r19 w20 =>
 ∃ r21 : Bool, r19 = (Value.bool r21) ∧
 (bif (!r21) then
 SubSl s17 3 (IntKind.i64.wrap (a1 + (a2.len : Int))) (s17.len : Int) fun s22 =>
 SubSl s17 3 a1 (s17.len : Int) fun s23 =>
 CopySl 3 s22 s23 w20.drew fun n24 w25 =>
 SubSl s17 3 a1 (s17.len : Int) fun s26 =>
 CopySl 3 s26 a2 w25 fun n27 w28 =>
 K s17 w28
 else
 SubSl s17 3 (a0.len : Int) (s17.len : Int) fun s29 =>
 CopySl 3 s29 a2 w20 fun n30 w31 =>
 SubSl s17 3 a1 (s17.len : Int) fun s32 =>
 c_slices_rotateRight_holes_piece s32 (a2.len : Int) w31 fun w33 =>
 K s17 w33)))))
theorem e_slices_Insert_holes_piece_holes_piece (a0 : SliceV) (a1 : Int) (a2 : SliceV) (w : World) (K : SliceV → World → Prop) : den Try.prog 95 (bodyOf Try.f47) none (.seq .leaf (.seq .leaf (.seq .leaf (.seq (.seq .leaf (.cond (.seq .leaf .leaf) .leaf)) (.seq .leaf (.seq (.seq .leaf (.cond (.seq .leaf .leaf) .leaf)) (.seq (.seq .leaf (.cond (.seq .leaf (.seq .leaf (.seq .leaf (.seq .leaf .leaf)))) .leaf)) (.seq .leaf (.seq (.seq .leaf (.cond (.seq .leaf (.seq .leaf (.seq .leaf .leaf))) .leaf)) (.seq .leaf (.seq .leaf (.seq .leaf .leaf)))))))))))) (argEnv 0 [(Value.slice a0.a a0.len a0.cap), (Value.int .i64 a1), (Value.slice a2.a a2.len a2.cap)]) [] w (retK Try.prog [.tmp 6] [.one .slice] K) = s_slices_Insert_holes_piece_holes_piece a0 a1 a2 w K := by kernel_rfl
theorem ok_slices_Insert_holes_piece_holes_piece {a0 a1 a2 w K} (h : s_slices_Insert_holes_piece_holes_piece a0 a1 a2 w K) : c_slices_Insert_holes_piece_holes_piece a0 a1 a2 w K :=
  fn_sound pok Try.func47 (fn := Try.f47) (c := bodyOf Try.f47) (nt := 95) (by kernel_rfl) (by kernel_rfl) (rs := [.tmp 6]) (by kernel_rfl) [.one .slice] K (.seq .leaf (.seq .leaf (.seq .leaf (.seq (.seq .leaf (.cond (.seq .leaf .leaf) .leaf)) (.seq .leaf (.seq (.seq .leaf (.cond (.seq .leaf .leaf) .leaf)) (.seq (.seq .leaf (.cond (.seq .leaf (.seq .leaf (.seq .leaf (.seq .leaf .leaf)))) .leaf)) (.seq .leaf (.seq (.seq .leaf (.cond (.seq .leaf (.seq .leaf (.seq .leaf .leaf))) .leaf)) (.seq .leaf (.seq .leaf (.seq .leaf .leaf)))))))))))) [(Value.slice a0.a a0.len a0.cap), (Value.int .i64 a1), (Value.slice a2.a a2.len a2.cap)] (by kernel_rfl) w ((e_slices_Insert_holes_piece_holes_piece a0 a1 a2 w K).mpr h)

/-- (goosepond/holes.piece).end -/
def s_holes_piece_end (a0_0 : Int) (a0_1 : Bool) (a0_2 : SliceV) (w : World) (K : Int → World → Prop) : Prop :=
 (Al w (.cells ⟨[(Value.int .i64 a0_0), (Value.bool a0_1), (Value.slice a0_2.a a0_2.len a0_2.cap)]⟩ 77) fun a3 w2 =>
 Ld (.int .i64) w2 a3 fun x4 =>
 Ld .slice w2 (a3.add 2) fun x5 =>
 K (IntKind.i64.wrap (x4 + (x5.len : Int))) w2)
theorem e_holes_piece_end (a0_0 : Int) (a0_1 : Bool) (a0_2 : SliceV) (w : World) (K : Int → World → Prop) : den Try.prog 9 (bodyOf Try.f48) none (.seq .leaf (.seq .leaf .leaf)) (argEnv 0 [(Value.agg ⟨[(Value.int .i64 a0_0), (Value.bool a0_1), (Value.slice a0_2.a a0_2.len a0_2.cap)]⟩)]) [] w (retK Try.prog [.tmp 2] [.one (.int .i64)] K) = s_holes_piece_end a0_0 a0_1 a0_2 w K := by kernel_rfl
theorem ok_holes_piece_end {a0_0 a0_1 a0_2 w K} (h : s_holes_piece_end a0_0 a0_1 a0_2 w K) : c_holes_piece_end a0_0 a0_1 a0_2 w K :=
  fn_sound pok Try.func48 (fn := Try.f48) (c := bodyOf Try.f48) (nt := 9) (by kernel_rfl) (by kernel_rfl) (rs := [.tmp 2]) (by kernel_rfl) [.one (.int .i64)] K (.seq .leaf (.seq .leaf .leaf)) [(Value.agg ⟨[(Value.int .i64 a0_0), (Value.bool a0_1), (Value.slice a0_2.a a0_2.len a0_2.cap)]⟩)] (by kernel_rfl) w ((e_holes_piece_end a0_0 a0_1 a0_2 w K).mpr h)

/-- (*goosepond/holes.Holes).Gaps -/
def s_holes_Holes_Gaps (a0 : Option Addr) (w : World) (K : Value → World → Prop) : Prop :=
 (isOne (Value.pointer a0) = true ∧
 Al w (.cells ⟨[(Value.pointer a0)]⟩ 57) fun a3 w2 =>
 K (Value.func (.func 63) #[] #[(Value.pointer (some a3))]) w2)
theorem e_holes_Holes_Gaps (a0 : Option Addr) (w : World) (K : Value → World → Prop) : den Try.prog 4 (bodyOf Try.f49) none (.seq .leaf (.seq .leaf .leaf)) (argEnv 0 [(Value.pointer a0)]) [] w (retK Try.prog [.tmp 2] [.one .any] K) = s_holes_Holes_Gaps a0 w K := by kernel_rfl
theorem ok_holes_Holes_Gaps {a0 w K} (h : s_holes_Holes_Gaps a0 w K) : c_holes_Holes_Gaps a0 w K :=
  fn_sound pok Try.func49 (fn := Try.f49) (c := bodyOf Try.f49) (nt := 4) (by kernel_rfl) (by kernel_rfl) (rs := [.tmp 2]) (by kernel_rfl) [.one .any] K (.seq .leaf (.seq .leaf .leaf)) [(Value.pointer a0)] (by kernel_rfl) w ((e_holes_Holes_Gaps a0 w K).mpr h)

/-- slices.pdqsortOrdered[string] -/
def s_slices_pdqsortOrdered_string (a0 : SliceV) (a1 : Int) (a2 : Int) (a3 : Int) (w : World) (K : World → Prop) : Prop :=
 (LoopP (S := Int × Int × Int × Bool × Bool × Unit) (fun s5 w6 next7 =>
 (bif (decide ((IntKind.i64.wrap (s5.2.1 - s5.1)) ≤ 12)) then
 c_slices_insertionSortOrdered_string a0 s5.1 s5.2.1 w6 fun w8 =>
 K w8
 else
 (bif (s5.2.2.1 == 0) then
 c_slices_heapSortOrdered_string a0 s5.1 s5.2.1 w6 fun w9 =>
 K w9
 else
 let J10 : Int → World → Prop := fun j11 w12 =>
 (c_slices_choosePivotOrdered_string a0 s5.1 s5.2.1 w12 fun r13 r14 w15 =>
 let J16 : Int → Int → World → Prop := fun j17 j18 w19 =>
 (let J20 : World → Prop := fun w21 =>
 (let J22 : Bool → World → Prop := fun j23 w24 =>
 ((bif j23 then
 c_slices_partitionEqualOrdered_string a0 s5.1 s5.2.1 j17 w24 fun r25 w26 =>
 next7 (r25, s5.2.1, j11, s5.2.2.2.1, s5.2.2.2.2.1, ()) w26
 else
 c_slices_partitionOrdered_string a0 s5.1 s5.2.1 j17 w24 fun r27 r28 w29 =>
 (8 : Int) ≠ 0 ∧
 (bif (decide ((IntKind.i64.wrap (r27 - s5.1)) < (IntKind.i64.wrap (s5.2.1 - r27)))) then
 c_slices_pdqsortOrdered_string a0 s5.1 r27 j11 w29 fun w30 =>
 next7 ((IntKind.i64.wrap (r27 + 1)), s5.2.1, j11, (decide ((IntKind.i64.wrap (r27 - s5.1)) ≥ (IntKind.i64.wrap (Int.tdiv (IntKind.i64.wrap (s5.2.1 - s5.1)) 8)))), r28, ()) w30
 else
 c_slices_pdqsortOrdered_string a0 (IntKind.i64.wrap (r27 + 1)) s5.2.1 j11 w29 fun w31 =>
 next7 (s5.1, r27, j11, (decide ((IntKind.i64.wrap (s5.2.1 - r27)) ≥ (IntKind.i64.wrap (Int.tdiv (IntKind.i64.wrap (s5.2.1 - s5.1)) 8)))), r28, ()) w31)))
 (bif (decide (s5.1 > 0)) then
 AtIx a0 1 (IntKind.i64.wrap (s5.1 - 1)) fun a32 =>
 Ld .str w21.drew a32 fun x33 =>
 AtIx a0 1 j17 fun a34 =>
 Ld .str w21.drew a34 fun x35 =>
 c_cmp_Less_string x33 x35 w21.drew fun r36 w37 =>
 J22 (!r36) w37
 else
 J22 false w21.drew))
 let J38 : Bool → Prop := fun j39 =>
 ((bif j39 then
 c_slices_partialInsertionSortOrdered_string a0 s5.1 s5.2.1 w19 fun r40 w41 =>
 (bif r40 then
 K w41
 else
 J20 w41)
 else
 J20 w19))
 (bif s5.2.2.2.1 then
 (bif s5.2.2.2.2.1 then
 J38 (j18 == 1)
 else
 J38 false)
 else
 J38 false))
 (bif (r14 == 2) then
 c_slices_reverseRangeOrdered_string a0 s5.1 s5.2.1 w15 fun w42 =>
 J16 (IntKind.i64.wrap ((IntKind.i64.wrap (s5.2.1 - 1)) - (IntKind.i64.wrap (r13 - s5.1)))) 1 w42
 else
 J16 r13 r14 w15))
 (bif (!s5.2.2.2.1) then
 c_slices_breakPatternsOrdered_string a0 s5.1 s5.2.1 w6 fun w43 =>
 J10 (IntKind.i64.wrap (s5.2.2.1 - 1)) w43
 else
 J10 s5.2.2.1 w6)))) (a1, a2, a3, true, true, ()) w)
theorem e_slices_pdqsortOrdered_string (a0 : SliceV) (a1 : Int) (a2 : Int) (a3 : Int) (w : World) (K : World → Prop) : den Try.prog 134 (bodyOf Try.f50) none (.seq .leaf (.seq .leaf (.blk (.loop [(1, (.int .i64)), (2, (.int .i64)), (3, (.int .i64)), (8, .bool), (9, .bool)] (.blk (.seq .leaf (.seq (.seq .leaf (.cond (.seq .leaf .leaf) .leaf)) (.seq (.seq .leaf (.cond (.seq .leaf .leaf) .leaf)) (.seq (.seq .leaf (.cond (.seq .leaf .leaf) .leaf)) (.seq .leaf (.seq (.seq .leaf (.cond (.seq .leaf (.seq .leaf .leaf)) .leaf)) (.seq (.seq .leaf (.cond (.seq .leaf (.cond .leaf .leaf)) .leaf)) (.seq (.seq .leaf (.cond (.seq .leaf (.seq .leaf .leaf)) .leaf)) (.seq .leaf (.seq .leaf (.seq .leaf (.seq .leaf (.seq .leaf (.cond (.seq .leaf (.seq .leaf .leaf)) (.seq .leaf (.seq .leaf .leaf))))))))))))))))))))) (argEnv 0 [(Value.slice a0.a a0.len a0.cap), (Value.int .i64 a1), (Value.int .i64 a2), (Value.int .i64 a3)]) [] w (retK Try.prog [] [] K) = s_slices_pdqsortOrdered_string a0 a1 a2 a3 w K := by kernel_rfl
theorem ok_slices_pdqsortOrdered_string {a0 a1 a2 a3 w K} (h : s_slices_pdqsortOrdered_string a0 a1 a2 a3 w K) : c_slices_pdqsortOrdered_string a0 a1 a2 a3 w K :=
  fn_sound pok Try.func50 (fn := Try.f50) (c := bodyOf Try.f50) (nt := 134) (by kernel_rfl) (by kernel_rfl) (rs := []) (by kernel_rfl) [] K (.seq .leaf (.seq .leaf (.blk (.loop [(1, (.int .i64)), (2, (.int .i64)), (3, (.int .i64)), (8, .bool), (9, .bool)] (.blk (.seq .leaf (.seq (.seq .leaf (.cond (.seq .leaf .leaf) .leaf)) (.seq (.seq .leaf (.cond (.seq .leaf .leaf) .leaf)) (.seq (.seq .leaf (.cond (.seq .leaf .leaf) .leaf)) (.seq .leaf (.seq (.seq .leaf (.cond (.seq .leaf (.seq .leaf .leaf)) .leaf)) (.seq (.seq .leaf (.cond (.seq .leaf (.cond .leaf .leaf)) .leaf)) (.seq (.seq .leaf (.cond (.seq .leaf (.seq .leaf .leaf)) .leaf)) (.seq .leaf (.seq .leaf (.seq .leaf (.seq .leaf (.seq .leaf (.cond (.seq .leaf (.seq .leaf .leaf)) (.seq .leaf (.seq .leaf .leaf))))))))))))))))))))) [(Value.slice a0.a a0.len a0.cap), (Value.int .i64 a1), (Value.int .i64 a2), (Value.int .i64 a3)] (by kernel_rfl) w ((e_slices_pdqsortOrdered_string a0 a1 a2 a3 w K).mpr h)

/-- math/bits.Len -/
def s_math_bits_Len (a0 : Int) (w : World) (K : Int → World → Prop) : Prop :=
 (c_math_bits_Len64 a0 w fun r2 w3 =>
 K r2 w3)
theorem e_math_bits_Len (a0 : Int) (w : World) (K : Int → World → Prop) : den Try.prog 8 (bodyOf Try.f51) none (.seq .leaf (.seq (.cond .leaf .leaf) (.seq .leaf .leaf))) (argEnv 0 [(Value.int .u64 a0)]) [] w (retK Try.prog [.tmp 2] [.one (.int .i64)] K) = s_math_bits_Len a0 w K := by kernel_rfl
theorem ok_math_bits_Len {a0 w K} (h : s_math_bits_Len a0 w K) : c_math_bits_Len a0 w K :=
  fn_sound pok Try.func51 (fn := Try.f51) (c := bodyOf Try.f51) (nt := 8) (by kernel_rfl) (by kernel_rfl) (rs := [.tmp 2]) (by kernel_rfl) [.one (.int .i64)] K (.seq .leaf (.seq (.cond .leaf .leaf) (.seq .leaf .leaf))) [(Value.int .u64 a0)] (by kernel_rfl) w ((e_math_bits_Len a0 w K).mpr h)

/-- (*goosepond/goosepondref15.Holes).same -/
def s_ref15_Holes_same (a0 : Option Addr) (a1 : Int) (a2 : Bool) (a3 : SliceV) (w : World) (K : Bool → World → Prop) : Prop :=
 (LoopP (S := Int × Unit) (fun s5 w6 next7 =>
 ∃ a8 : Addr, a0 = some a8 ∧
 Ld .slice w6 a8 fun x9 =>
 (bif (decide (s5.1 < (x9.len : Int))) then
 ∃ a10 : Addr, a0 = some a10 ∧
 Ld .slice w6 a10 fun x11 =>
 AtIx x11 3 s5.1 fun a12 =>
 Ld (.int .i64) w6 (a12.add 0) fun x13 =>
 Ld .bool w6 (a12.add 1) fun x14 =>
 Ld .slice w6 (a12.add 2) fun x15 =>
 Al w6 (.cells ⟨[(Value.int .i64 0), (Value.bool false), (Value.slice none 0 0)]⟩ 97) fun a17 w16 =>
 StN [(Value.int .i64 x13), (Value.bool x14), (Value.slice x15.a x15.len x15.cap)] w16 a17 0 fun w18 =>
 let J19 : Bool → Prop := fun j20 =>
 ((bif j20 then
 K true w18
 else
 next7 ((IntKind.i64.wrap (s5.1 + 1)), ()) w18))
 Ld (.int .i64) w18 a17 fun x21 =>
 (bif (x21 == a1) then
 Ld .bool w18 (a17.add 1) fun x22 =>
 (bif ((x22 : Bool) == a2) then
 Ld .slice w18 (a17.add 2) fun x23 =>
 BytesStr w18 x23 fun b24 =>
 BytesStr w18 a3 fun b25 =>
 J19 (strEq b24 b25)
 else
 J19 false)
 else
 J19 false)
 else
 K false w6)) (0, ()) w)
theorem e_ref15_Holes_same (a0 : Option Addr) (a1 : Int) (a2 : Bool) (a3 : SliceV) (w : World) (K : Bool → World → Prop) : den Try.prog 45 (bodyOf Try.f52) none (.seq .leaf (.seq (.seq .leaf (.blk (.loop [(9, (.int .i64))] (.seq (.seq .leaf (.cond .leaf .leaf)) (.seq (.blk (.seq .leaf (.seq .leaf (.cond (.seq .leaf .leaf) .leaf)))) .leaf))))) (.seq .leaf .leaf))) (argEnv 0 [(Value.pointer a0), (Value.int .i64 a1), (Value.bool a2), (Value.slice a3.a a3.len a3.cap)]) [] w (retK Try.prog [.tmp 8] [.one .bool] K) = s_ref15_Holes_same a0 a1 a2 a3 w K := by kernel_rfl
theorem ok_ref15_Holes_same {a0 a1 a2 a3 w K} (h : s_ref15_Holes_same a0 a1 a2 a3 w K) : c_ref15_Holes_same a0 a1 a2 a3 w K :=
  fn_sound pok Try.func52 (fn := Try.f52) (c := bodyOf Try.f52) (nt := 45) (by kernel_rfl) (by kernel_rfl) (rs := [.tmp 8]) (by kernel_rfl) [.one .bool] K (.seq .leaf (.seq (.seq .leaf (.blk (.loop [(9, (.int .i64))] (.seq (.seq .leaf (.cond .leaf .leaf)) (.seq (.blk (.seq .leaf (.seq .leaf (.cond (.seq .leaf .leaf) .leaf)))) .leaf))))) (.seq .leaf .leaf))) [(Value.pointer a0), (Value.int .i64 a1), (Value.bool a2), (Value.slice a3.a a3.len a3.cap)] (by kernel_rfl) w ((e_ref15_Holes_same a0 a1 a2 a3 w K).mpr h)

/-- (*goosepond/goosepondref15.Holes).shares -/
def s_ref15_Holes_shares (a0 : Option Addr) (a1 : Int) (a2 : SliceV) (w : World) (K : Bool → World → Prop) : Prop :=
 (LoopP (S := Int × Unit) (fun s4 w5 next6 =>
 ∃ a7 : Addr, a0 = some a7 ∧
 Ld .slice w5 a7 fun x8 =>
 (bif (decide (s4.1 < (x8.len : Int))) then
 ∃ a9 : Addr, a0 = some a9 ∧
 Ld .slice w5 a9 fun x10 =>
 AtIx x10 3 s4.1 fun a11 =>
 Ld (.int .i64) w5 (a11.add 0) fun x12 =>
 Ld .bool w5 (a11.add 1) fun x13 =>
 Ld .slice w5 (a11.add 2) fun x14 =>
 Al w5 (.cells ⟨[(Value.int .i64 0), (Value.bool false), (Value.slice none 0 0)]⟩ 97) fun a16 w15 =>
 StN [(Value.int .i64 x12), (Value.bool x13), (Value.slice x14.a x14.len x14.cap)] w15 a16 0 fun w17 =>
 let J18 : Bool → Prop := fun j19 =>
 (JoinP (S := (Bool × Unit) × World) (fun s20 =>
 (bif s20.1.1 then
 K true s20.2
 else
 next6 ((IntKind.i64.wrap (s4.1 + 1)), ()) s20.2)) fun J21 =>
 (bif j19 then
 Ld (.int .i64) w17 a16 fun x22 =>
 (bif (decide (x22 < (IntKind.i64.wrap (a1 + (a2.len : Int))))) then
 Ld (.int .i64) w17 a16 fun x23 =>
 Ld .slice w17 (a16.add 2) fun x24 =>
 (bif (decide (a1 < (IntKind.i64.wrap (x23 + (x24.len : Int))))) then
 J21 ((true, ()), w17)
 else
 Ld (.int .i64) w17 a16 fun x25 =>
 (bif (x25 == a1) then
 Ld .slice w17 (a16.add 2) fun x26 =>
 (bif ((x26.len : Int) == 0) then
 J21 ((((a2.len : Int) == 0), ()), w17)
 else
 J21 ((false, ()), w17))
 else
 J21 ((false, ()), w17)))
 else
 Ld (.int .i64) w17 a16 fun x27 =>
 (bif (x27 == a1) then
 Ld .slice w17 (a16.add 2) fun x28 =>
 (bif ((x28.len : Int) == 0) then
 J21 ((((a2.len : Int) == 0), ()), w17)
 else
 J21 ((false, ()), w17))
 else
 J21 ((false, ()), w17)))
 else
 Ld (.int .i64) w17 a16 fun x29 =>
 (bif (x29 == a1) then
 Ld .slice w17 (a16.add 2) fun x30 =>
 (bif ((x30.len : Int) == 0) then
 J21 ((((a2.len : Int) == 0), ()), w17)
 else
 J21 ((false, ()), w17))
 else
 J21 ((false, ()), w17))))
 Ld .slice w17 (a16.add 2) fun x31 =>
 (bif (decide ((x31.len : Int) > 0)) then
 J18 (decide ((a2.len : Int) > 0))
 else
 J18 false)
 else
 K false w5)) (0, ()) w)
theorem e_ref15_Holes_shares (a0 : Option Addr) (a1 : Int) (a2 : SliceV) (w : World) (K : Bool → World → Prop) : den Try.prog 72 (bodyOf Try.f53) none (.seq .leaf (.seq (.seq .leaf (.blk (.loop [(7, (.int .i64))] (.seq (.seq .leaf (.cond .leaf .leaf)) (.seq (.blk (.seq .leaf (.seq .leaf (.join [(71, .sh (.one .bool))] .leaf (.cond (.seq .leaf .leaf) .leaf))))) .leaf))))) (.seq .leaf .leaf))) (argEnv 0 [(Value.pointer a0), (Value.int .i64 a1), (Value.slice a2.a a2.len a2.cap)]) [] w (retK Try.prog [.tmp 6] [.one .bool] K) = s_ref15_Holes_shares a0 a1 a2 w K := by kernel_rfl
theorem ok_ref15_Holes_shares {a0 a1 a2 w K} (h : s_ref15_Holes_shares a0 a1 a2 w K) : c_ref15_Holes_shares a0 a1 a2 w K :=
  fn_sound pok Try.func53 (fn := Try.f53) (c := bodyOf Try.f53) (nt := 72) (by kernel_rfl) (by kernel_rfl) (rs := [.tmp 6]) (by kernel_rfl) [.one .bool] K (.seq .leaf (.seq (.seq .leaf (.blk (.loop [(7, (.int .i64))] (.seq (.seq .leaf (.cond .leaf .leaf)) (.seq (.blk (.seq .leaf (.seq .leaf (.join [(71, .sh (.one .bool))] .leaf (.cond (.seq .leaf .leaf) .leaf))))) .leaf))))) (.seq .leaf .leaf))) [(Value.pointer a0), (Value.int .i64 a1), (Value.slice a2.a a2.len a2.cap)] (by kernel_rfl) w ((e_ref15_Holes_shares a0 a1 a2 w K).mpr h)

/-- (*goosepond/goosepondref15.Holes).end -/
def s_ref15_Holes_end (a0 : Option Addr) (w : World) (K : Int → World → Prop) : Prop :=
 (LoopP (S := Int × Unit) (fun s2 w3 next4 =>
 ∃ a5 : Addr, a0 = some a5 ∧
 Ld .slice w3 a5 fun x6 =>
 (bif (decide (s2.1 < (x6.len : Int))) then
 ∃ a7 : Addr, a0 = some a7 ∧
 Ld .slice w3 a7 fun x8 =>
 AtIx x8 3 s2.1 fun a9 =>
 Ld .bool w3 (a9.add 1) fun x10 =>
 (bif (!x10) then
 ∃ a11 : Addr, a0 = some a11 ∧
 Ld .slice w3.drew a11 fun x12 =>
 AtIx x12 3 s2.1 fun a13 =>
 Ld (.int .i64) w3.drew a13 fun x14 =>
 ∃ a15 : Addr, a0 = some a15 ∧
 Ld .slice w3.drew a15 fun x16 =>
 AtIx x16 3 s2.1 fun a17 =>
 Ld .slice w3.drew (a17.add 2) fun x18 =>
 K (IntKind.i64.wrap (x14 + (x18.len : Int))) w3.drew
 else
 next4 ((IntKind.i64.wrap (s2.1 + 1)), ()) w3)
 else
 K (-1) w3)) (0, ()) w)
theorem e_ref15_Holes_end (a0 : Option Addr) (w : World) (K : Int → World → Prop) : den Try.prog 40 (bodyOf Try.f54) none (.seq .leaf (.seq (.seq .leaf (.blk (.loop [(3, (.int .i64))] (.seq (.seq .leaf (.cond .leaf .leaf)) (.seq (.blk (.seq .leaf (.cond (.seq .leaf .leaf) .leaf))) .leaf))))) (.seq .leaf .leaf))) (argEnv 0 [(Value.pointer a0)]) [] w (retK Try.prog [.tmp 2] [.one (.int .i64)] K) = s_ref15_Holes_end a0 w K := by kernel_rfl
theorem ok_ref15_Holes_end {a0 w K} (h : s_ref15_Holes_end a0 w K) : c_ref15_Holes_end a0 w K :=
  fn_sound pok Try.func54 (fn := Try.f54) (c := bodyOf Try.f54) (nt := 40) (by kernel_rfl) (by kernel_rfl) (rs := [.tmp 2]) (by kernel_rfl) [.one (.int .i64)] K (.seq .leaf (.seq (.seq .leaf (.blk (.loop [(3, (.int .i64))] (.seq (.seq .leaf (.cond .leaf .leaf)) (.seq (.blk (.seq .leaf (.cond (.seq .leaf .leaf) .leaf))) .leaf))))) (.seq .leaf .leaf))) [(Value.pointer a0)] (by kernel_rfl) w ((e_ref15_Holes_end a0 w K).mpr h)

/-- (*goosepond/goosepondref15.Holes).Far -/
def s_ref15_Holes_Far (a0 : Option Addr) (w : World) (K : Int → World → Prop) : Prop :=
 (LoopP (S := Int × Int × Unit) (fun s2 w3 next4 =>
 ∃ a5 : Addr, a0 = some a5 ∧
 Ld .slice w3 a5 fun x6 =>
 (bif (decide (s2.2.1 < (x6.len : Int))) then
 ∃ a7 : Addr, a0 = some a7 ∧
 Ld .slice w3.drew a7 fun x8 =>
 AtIx x8 3 s2.2.1 fun a9 =>
 Ld (.int .i64) w3.drew a9 fun x10 =>
 ∃ a11 : Addr, a0 = some a11 ∧
 Ld .slice w3.drew a11 fun x12 =>
 AtIx x12 3 s2.2.1 fun a13 =>
 Ld .slice w3.drew (a13.add 2) fun x14 =>
 next4 ((if (IntKind.i64.wrap (x10 + (x14.len : Int))) > s2.1 then (IntKind.i64.wrap (x10 + (x14.len : Int))) else s2.1), (IntKind.i64.wrap (s2.2.1 + 1)), ()) w3.drew
 else
 K s2.1 w3)) (0, 0, ()) w)
theorem e_ref15_Holes_Far (a0 : Option Addr) (w : World) (K : Int → World → Prop) : den Try.prog 35 (bodyOf Try.f55) none (.seq .leaf (.seq .leaf (.seq (.seq .leaf (.blk (.loop [(3, (.int .i64)), (4, (.int .i64))] (.seq (.seq .leaf (.cond .leaf .leaf)) (.seq (.blk .leaf) .leaf))))) (.seq .leaf .leaf)))) (argEnv 0 [(Value.pointer a0)]) [] w (retK Try.prog [.tmp 2] [.one (.int .i64)] K) = s_ref15_Holes_Far a0 w K := by kernel_rfl
theorem ok_ref15_Holes_Far {a0 w K} (h : s_ref15_Holes_Far a0 w K) : c_ref15_Holes_Far a0 w K :=
  fn_sound pok Try.func55 (fn := Try.f55) (c := bodyOf Try.f55) (nt := 35) (by kernel_rfl) (by kernel_rfl) (rs := [.tmp 2]) (by kernel_rfl) [.one (.int .i64)] K (.seq .leaf (.seq .leaf (.seq (.seq .leaf (.blk (.loop [(3, (.int .i64)), (4, (.int .i64))] (.seq (.seq .leaf (.cond .leaf .leaf)) (.seq (.blk .leaf) .leaf))))) (.seq .leaf .leaf)))) [(Value.pointer a0)] (by kernel_rfl) w ((e_ref15_Holes_Far a0 w K).mpr h)

/-- slices.ContainsFunc[[]goosepond/holes.piece,goosepond/holes.piece] -/
def s_slices_ContainsFunc_holes_piece_holes_piece (a0 : SliceV) (a1 : Value) (w : World) (K : Bool → World → Prop) : Prop :=
 (c_slices_IndexFunc_holes_piece_holes_piece a0 a1 w fun r3 w4 =>
 K (decide (r3 ≥ 0)) w4)
theorem e_slices_ContainsFunc_holes_piece_holes_piece (a0 : SliceV) (a1 : Value) (w : World) (K : Bool → World → Prop) : den Try.prog 9 (bodyOf Try.f56) none (.seq .leaf (.seq .leaf .leaf)) (argEnv 0 [(Value.slice a0.a a0.len a0.cap), a1]) [] w (retK Try.prog [.tmp 4] [.one .bool] K) = s_slices_ContainsFunc_holes_piece_holes_piece a0 a1 w K := by kernel_rfl
theorem ok_slices_ContainsFunc_holes_piece_holes_piece {a0 a1 w K} (h : s_slices_ContainsFunc_holes_piece_holes_piece a0 a1 w K) : c_slices_ContainsFunc_holes_piece_holes_piece a0 a1 w K :=
  fn_sound pok Try.func56 (fn := Try.f56) (c := bodyOf Try.f56) (nt := 9) (by kernel_rfl) (by kernel_rfl) (rs := [.tmp 4]) (by kernel_rfl) [.one .bool] K (.seq .leaf (.seq .leaf .leaf)) [(Value.slice a0.a a0.len a0.cap), a1] (by kernel_rfl) w ((e_slices_ContainsFunc_holes_piece_holes_piece a0 a1 w K).mpr h)

/-- (goosepond/holes.piece).is -/
def s_holes_piece_is (a0_0 : Int) (a0_1 : Bool) (a0_2 : SliceV) (a1_0 : Int) (a1_1 : Bool) (a1_2 : SliceV) (w : World) (K : Bool → World → Prop) : Prop :=
 (Al w (.cells ⟨[(Value.int .i64 a0_0), (Value.bool a0_1), (Value.slice a0_2.a a0_2.len a0_2.cap)]⟩ 77) fun a4 w3 =>
 Al w3 (.cells ⟨[(Value.int .i64 a1_0), (Value.bool a1_1), (Value.slice a1_2.a a1_2.len a1_2.cap)]⟩ 77) fun a6 w5 =>
 let J7 : Bool → World → Prop := fun j8 w9 =>
 (K j8 w9)
 Ld (.int .i64) w5 a4 fun x10 =>
 Ld (.int .i64) w5 a6 fun x11 =>
 (bif (x10 == x11) then
 Ld .bool w5 (a4.add 1) fun x12 =>
 Ld .bool w5 (a6.add 1) fun x13 =>
 (bif ((x12 : Bool) == x13) then
 Ld .slice w5 (a4.add 2) fun x14 =>
 Ld .slice w5 (a6.add 2) fun x15 =>
 c_bytes_Equal x14 x15 w5 fun r16 w17 =>
 J7 r16 w17
 else
 J7 false w5)
 else
 J7 false w5))
theorem e_holes_piece_is (a0_0 : Int) (a0_1 : Bool) (a0_2 : SliceV) (a1_0 : Int) (a1_1 : Bool) (a1_2 : SliceV) (w : World) (K : Bool → World → Prop) : den Try.prog 24 (bodyOf Try.f57) none (.seq .leaf (.seq .leaf .leaf)) (argEnv 0 [(Value.agg ⟨[(Value.int .i64 a0_0), (Value.bool a0_1), (Value.slice a0_2.a a0_2.len a0_2.cap)]⟩), (Value.agg ⟨[(Value.int .i64 a1_0), (Value.bool a1_1), (Value.slice a1_2.a a1_2.len a1_2.cap)]⟩)]) [] w (retK Try.prog [.tmp 4] [.one .bool] K) = s_holes_piece_is a0_0 a0_1 a0_2 a1_0 a1_1 a1_2 w K := by kernel_rfl
theorem ok_holes_piece_is {a0_0 a0_1 a0_2 a1_0 a1_1 a1_2 w K} (h : s_holes_piece_is a0_0 a0_1 a0_2 a1_0 a1_1 a1_2 w K) : c_holes_piece_is a0_0 a0_1 a0_2 a1_0 a1_1 a1_2 w K :=
  fn_sound pok Try.func57 (fn := Try.f57) (c := bodyOf Try.f57) (nt := 24) (by kernel_rfl) (by kernel_rfl) (rs := [.tmp 4]) (by kernel_rfl) [.one .bool] K (.seq .leaf (.seq .leaf .leaf)) [(Value.agg ⟨[(Value.int .i64 a0_0), (Value.bool a0_1), (Value.slice a0_2.a a0_2.len a0_2.cap)]⟩), (Value.agg ⟨[(Value.int .i64 a1_0), (Value.bool a1_1), (Value.slice a1_2.a a1_2.len a1_2.cap)]⟩)] (by kernel_rfl) w ((e_holes_piece_is a0_0 a0_1 a0_2 a1_0 a1_1 a1_2 w K).mpr h)

/-- (*goosepond/holes.Holes).far -/
def s_holes_Holes_far (a0 : Option Addr) (w : World) (K : Int → World → Prop) : Prop :=
 (∃ a2 : Addr, a0 = some a2 ∧
 Ld .slice w a2 fun x3 =>
 LoopP (S := Int × Int × Unit) (fun s4 w5 next6 =>
 (bif (decide (s4.2.1 < (x3.len : Int))) then
 AtIx x3 3 s4.2.1 fun a7 =>
 Ld (.int .i64) w5 (a7.add 0) fun x8 =>
 Ld .bool w5 (a7.add 1) fun x9 =>
 Ld .slice w5 (a7.add 2) fun x10 =>
 Al w5 (.cells ⟨[(Value.int .i64 0), (Value.bool false), (Value.slice none 0 0)]⟩ 77) fun a12 w11 =>
 StN [(Value.int .i64 x8), (Value.bool x9), (Value.slice x10.a x10.len x10.cap)] w11 a12 0 fun w13 =>
 Ld (.int .i64) w13 (a12.add 0) fun x14 =>
 Ld .bool w13 (a12.add 1) fun x15 =>
 Ld .slice w13 (a12.add 2) fun x16 =>
 c_holes_piece_end x14 x15 x16 w13 fun r17 w18 =>
 next6 ((if r17 > s4.1 then r17 else s4.1), (IntKind.i64.wrap (s4.2.1 + 1)), ()) w18
 else
 K s4.1 w5)) (0, 0, ()) w)
theorem e_holes_Holes_far (a0 : Option Addr) (w : World) (K : Int → World → Prop) : den Try.prog 21 (bodyOf Try.f58) none (.seq .leaf (.seq .leaf (.seq (.seq .leaf (.blk (.loop [(3, (.int .i64)), (11, (.int .i64))] (.seq .leaf (.seq (.cond .leaf .leaf) (.seq (.blk (.seq .leaf .leaf)) .leaf)))))) (.seq .leaf .leaf)))) (argEnv 0 [(Value.pointer a0)]) [] w (retK Try.prog [.tmp 2] [.one (.int .i64)] K) = s_holes_Holes_far a0 w K := by kernel_rfl
theorem ok_holes_Holes_far {a0 w K} (h : s_holes_Holes_far a0 w K) : c_holes_Holes_far a0 w K :=
  fn_sound pok Try.func58 (fn := Try.f58) (c := bodyOf Try.f58) (nt := 21) (by kernel_rfl) (by kernel_rfl) (rs := [.tmp 2]) (by kernel_rfl) [.one (.int .i64)] K (.seq .leaf (.seq .leaf (.seq (.seq .leaf (.blk (.loop [(3, (.int .i64)), (11, (.int .i64))] (.seq .leaf (.seq (.cond .leaf .leaf) (.seq (.blk (.seq .leaf .leaf)) .leaf)))))) (.seq .leaf .leaf)))) [(Value.pointer a0)] (by kernel_rfl) w ((e_holes_Holes_far a0 w K).mpr h)

/-- cmp.Or[int] -/
def s_cmp_Or_int (a0 : SliceV) (w : World) (K : Int → World → Prop) : Prop :=
 (LoopP (S := Int × Unit) (fun s2 w3 next4 =>
 (bif (decide (s2.1 < (a0.len : Int))) then
 AtIx a0 1 s2.1 fun a5 =>
 Ld (.int .i64) w3 a5 fun x6 =>
 (bif (x6 != 0) then
 K x6 w3
 else
 next4 ((IntKind.i64.wrap (s2.1 + 1)), ()) w3)
 else
 K 0 w3)) (0, ()) w)
theorem e_cmp_Or_int (a0 : SliceV) (w : World) (K : Int → World → Prop) : den Try.prog 18 (bodyOf Try.f59) none (.seq .leaf (.seq .leaf (.seq (.seq .leaf (.blk (.loop [(8, (.int .i64))] (.seq .leaf (.seq (.cond .leaf .leaf) (.seq (.blk (.seq .leaf (.seq .leaf (.cond (.seq .leaf .leaf) .leaf)))) .leaf)))))) (.seq .leaf .leaf)))) (argEnv 0 [(Value.slice a0.a a0.len a0.cap)]) [] w (retK Try.prog [.tmp 2] [.one (.int .i64)] K) = s_cmp_Or_int a0 w K := by kernel_rfl
theorem ok_cmp_Or_int {a0 w K} (h : s_cmp_Or_int a0 w K) : c_cmp_Or_int a0 w K :=
  fn_sound pok Try.func59 (fn := Try.f59) (c := bodyOf Try.f59) (nt := 18) (by kernel_rfl) (by kernel_rfl) (rs := [.tmp 2]) (by kernel_rfl) [.one (.int .i64)] K (.seq .leaf (.seq .leaf (.seq (.seq .leaf (.blk (.loop [(8, (.int .i64))] (.seq .leaf (.seq (.cond .leaf .leaf) (.seq (.blk (.seq .leaf (.seq .leaf (.cond (.seq .leaf .leaf) .leaf)))) .leaf)))))) (.seq .leaf .leaf)))) [(Value.slice a0.a a0.len a0.cap)] (by kernel_rfl) w ((e_cmp_Or_int a0 w K).mpr h)

/-- cmp.Compare[int] -/
def s_cmp_Compare_int (a0 : Int) (a1 : Int) (w : World) (K : Int → World → Prop) : Prop :=
 (c_cmp_isNaN_int a0 w fun r3 w4 =>
 c_cmp_isNaN_int a1 w4 fun r5 w6 =>
 (bif r3 then
 (bif r5 then
 K 0 w6
 else
 K (-1) w6)
 else
 (bif r5 then
 K 1 w6
 else
 (bif (decide (a0 < a1)) then
 K (-1) w6
 else
 (bif (decide (a0 > a1)) then
 K 1 w6
 else
 K 0 w6)))))
theorem e_cmp_Compare_int (a0 : Int) (a1 : Int) (w : World) (K : Int → World → Prop) : den Try.prog 20 (bodyOf Try.f60) none (.seq .leaf (.seq .leaf (.seq .leaf (.seq (.seq .leaf (.cond (.seq (.seq .leaf (.cond (.seq .leaf .leaf) .leaf)) (.seq .leaf .leaf)) .leaf)) (.seq (.seq .leaf (.cond (.seq .leaf .leaf) .leaf)) (.seq (.seq .leaf (.cond (.seq .leaf .leaf) .leaf)) (.seq (.seq .leaf (.cond (.seq .leaf .leaf) .leaf)) (.seq .leaf .leaf)))))))) (argEnv 0 [(Value.int .i64 a0), (Value.int .i64 a1)]) [] w (retK Try.prog [.tmp 4] [.one (.int .i64)] K) = s_cmp_Compare_int a0 a1 w K := by kernel_rfl
theorem ok_cmp_Compare_int {a0 a1 w K} (h : s_cmp_Compare_int a0 a1 w K) : c_cmp_Compare_int a0 a1 w K :=
  fn_sound pok Try.func60 (fn := Try.f60) (c := bodyOf Try.f60) (nt := 20) (by kernel_rfl) (by kernel_rfl) (rs := [.tmp 4]) (by kernel_rfl) [.one (.int .i64)] K (.seq .leaf (.seq .leaf (.seq .leaf (.seq (.seq .leaf (.cond (.seq (.seq .leaf (.cond (.seq .leaf .leaf) .leaf)) (.seq .leaf .leaf)) .leaf)) (.seq (.seq .leaf (.cond (.seq .leaf .leaf) .leaf)) (.seq (.seq .leaf (.cond (.seq .leaf .leaf) .leaf)) (.seq (.seq .leaf (.cond (.seq .leaf .leaf) .leaf)) (.seq .leaf .leaf)))))))) [(Value.int .i64 a0), (Value.int .i64 a1)] (by kernel_rfl) w ((e_cmp_Compare_int a0 a1 w K).mpr h)

/-- slices.rotateRight[goosepond/holes.piece] -/
def s_slices_rotateRight_holes_piece (a0 : SliceV) (a1 : Int) (w : World) (K : World → Prop) : Prop :=
 (c_slices_rotateLeft_holes_piece a0 (IntKind.i64.wrap ((a0.len : Int) - a1)) w fun w3 =>
 K w3)
theorem e_slices_rotateRight_holes_piece (a0 : SliceV) (a1 : Int) (w : World) (K : World → Prop) : den Try.prog 10 (bodyOf Try.f62) none .leaf (argEnv 0 [(Value.slice a0.a a0.len a0.cap), (Value.int .i64 a1)]) [] w (retK Try.prog [] [] K) = s_slices_rotateRight_holes_piece a0 a1 w K := by kernel_rfl
theorem ok_slices_rotateRight_holes_piece {a0 a1 w K} (h : s_slices_rotateRight_holes_piece a0 a1 w K) : c_slices_rotateRight_holes_piece a0 a1 w K :=
  fn_sound pok Try.func62 (fn := Try.f62) (c := bodyOf Try.f62) (nt := 10) (by kernel_rfl) (by kernel_rfl) (rs := []) (by kernel_rfl) [] K .leaf [(Value.slice a0.a a0.len a0.cap), (Value.int .i64 a1)] (by kernel_rfl) w ((e_slices_rotateRight_holes_piece a0 a1 w K).mpr h)

/-- (*goosepond/holes.Holes).Gaps$1 -/
def s_holes_Holes_Gaps_1 (a0 : Value) (f0 : Addr) (w : World) (K : World → Prop) : Prop :=
 (Ld .ptr w f0 fun x2 =>
 c_holes_Holes_ready x2 w fun r3 w4 =>
 (bif (!r3) then
 K w4
 else
 Ld .ptr w4 f0 fun x5 =>
 ∃ a6 : Addr, x5 = some a6 ∧
 Ld .slice w4 a6 fun x7 =>
 LoopP (S := Int × Int × Unit) (fun s8 w9 next10 =>
 (bif (decide (s8.2.1 < (x7.len : Int))) then
 AtIx x7 3 s8.2.1 fun a11 =>
 Ld (.int .i64) w9 (a11.add 0) fun x12 =>
 Ld .bool w9 (a11.add 1) fun x13 =>
 Ld .slice w9 (a11.add 2) fun x14 =>
 Al w9 (.cells ⟨[(Value.int .i64 0), (Value.bool false), (Value.slice none 0 0)]⟩ 77) fun a16 w15 =>
 StN [(Value.int .i64 x12), (Value.bool x13), (Value.slice x14.a x14.len x14.cap)] w15 a16 0 fun w17 =>
 let J18 : Bool → World → Prop := fun j19 w20 =>
 ((bif j19 then
 K w20
 else
 Ld (.int .i64) w20 (a16.add 0) fun x21 =>
 Ld .bool w20 (a16.add 1) fun x22 =>
 Ld .slice w20 (a16.add 2) fun x23 =>
 c_holes_piece_end x21 x22 x23 w20 fun r24 w25 =>
 next10 ((if r24 > s8.1 then r24 else s8.1), (IntKind.i64.wrap (s8.2.1 + 1)), ()) w25))
 Ld (.int .i64) w17 a16 fun x26 =>
 (bif (decide (x26 > s8.1)) then
 Ld (.int .i64) w17 a16 fun x27 =>
 CallV Try.prog [.one .bool] a0 [(Value.int .i64 s8.1), (Value.int .i64 x27)] w17 fun r28 w29 =>
 ∃ r30 : Bool, r28 = (Value.bool r30) ∧
 J18 (!r30) w29
 else
 J18 false w17)
 else
 Ld .ptr w9 f0 fun x31 =>
 ∃ a32 : Addr, x31 = some a32 ∧
 Ld (.int .i64) w9 (a32.add 2) fun x33 =>
 (bif (decide (x33 > s8.1)) then
 Ld .ptr w9 f0 fun x34 =>
 ∃ a35 : Addr, x34 = some a35 ∧
 Ld (.int .i64) w9 (a35.add 2) fun x36 =>
 CallV Try.prog [.one .bool] a0 [(Value.int .i64 s8.1), (Value.int .i64 x36)] w9 fun r37 w38 =>
 ∃ r39 : Bool, r37 = (Value.bool r39) ∧
 K w38
 else
 K w9))) (0, 0, ()) w4))
theorem e_holes_Holes_Gaps_1 (a0 : Value) (f0 : Addr) (w : World) (K : World → Prop) : den Try.prog 48 (bodyOf Try.f63) none (.seq (.seq .leaf (.cond .leaf .leaf)) (.seq .leaf (.seq (.seq .leaf (.blk (.loop [(3, (.int .i64)), (14, (.int .i64))] (.seq .leaf (.seq (.cond .leaf .leaf) (.seq (.blk (.seq .leaf (.seq (.seq .leaf (.cond .leaf .leaf)) .leaf))) .leaf)))))) (.seq .leaf (.cond .leaf .leaf))))) (argEnv 0 [a0, (Value.pointer (some f0))]) [] w (retK Try.prog [] [] K) = s_holes_Holes_Gaps_1 a0 f0 w K := by kernel_rfl
theorem ok_holes_Holes_Gaps_1 {a0 f0 w K} (h : s_holes_Holes_Gaps_1 a0 f0 w K) : c_holes_Holes_Gaps_1 a0 f0 w K :=
  fn_sound pok Try.func63 (fn := Try.f63) (c := bodyOf Try.f63) (nt := 48) (by kernel_rfl) (by kernel_rfl) (rs := []) (by kernel_rfl) [] K (.seq (.seq .leaf (.cond .leaf .leaf)) (.seq .leaf (.seq (.seq .leaf (.blk (.loop [(3, (.int .i64)), (14, (.int .i64))] (.seq .leaf (.seq (.cond .leaf .leaf) (.seq (.blk (.seq .leaf (.seq (.seq .leaf (.cond .leaf .leaf)) .leaf))) .leaf)))))) (.seq .leaf (.cond .leaf .leaf))))) [a0, (Value.pointer (some f0))] (by kernel_rfl) w ((e_holes_Holes_Gaps_1 a0 f0 w K).mpr h)

/-- slices.insertionSortOrdered[string] -/
def s_slices_insertionSortOrdered_string (a0 : SliceV) (a1 : Int) (a2 : Int) (w : World) (K : World → Prop) : Prop :=
 (LoopP (S := Int × Unit) (fun s4 w5 next6 =>
 (bif (decide (s4.1 < a2)) then
 LoopP (S := Int × Unit) (fun s7 w8 next9 =>
 let J10 : Bool → World → Prop := fun j11 w12 =>
 ((bif j11 then
 AtIx a0 1 (IntKind.i64.wrap (s7.1 - 1)) fun a13 =>
 Ld .str w12.drew a13 fun x14 =>
 AtIx a0 1 s7.1 fun a15 =>
 Ld .str w12.drew a15 fun x16 =>
 AtIx a0 1 s7.1 fun a17 =>
 St w12.drew a17 (Value.string x14) fun w18 =>
 AtIx a0 1 (IntKind.i64.wrap (s7.1 - 1)) fun a19 =>
 St w18 a19 (Value.string x16) fun w20 =>
 next9 ((IntKind.i64.wrap (s7.1 - 1)), ()) w20
 else
 next6 ((IntKind.i64.wrap (s4.1 + 1)), ()) w12))
 (bif (decide (s7.1 > a1)) then
 AtIx a0 1 s7.1 fun a21 =>
 Ld .str w8.drew a21 fun x22 =>
 AtIx a0 1 (IntKind.i64.wrap (s7.1 - 1)) fun a23 =>
 Ld .str w8.drew a23 fun x24 =>
 c_cmp_Less_string x22 x24 w8.drew fun r25 w26 =>
 J10 r25 w26
 else
 J10 false w8.drew)) (s4.1, ()) w5
 else
 K w5)) ((IntKind.i64.wrap (a1 + 1)), ()) w)
theorem e_slices_insertionSortOrdered_string (a0 : SliceV) (a1 : Int) (a2 : Int) (w : World) (K : World → Prop) : den Try.prog 49 (bodyOf Try.f64) none (.seq .leaf (.blk (.loop [(6, (.int .i64))] (.seq (.seq .leaf (.cond .leaf .leaf)) (.seq (.blk (.seq .leaf (.blk (.loop [(7, (.int .i64))] (.seq (.seq .leaf (.cond .leaf .leaf)) (.seq (.blk .leaf) .leaf)))))) .leaf))))) (argEnv 0 [(Value.slice a0.a a0.len a0.cap), (Value.int .i64 a1), (Value.int .i64 a2)]) [] w (retK Try.prog [] [] K) = s_slices_insertionSortOrdered_string a0 a1 a2 w K := by kernel_rfl
theorem ok_slices_insertionSortOrdered_string {a0 a1 a2 w K} (h : s_slices_insertionSortOrdered_string a0 a1 a2 w K) : c_slices_insertionSortOrdered_string a0 a1 a2 w K :=
  fn_sound pok Try.func64 (fn := Try.f64) (c := bodyOf Try.f64) (nt := 49) (by kernel_rfl) (by kernel_rfl) (rs := []) (by kernel_rfl) [] K (.seq .leaf (.blk (.loop [(6, (.int .i64))] (.seq (.seq .leaf (.cond .leaf .leaf)) (.seq (.blk (.seq .leaf (.blk (.loop [(7, (.int .i64))] (.seq (.seq .leaf (.cond .leaf .leaf)) (.seq (.blk .leaf) .leaf)))))) .leaf))))) [(Value.slice a0.a a0.len a0.cap), (Value.int .i64 a1), (Value.int .i64 a2)] (by kernel_rfl) w ((e_slices_insertionSortOrdered_string a0 a1 a2 w K).mpr h)

/-- slices.heapSortOrdered[string] -/
def s_slices_heapSortOrdered_string (a0 : SliceV) (a1 : Int) (a2 : Int) (w : World) (K : World → Prop) : Prop :=
 ((2 : Int) ≠ 0 ∧
 LoopP (S := Int × Unit) (fun s4 w5 next6 =>
 (bif (decide (s4.1 ≥ 0)) then
 c_slices_siftDownOrdered_string a0 s4.1 (IntKind.i64.wrap (a2 - a1)) a1 w5 fun w7 =>
 next6 ((IntKind.i64.wrap (s4.1 - 1)), ()) w7
 else
 LoopP (S := Int × Unit) (fun s8 w9 next10 =>
 (bif (decide (s8.1 ≥ 0)) then
 AtIx a0 1 (IntKind.i64.wrap (a1 + s8.1)) fun a11 =>
 Ld .str w9.drew a11 fun x12 =>
 AtIx a0 1 a1 fun a13 =>
 Ld .str w9.drew a13 fun x14 =>
 AtIx a0 1 a1 fun a15 =>
 St w9.drew a15 (Value.string x12) fun w16 =>
 AtIx a0 1 (IntKind.i64.wrap (a1 + s8.1)) fun a17 =>
 St w16 a17 (Value.string x14) fun w18 =>
 c_slices_siftDownOrdered_string a0 0 s8.1 a1 w18 fun w19 =>
 next10 ((IntKind.i64.wrap (s8.1 - 1)), ()) w19
 else
 K w9)) ((IntKind.i64.wrap ((IntKind.i64.wrap (a2 - a1)) - 1)), ()) w5)) ((IntKind.i64.wrap (Int.tdiv (IntKind.i64.wrap ((IntKind.i64.wrap (a2 - a1)) - 1)) 2)), ()) w)
theorem e_slices_heapSortOrdered_string (a0 : SliceV) (a1 : Int) (a2 : Int) (w : World) (K : World → Prop) : den Try.prog 56 (bodyOf Try.f65) none (.seq .leaf (.seq .leaf (.seq .leaf (.seq (.seq .leaf (.blk (.loop [(9, (.int .i64))] (.seq (.seq .leaf (.cond .leaf .leaf)) (.seq (.blk .leaf) .leaf))))) (.seq .leaf (.blk (.loop [(10, (.int .i64))] (.seq (.seq .leaf (.cond .leaf .leaf)) (.seq (.blk (.seq .leaf .leaf)) .leaf))))))))) (argEnv 0 [(Value.slice a0.a a0.len a0.cap), (Value.int .i64 a1), (Value.int .i64 a2)]) [] w (retK Try.prog [] [] K) = s_slices_heapSortOrdered_string a0 a1 a2 w K := by kernel_rfl
theorem ok_slices_heapSortOrdered_string {a0 a1 a2 w K} (h : s_slices_heapSortOrdered_string a0 a1 a2 w K) : c_slices_heapSortOrdered_string a0 a1 a2 w K :=
  fn_sound pok Try.func65 (fn := Try.f65) (c := bodyOf Try.f65) (nt := 56) (by kernel_rfl) (by kernel_rfl) (rs := []) (by kernel_rfl) [] K (.seq .leaf (.seq .leaf (.seq .leaf (.seq (.seq .leaf (.blk (.loop [(9, (.int .i64))] (.seq (.seq .leaf (.cond .leaf .leaf)) (.seq (.blk .leaf) .leaf))))) (.seq .leaf (.blk (.loop [(10, (.int .i64))] (.seq (.seq .leaf (.cond .leaf .leaf)) (.seq (.blk (.seq .leaf .leaf)) .leaf))))))))) [(Value.slice a0.a a0.len a0.cap), (Value.int .i64 a1), (Value.int .i64 a2)] (by kernel_rfl) w ((e_slices_heapSortOrdered_string a0 a1 a2 w K).mpr h)

/-- slices.breakPatternsOrdered[string] -/
def s_slices_breakPatternsOrdered_string (a0 : SliceV) (a1 : Int) (a2 : Int) (w : World) (K : World → Prop) : Prop :=
 ((bif (decide ((IntKind.i64.wrap (a2 - a1)) ≥ 8)) then
 Al w (.cells ⟨[(Value.int .u64 0)]⟩ 119) fun a5 w4 =>
 St w4 a5 (Value.int .u64 (IntKind.u64.wrap (IntKind.i64.wrap (a2 - a1)))) fun w6 =>
 c_slices_nextPowerOfTwo (IntKind.i64.wrap (a2 - a1)) w6 fun r7 w8 =>
 (4 : Int) ≠ 0 ∧
 LoopP (S := Int × Unit) (fun s9 w10 next11 =>
 (4 : Int) ≠ 0 ∧
 (bif (decide (s9.1 ≤ (IntKind.i64.wrap ((IntKind.i64.wrap (a1 + (IntKind.i64.wrap ((IntKind.i64.wrap (Int.tdiv (IntKind.i64.wrap (a2 - a1)) 4)) * 2)))) + 1)))) then
 c_slices_xorshift_Next (some a5) w10 fun r12 w13 =>
 let J14 : Int → Prop := fun j15 =>
 (AtIx a0 1 (IntKind.i64.wrap (a1 + j15)) fun a16 =>
 Ld .str w13.drew a16 fun x17 =>
 AtIx a0 1 s9.1 fun a18 =>
 Ld .str w13.drew a18 fun x19 =>
 AtIx a0 1 s9.1 fun a20 =>
 St w13.drew a20 (Value.string x17) fun w21 =>
 AtIx a0 1 (IntKind.i64.wrap (a1 + j15)) fun a22 =>
 St w21 a22 (Value.string x19) fun w23 =>
 next11 ((IntKind.i64.wrap (s9.1 + 1)), ()) w23)
 (bif (decide ((IntKind.i64.wrap (andI .u64 r12 (IntKind.u64.wrap (r7 - 1)))) ≥ (IntKind.i64.wrap (a2 - a1)))) then
 J14 (IntKind.i64.wrap ((IntKind.i64.wrap (andI .u64 r12 (IntKind.u64.wrap (r7 - 1)))) - (IntKind.i64.wrap (a2 - a1))))
 else
 J14 (IntKind.i64.wrap (andI .u64 r12 (IntKind.u64.wrap (r7 - 1)))))
 else
 K w10)) ((IntKind.i64.wrap ((IntKind.i64.wrap (a1 + (IntKind.i64.wrap ((IntKind.i64.wrap (Int.tdiv (IntKind.i64.wrap (a2 - a1)) 4)) * 2)))) - 1)), ()) w8
 else
 K w))
theorem e_slices_breakPatternsOrdered_string (a0 : SliceV) (a1 : Int) (a2 : Int) (w : World) (K : World → Prop) : den Try.prog 65 (bodyOf Try.f66) none (.seq .leaf (.seq .leaf (.cond (.seq .leaf (.seq .leaf (.seq .leaf (.blk (.loop [(9, (.int .i64))] (.seq (.seq .leaf (.cond .leaf .leaf)) (.seq (.blk (.seq .leaf (.seq (.seq .leaf (.cond .leaf .leaf)) .leaf))) .leaf))))))) .leaf))) (argEnv 0 [(Value.slice a0.a a0.len a0.cap), (Value.int .i64 a1), (Value.int .i64 a2)]) [] w (retK Try.prog [] [] K) = s_slices_breakPatternsOrdered_string a0 a1 a2 w K := by kernel_rfl
theorem ok_slices_breakPatternsOrdered_string {a0 a1 a2 w K} (h : s_slices_breakPatternsOrdered_string a0 a1 a2 w K) : c_slices_breakPatternsOrdered_string a0 a1 a2 w K :=
  fn_sound pok Try.func66 (fn := Try.f66) (c := bodyOf Try.f66) (nt := 65) (by kernel_rfl) (by kernel_rfl) (rs := []) (by kernel_rfl) [] K (.seq .leaf (.seq .leaf (.cond (.seq .leaf (.seq .leaf (.seq .leaf (.blk (.loop [(9, (.int .i64))] (.seq (.seq .leaf (.cond .leaf .leaf)) (.seq (.blk (.seq .leaf (.seq (.seq .leaf (.cond .leaf .leaf)) .leaf))) .leaf))))))) .leaf))) [(Value.slice a0.a a0.len a0.cap), (Value.int .i64 a1), (Value.int .i64 a2)] (by kernel_rfl) w ((e_slices_breakPatternsOrdered_string a0 a1 a2 w K).mpr h)

/-- slices.choosePivotOrdered[string] -/
def s_slices_choosePivotOrdered_string (a0 : SliceV) (a1 : Int) (a2 : Int) (w : World) (K : Int → Int → World → Prop) : Prop :=
 (Al w (.cells ⟨[(Value.int .i64 0)]⟩ 3) fun a5 w4 =>
 (4 : Int) ≠ 0 ∧
 (4 : Int) ≠ 0 ∧
 (4 : Int) ≠ 0 ∧
 let J6 : Int → World → Prop := fun j7 w8 =>
 (Ld (.int .i64) w8 a5 fun x9 =>
 (bif (x9 == 0) then
 K j7 1 w8
 else
 (bif (x9 == 12) then
 K j7 2 w8
 else
 K j7 0 w8)))
 (bif (decide ((IntKind.i64.wrap (a2 - a1)) ≥ 8)) then
 let J10 : Int → Int → Int → World → Prop := fun j11 j12 j13 w14 =>
 (c_slices_medianOrdered_string a0 j11 j12 j13 (some a5) w14 fun r15 w16 =>
 J6 r15 w16)
 (bif (decide ((IntKind.i64.wrap (a2 - a1)) ≥ 50)) then
 c_slices_medianAdjacentOrdered_string a0 (IntKind.i64.wrap (a1 + (IntKind.i64.wrap ((IntKind.i64.wrap (Int.tdiv (IntKind.i64.wrap (a2 - a1)) 4)) * 1)))) (some a5) w4 fun r17 w18 =>
 c_slices_medianAdjacentOrdered_string a0 (IntKind.i64.wrap (a1 + (IntKind.i64.wrap ((IntKind.i64.wrap (Int.tdiv (IntKind.i64.wrap (a2 - a1)) 4)) * 2)))) (some a5) w18 fun r19 w20 =>
 c_slices_medianAdjacentOrdered_string a0 (IntKind.i64.wrap (a1 + (IntKind.i64.wrap ((IntKind.i64.wrap (Int.tdiv (IntKind.i64.wrap (a2 - a1)) 4)) * 3)))) (some a5) w20 fun r21 w22 =>
 J10 r17 r19 r21 w22
 else
 J10 (IntKind.i64.wrap (a1 + (IntKind.i64.wrap ((IntKind.i64.wrap (Int.tdiv (IntKind.i64.wrap (a2 - a1)) 4)) * 1)))) (IntKind.i64.wrap (a1 + (IntKind.i64.wrap ((IntKind.i64.wrap (Int.tdiv (IntKind.i64.wrap (a2 - a1)) 4)) * 2)))) (IntKind.i64.wrap (a1 + (IntKind.i64.wrap ((IntKind.i64.wrap (Int.tdiv (IntKind.i64.wrap (a2 - a1)) 4)) * 3)))) w4)
 else
 J6 (IntKind.i64.wrap (a1 + (IntKind.i64.wrap ((IntKind.i64.wrap (Int.tdiv (IntKind.i64.wrap (a2 - a1)) 4)) * 2)))) w4))
theorem e_slices_choosePivotOrdered_string (a0 : SliceV) (a1 : Int) (a2 : Int) (w : World) (K : Int → Int → World → Prop) : den Try.prog 57 (bodyOf Try.f67) none (.seq .leaf (.seq .leaf (.seq .leaf (.seq .leaf (.seq .leaf (.seq .leaf (.seq (.seq .leaf (.cond (.seq (.seq .leaf (.cond (.seq .leaf (.seq .leaf .leaf)) .leaf)) .leaf) .leaf)) (.seq .leaf (.blk (.seq .leaf (.cond (.seq .leaf .leaf) (.seq .leaf (.cond (.seq .leaf .leaf) (.seq .leaf .leaf)))))))))))))) (argEnv 0 [(Value.slice a0.a a0.len a0.cap), (Value.int .i64 a1), (Value.int .i64 a2)]) [] w (retK Try.prog [.tmp 6, .tmp 7] [.one (.int .i64), .one (.int .i64)] K) = s_slices_choosePivotOrdered_string a0 a1 a2 w K := by kernel_rfl
theorem ok_slices_choosePivotOrdered_string {a0 a1 a2 w K} (h : s_slices_choosePivotOrdered_string a0 a1 a2 w K) : c_slices_choosePivotOrdered_string a0 a1 a2 w K :=
  fn_sound pok Try.func67 (fn := Try.f67) (c := bodyOf Try.f67) (nt := 57) (by kernel_rfl) (by kernel_rfl) (rs := [.tmp 6, .tmp 7]) (by kernel_rfl) [.one (.int .i64), .one (.int .i64)] K (.seq .leaf (.seq .leaf (.seq .leaf (.seq .leaf (.seq .leaf (.seq .leaf (.seq (.seq .leaf (.cond (.seq (.seq .leaf (.cond (.seq .leaf (.seq .leaf .leaf)) .leaf)) .leaf) .leaf)) (.seq .leaf (.blk (.seq .leaf (.cond (.seq .leaf .leaf) (.seq .leaf (.cond (.seq .leaf .leaf) (.seq .leaf .leaf)))))))))))))) [(Value.slice a0.a a0.len a0.cap), (Value.int .i64 a1), (Value.int .i64 a2)] (by kernel_rfl) w ((e_slices_choosePivotOrdered_string a0 a1 a2 w K).mpr h)

/-- slices.reverseRangeOrdered[string] -/
def s_slices_reverseRangeOrdered_string (a0 : SliceV) (a1 : Int) (a2 : Int) (w : World) (K : World → Prop) : Prop :=
 (LoopP (S := Int × Int × Unit) (fun s4 w5 next6 =>
 (bif (decide (s4.1 < s4.2.1)) then
 AtIx a0 1 s4.2.1 fun a7 =>
 Ld .str w5.drew a7 fun x8 =>
 AtIx a0 1 s4.1 fun a9 =>
 Ld .str w5.drew a9 fun x10 =>
 AtIx a0 1 s4.1 fun a11 =>
 St w5.drew a11 (Value.string x8) fun w12 =>
 AtIx a0 1 s4.2.1 fun a13 =>
 St w12 a13 (Value.string x10) fun w14 =>
 next6 ((IntKind.i64.wrap (s4.1 + 1)), (IntKind.i64.wrap (s4.2.1 - 1)), ()) w14
 else
 K w5)) (a1, (IntKind.i64.wrap (a2 - 1)), ()) w)
theorem e_slices_reverseRangeOrdered_string (a0 : SliceV) (a1 : Int) (a2 : Int) (w : World) (K : World → Prop) : den Try.prog 32 (bodyOf Try.f68) none (.seq .leaf (.seq .leaf (.blk (.loop [(6, (.int .i64)), (7, (.int .i64))] (.seq (.seq .leaf (.cond .leaf .leaf)) (.blk (.seq .leaf (.seq .leaf .leaf)))))))) (argEnv 0 [(Value.slice a0.a a0.len a0.cap), (Value.int .i64 a1), (Value.int .i64 a2)]) [] w (retK Try.prog [] [] K) = s_slices_reverseRangeOrdered_string a0 a1 a2 w K := by kernel_rfl
theorem ok_slices_reverseRangeOrdered_string {a0 a1 a2 w K} (h : s_slices_reverseRangeOrdered_string a0 a1 a2 w K) : c_slices_reverseRangeOrdered_string a0 a1 a2 w K :=
  fn_sound pok Try.func68 (fn := Try.f68) (c := bodyOf Try.f68) (nt := 32) (by kernel_rfl) (by kernel_rfl) (rs := []) (by kernel_rfl) [] K (.seq .leaf (.seq .leaf (.blk (.loop [(6, (.int .i64)), (7, (.int .i64))] (.seq (.seq .leaf (.cond .leaf .leaf)) (.blk (.seq .leaf (.seq .leaf .leaf)))))))) [(Value.slice a0.a a0.len a0.cap), (Value.int .i64 a1), (Value.int .i64 a2)] (by kernel_rfl) w ((e_slices_reverseRangeOrdered_string a0 a1 a2 w K).mpr h)

/-- slices.partialInsertionSortOrdered[string] -/
def s_slices_partialInsertionSortOrdered_string (a0 : SliceV) (a1 : Int) (a2 : Int) (w : World) (K : Bool → World → Prop) : Prop :=
 (LoopP (S := Int × Int × Unit) (fun s4 w5 next6 =>
 (bif (decide (s4.2.1 < 5)) then
 let J7 : Int → World → Prop := fun j8 w9 =>
 (next6 (j8, (IntKind.i64.wrap (s4.2.1 + 1)), ()) w9)
 LoopP (S := Int × Unit) (fun s10 w11 next12 =>
 let J13 : Bool → World → Prop := fun j14 w15 =>
 ((bif j14 then
 next12 ((IntKind.i64.wrap (s10.1 + 1)), ()) w15
 else
 (bif (s10.1 == a2) then
 K true w15
 else
 (bif (decide ((IntKind.i64.wrap (a2 - a1)) < 50)) then
 K false w15
 else
 AtIx a0 1 (IntKind.i64.wrap (s10.1 - 1)) fun a16 =>
 Ld .str w15.drew a16 fun x17 =>
 AtIx a0 1 s10.1 fun a18 =>
 Ld .str w15.drew a18 fun x19 =>
 AtIx a0 1 s10.1 fun a20 =>
 St w15.drew a20 (Value.string x17) fun w21 =>
 AtIx a0 1 (IntKind.i64.wrap (s10.1 - 1)) fun a22 =>
 St w21 a22 (Value.string x19) fun w23 =>
 let J24 : World → Prop := fun w25 =>
 ((bif (decide ((IntKind.i64.wrap (a2 - s10.1)) ≥ 2)) then
 LoopP (S := Int × Unit) (fun s26 w27 next28 =>
 (bif (decide (s26.1 < a2)) then
 AtIx a0 1 s26.1 fun a29 =>
 Ld .str w27.drew a29 fun x30 =>
 AtIx a0 1 (IntKind.i64.wrap (s26.1 - 1)) fun a31 =>
 Ld .str w27.drew a31 fun x32 =>
 c_cmp_Less_string x30 x32 w27.drew fun r33 w34 =>
 (bif (!r33) then
 J7 s10.1 w34
 else
 AtIx a0 1 (IntKind.i64.wrap (s26.1 - 1)) fun a35 =>
 Ld .str w34.drew a35 fun x36 =>
 AtIx a0 1 s26.1 fun a37 =>
 Ld .str w34.drew a37 fun x38 =>
 AtIx a0 1 s26.1 fun a39 =>
 St w34.drew a39 (Value.string x36) fun w40 =>
 AtIx a0 1 (IntKind.i64.wrap (s26.1 - 1)) fun a41 =>
 St w40 a41 (Value.string x38) fun w42 =>
 next28 ((IntKind.i64.wrap (s26.1 + 1)), ()) w42)
 else
 J7 s10.1 w27)) ((IntKind.i64.wrap (s10.1 + 1)), ()) w25
 else
 J7 s10.1 w25))
 (bif (decide ((IntKind.i64.wrap (s10.1 - a1)) ≥ 2)) then
 LoopP (S := Int × Unit) (fun s43 w44 next45 =>
 (bif (decide (s43.1 ≥ 1)) then
 AtIx a0 1 s43.1 fun a46 =>
 Ld .str w44.drew a46 fun x47 =>
 AtIx a0 1 (IntKind.i64.wrap (s43.1 - 1)) fun a48 =>
 Ld .str w44.drew a48 fun x49 =>
 c_cmp_Less_string x47 x49 w44.drew fun r50 w51 =>
 (bif (!r50) then
 J24 w51
 else
 AtIx a0 1 (IntKind.i64.wrap (s43.1 - 1)) fun a52 =>
 Ld .str w51.drew a52 fun x53 =>
 AtIx a0 1 s43.1 fun a54 =>
 Ld .str w51.drew a54 fun x55 =>
 AtIx a0 1 s43.1 fun a56 =>
 St w51.drew a56 (Value.string x53) fun w57 =>
 AtIx a0 1 (IntKind.i64.wrap (s43.1 - 1)) fun a58 =>
 St w57 a58 (Value.string x55) fun w59 =>
 next45 ((IntKind.i64.wrap (s43.1 - 1)), ()) w59)
 else
 J24 w44)) ((IntKind.i64.wrap (s10.1 - 1)), ()) w23
 else
 J24 w23)))))
 (bif (decide (s10.1 < a2)) then
 AtIx a0 1 s10.1 fun a60 =>
 Ld .str w11.drew a60 fun x61 =>
 AtIx a0 1 (IntKind.i64.wrap (s10.1 - 1)) fun a62 =>
 Ld .str w11.drew a62 fun x63 =>
 c_cmp_Less_string x61 x63 w11.drew fun r64 w65 =>
 J13 (!r64) w65
 else
 J13 false w11.drew)) (s4.1, ()) w5
 else
 K false w5)) ((IntKind.i64.wrap (a1 + 1)), 0, ()) w)
theorem e_slices_partialInsertionSortOrdered_string (a0 : SliceV) (a1 : Int) (a2 : Int) (w : World) (K : Bool → World → Prop) : den Try.prog 133 (bodyOf Try.f69) none (.seq .leaf (.seq .leaf (.seq (.seq .leaf (.blk (.loop [(7, (.int .i64)), (8, (.int .i64))] (.seq (.seq .leaf (.cond .leaf .leaf)) (.seq (.blk (.seq (.blk (.loop [(7, (.int .i64))] (.seq (.seq .leaf (.cond .leaf .leaf)) (.blk .leaf)))) (.seq (.seq .leaf (.cond (.seq .leaf .leaf) .leaf)) (.seq (.seq .leaf (.cond (.seq .leaf .leaf) .leaf)) (.seq .leaf (.seq (.seq .leaf (.cond (.seq .leaf (.blk (.loop [(9, (.int .i64))] (.seq (.seq .leaf (.cond .leaf .leaf)) (.seq (.blk (.seq (.seq .leaf (.cond .leaf .leaf)) .leaf)) .leaf))))) .leaf)) (.seq .leaf (.cond (.seq .leaf (.blk (.loop [(10, (.int .i64))] (.seq (.seq .leaf (.cond .leaf .leaf)) (.seq (.blk (.seq (.seq .leaf (.cond .leaf .leaf)) .leaf)) .leaf))))) .leaf)))))))) .leaf))))) (.seq .leaf .leaf)))) (argEnv 0 [(Value.slice a0.a a0.len a0.cap), (Value.int .i64 a1), (Value.int .i64 a2)]) [] w (retK Try.prog [.tmp 6] [.one .bool] K) = s_slices_partialInsertionSortOrdered_string a0 a1 a2 w K := by kernel_rfl
theorem ok_slices_partialInsertionSortOrdered_string {a0 a1 a2 w K} (h : s_slices_partialInsertionSortOrdered_string a0 a1 a2 w K) : c_slices_partialInsertionSortOrdered_string a0 a1 a2 w K :=
  fn_sound pok Try.func69 (fn := Try.f69) (c := bodyOf Try.f69) (nt := 133) (by kernel_rfl) (by kernel_rfl) (rs := [.tmp 6]) (by kernel_rfl) [.one .bool] K (.seq .leaf (.seq .leaf (.seq (.seq .leaf (.blk (.loop [(7, (.int .i64)), (8, (.int .i64))] (.seq (.seq .leaf (.cond .leaf .leaf)) (.seq (.blk (.seq (.blk (.loop [(7, (.int .i64))] (.seq (.seq .leaf (.cond .leaf .leaf)) (.blk .leaf)))) (.seq (.seq .leaf (.cond (.seq .leaf .leaf) .leaf)) (.seq (.seq .leaf (.cond (.seq .leaf .leaf) .leaf)) (.seq .leaf (.seq (.seq .leaf (.cond (.seq .leaf (.blk (.loop [(9, (.int .i64))] (.seq (.seq .leaf (.cond .leaf .leaf)) (.seq (.blk (.seq (.seq .leaf (.cond .leaf .leaf)) .leaf)) .leaf))))) .leaf)) (.seq .leaf (.cond (.seq .leaf (.blk (.loop [(10, (.int .i64))] (.seq (.seq .leaf (.cond .leaf .leaf)) (.seq (.blk (.seq (.seq .leaf (.cond .leaf .leaf)) .leaf)) .leaf))))) .leaf)))))))) .leaf))))) (.seq .leaf .leaf)))) [(Value.slice a0.a a0.len a0.cap), (Value.int .i64 a1), (Value.int .i64 a2)] (by kernel_rfl) w ((e_slices_partialInsertionSortOrdered_string a0 a1 a2 w K).mpr h)

/-- cmp.Less[string] -/
def s_cmp_Less_string (a0 : ByteArray) (a1 : ByteArray) (w : World) (K : Bool → World → Prop) : Prop :=
 (let J3 : Bool → World → Prop := fun j4 w5 =>
 (K j4 w5)
 c_cmp_isNaN_string a0 w fun r6 w7 =>
 (bif r6 then
 c_cmp_isNaN_string a1 w7 fun r8 w9 =>
 (bif (!r8) then
 J3 true w9
 else
 J3 (strLt a0 a1) w9)
 else
 J3 (strLt a0 a1) w7))
theorem e_cmp_Less_string (a0 : ByteArray) (a1 : ByteArray) (w : World) (K : Bool → World → Prop) : den Try.prog 17 (bodyOf Try.f70) none (.seq .leaf (.seq .leaf .leaf)) (argEnv 0 [(Value.string a0), (Value.string a1)]) [] w (retK Try.prog [.tmp 4] [.one .bool] K) = s_cmp_Less_string a0 a1 w K := by kernel_rfl
theorem ok_cmp_Less_string {a0 a1 w K} (h : s_cmp_Less_string a0 a1 w K) : c_cmp_Less_string a0 a1 w K :=
  fn_sound pok Try.func70 (fn := Try.f70) (c := bodyOf Try.f70) (nt := 17) (by kernel_rfl) (by kernel_rfl) (rs := [.tmp 4]) (by kernel_rfl) [.one .bool] K (.seq .leaf (.seq .leaf .leaf)) [(Value.string a0), (Value.string a1)] (by kernel_rfl) w ((e_cmp_Less_string a0 a1 w K).mpr h)

/-- slices.partitionEqualOrdered[string] -/
def s_slices_partitionEqualOrdered_string (a0 : SliceV) (a1 : Int) (a2 : Int) (a3 : Int) (w : World) (K : Int → World → Prop) : Prop :=
 (AtIx a0 1 a3 fun a5 =>
 Ld .str w.drew a5 fun x6 =>
 AtIx a0 1 a1 fun a7 =>
 Ld .str w.drew a7 fun x8 =>
 AtIx a0 1 a1 fun a9 =>
 St w.drew a9 (Value.string x6) fun w10 =>
 AtIx a0 1 a3 fun a11 =>
 St w10 a11 (Value.string x8) fun w12 =>
 LoopP (S := Int × Int × Unit) (fun s13 w14 next15 =>
 LoopP (S := Int × Unit) (fun s16 w17 next18 =>
 let J19 : Bool → World → Prop := fun j20 w21 =>
 ((bif j20 then
 next18 ((IntKind.i64.wrap (s16.1 + 1)), ()) w21
 else
 LoopP (S := Int × Unit) (fun s22 w23 next24 =>
 let J25 : Bool → World → Prop := fun j26 w27 =>
 ((bif j26 then
 next24 ((IntKind.i64.wrap (s22.1 - 1)), ()) w27
 else
 (bif (decide (s16.1 > s22.1)) then
 K s16.1 w27
 else
 AtIx a0 1 s22.1 fun a28 =>
 Ld .str w27.drew a28 fun x29 =>
 AtIx a0 1 s16.1 fun a30 =>
 Ld .str w27.drew a30 fun x31 =>
 AtIx a0 1 s16.1 fun a32 =>
 St w27.drew a32 (Value.string x29) fun w33 =>
 AtIx a0 1 s22.1 fun a34 =>
 St w33 a34 (Value.string x31) fun w35 =>
 next15 ((IntKind.i64.wrap (s16.1 + 1)), (IntKind.i64.wrap (s22.1 - 1)), ()) w35)))
 (bif (decide (s16.1 ≤ s22.1)) then
 AtIx a0 1 a1 fun a36 =>
 Ld .str w23.drew a36 fun x37 =>
 AtIx a0 1 s22.1 fun a38 =>
 Ld .str w23.drew a38 fun x39 =>
 c_cmp_Less_string x37 x39 w23.drew fun r40 w41 =>
 J25 r40 w41
 else
 J25 false w23.drew)) (s13.2.1, ()) w21))
 (bif (decide (s16.1 ≤ s13.2.1)) then
 AtIx a0 1 a1 fun a42 =>
 Ld .str w17.drew a42 fun x43 =>
 AtIx a0 1 s16.1 fun a44 =>
 Ld .str w17.drew a44 fun x45 =>
 c_cmp_Less_string x43 x45 w17.drew fun r46 w47 =>
 J19 (!r46) w47
 else
 J19 false w17.drew)) (s13.1, ()) w14) ((IntKind.i64.wrap (a1 + 1)), (IntKind.i64.wrap (a2 - 1)), ()) w12)
theorem e_slices_partitionEqualOrdered_string (a0 : SliceV) (a1 : Int) (a2 : Int) (a3 : Int) (w : World) (K : Int → World → Prop) : den Try.prog 84 (bodyOf Try.f71) none (.seq .leaf (.seq .leaf (.seq .leaf (.seq (.blk (.loop [(9, (.int .i64)), (10, (.int .i64))] (.blk (.seq (.blk (.loop [(9, (.int .i64))] (.seq (.seq .leaf (.cond .leaf .leaf)) (.blk .leaf)))) (.seq (.blk (.loop [(10, (.int .i64))] (.seq (.seq .leaf (.cond .leaf .leaf)) (.blk .leaf)))) (.seq (.seq .leaf (.cond .leaf .leaf)) (.seq .leaf (.seq .leaf .leaf)))))))) (.seq .leaf .leaf))))) (argEnv 0 [(Value.slice a0.a a0.len a0.cap), (Value.int .i64 a1), (Value.int .i64 a2), (Value.int .i64 a3)]) [] w (retK Try.prog [.tmp 8] [.one (.int .i64)] K) = s_slices_partitionEqualOrdered_string a0 a1 a2 a3 w K := by kernel_rfl
theorem ok_slices_partitionEqualOrdered_string {a0 a1 a2 a3 w K} (h : s_slices_partitionEqualOrdered_string a0 a1 a2 a3 w K) : c_slices_partitionEqualOrdered_string a0 a1 a2 a3 w K :=
  fn_sound pok Try.func71 (fn := Try.f71) (c := bodyOf Try.f71) (nt := 84) (by kernel_rfl) (by kernel_rfl) (rs := [.tmp 8]) (by kernel_rfl) [.one (.int .i64)] K (.seq .leaf (.seq .leaf (.seq .leaf (.seq (.blk (.loop [(9, (.int .i64)), (10, (.int .i64))] (.blk (.seq (.blk (.loop [(9, (.int .i64))] (.seq (.seq .leaf (.cond .leaf .leaf)) (.blk .leaf)))) (.seq (.blk (.loop [(10, (.int .i64))] (.seq (.seq .leaf (.cond .leaf .leaf)) (.blk .leaf)))) (.seq (.seq .leaf (.cond .leaf .leaf)) (.seq .leaf (.seq .leaf .leaf)))))))) (.seq .leaf .leaf))))) [(Value.slice a0.a a0.len a0.cap), (Value.int .i64 a1), (Value.int .i64 a2), (Value.int .i64 a3)] (by kernel_rfl) w ((e_slices_partitionEqualOrdered_string a0 a1 a2 a3 w K).mpr h)

/-- slices.partitionOrdered[string] -/
def s_slices_partitionOrdered_string (a0 : SliceV) (a1 : Int) (a2 : Int) (a3 : Int) (w : World) (K : Int → Bool → World → Prop) : Prop :=
 (AtIx a0 1 a3 fun a5 =>
 Ld .str w.drew a5 fun x6 =>
 AtIx a0 1 a1 fun a7 =>
 Ld .str w.drew a7 fun x8 =>
 AtIx a0 1 a1 fun a9 =>
 St w.drew a9 (Value.string x6) fun w10 =>
 AtIx a0 1 a3 fun a11 =>
 St w10 a11 (Value.string x8) fun w12 =>
 LoopP (S := Int × Unit) (fun s13 w14 next15 =>
 let J16 : Bool → World → Prop := fun j17 w18 =>
 ((bif j17 then
 next15 ((IntKind.i64.wrap (s13.1 + 1)), ()) w18
 else
 LoopP (S := Int × Unit) (fun s19 w20 next21 =>
 let J22 : Bool → World → Prop := fun j23 w24 =>
 ((bif j23 then
 next21 ((IntKind.i64.wrap (s19.1 - 1)), ()) w24
 else
 (bif (decide (s13.1 > s19.1)) then
 AtIx a0 1 a1 fun a25 =>
 Ld .str w24.drew a25 fun x26 =>
 AtIx a0 1 s19.1 fun a27 =>
 Ld .str w24.drew a27 fun x28 =>
 AtIx a0 1 s19.1 fun a29 =>
 St w24.drew a29 (Value.string x26) fun w30 =>
 AtIx a0 1 a1 fun a31 =>
 St w30 a31 (Value.string x28) fun w32 =>
 K s19.1 true w32
 else
 AtIx a0 1 s19.1 fun a33 =>
 Ld .str w24.drew a33 fun x34 =>
 AtIx a0 1 s13.1 fun a35 =>
 Ld .str w24.drew a35 fun x36 =>
 AtIx a0 1 s13.1 fun a37 =>
 St w24.drew a37 (Value.string x34) fun w38 =>
 AtIx a0 1 s19.1 fun a39 =>
 St w38 a39 (Value.string x36) fun w40 =>
 LoopP (S := Int × Int × Unit) (fun s41 w42 next43 =>
 LoopP (S := Int × Unit) (fun s44 w45 next46 =>
 let J47 : Bool → World → Prop := fun j48 w49 =>
 ((bif j48 then
 next46 ((IntKind.i64.wrap (s44.1 + 1)), ()) w49
 else
 LoopP (S := Int × Unit) (fun s50 w51 next52 =>
 let J53 : Bool → World → Prop := fun j54 w55 =>
 ((bif j54 then
 next52 ((IntKind.i64.wrap (s50.1 - 1)), ()) w55
 else
 (bif (decide (s44.1 > s50.1)) then
 AtIx a0 1 a1 fun a56 =>
 Ld .str w55.drew a56 fun x57 =>
 AtIx a0 1 s50.1 fun a58 =>
 Ld .str w55.drew a58 fun x59 =>
 AtIx a0 1 s50.1 fun a60 =>
 St w55.drew a60 (Value.string x57) fun w61 =>
 AtIx a0 1 a1 fun a62 =>
 St w61 a62 (Value.string x59) fun w63 =>
 K s50.1 false w63
 else
 AtIx a0 1 s50.1 fun a64 =>
 Ld .str w55.drew a64 fun x65 =>
 AtIx a0 1 s44.1 fun a66 =>
 Ld .str w55.drew a66 fun x67 =>
 AtIx a0 1 s44.1 fun a68 =>
 St w55.drew a68 (Value.string x65) fun w69 =>
 AtIx a0 1 s50.1 fun a70 =>
 St w69 a70 (Value.string x67) fun w71 =>
 next43 ((IntKind.i64.wrap (s44.1 + 1)), (IntKind.i64.wrap (s50.1 - 1)), ()) w71)))
 (bif (decide (s44.1 ≤ s50.1)) then
 AtIx a0 1 s50.1 fun a72 =>
 Ld .str w51.drew a72 fun x73 =>
 AtIx a0 1 a1 fun a74 =>
 Ld .str w51.drew a74 fun x75 =>
 c_cmp_Less_string x73 x75 w51.drew fun r76 w77 =>
 J53 (!r76) w77
 else
 J53 false w51.drew)) (s41.2.1, ()) w49))
 (bif (decide (s44.1 ≤ s41.2.1)) then
 AtIx a0 1 s44.1 fun a78 =>
 Ld .str w45.drew a78 fun x79 =>
 AtIx a0 1 a1 fun a80 =>
 Ld .str w45.drew a80 fun x81 =>
 c_cmp_Less_string x79 x81 w45.drew fun r82 w83 =>
 J47 r82 w83
 else
 J47 false w45.drew)) (s41.1, ()) w42) ((IntKind.i64.wrap (s13.1 + 1)), (IntKind.i64.wrap (s19.1 - 1)), ()) w40)))
 (bif (decide (s13.1 ≤ s19.1)) then
 AtIx a0 1 s19.1 fun a84 =>
 Ld .str w20.drew a84 fun x85 =>
 AtIx a0 1 a1 fun a86 =>
 Ld .str w20.drew a86 fun x87 =>
 c_cmp_Less_string x85 x87 w20.drew fun r88 w89 =>
 J22 (!r88) w89
 else
 J22 false w20.drew)) ((IntKind.i64.wrap (a2 - 1)), ()) w18))
 (bif (decide (s13.1 ≤ (IntKind.i64.wrap (a2 - 1)))) then
 AtIx a0 1 s13.1 fun a90 =>
 Ld .str w14.drew a90 fun x91 =>
 AtIx a0 1 a1 fun a92 =>
 Ld .str w14.drew a92 fun x93 =>
 c_cmp_Less_string x91 x93 w14.drew fun r94 w95 =>
 J16 r94 w95
 else
 J16 false w14.drew)) ((IntKind.i64.wrap (a1 + 1)), ()) w12)
theorem e_slices_partitionOrdered_string (a0 : SliceV) (a1 : Int) (a2 : Int) (a3 : Int) (w : World) (K : Int → Bool → World → Prop) : den Try.prog 168 (bodyOf Try.f72) none (.seq .leaf (.seq .leaf (.seq .leaf (.seq (.blk (.loop [(10, (.int .i64))] (.seq (.seq .leaf (.cond .leaf .leaf)) (.blk .leaf)))) (.seq (.blk (.loop [(11, (.int .i64))] (.seq (.seq .leaf (.cond .leaf .leaf)) (.blk .leaf)))) (.seq (.seq .leaf (.cond (.seq .leaf (.seq .leaf .leaf)) .leaf)) (.seq .leaf (.seq .leaf (.seq .leaf (.seq (.blk (.loop [(10, (.int .i64)), (11, (.int .i64))] (.blk (.seq (.blk (.loop [(10, (.int .i64))] (.seq (.seq .leaf (.cond .leaf .leaf)) (.blk .leaf)))) (.seq (.blk (.loop [(11, (.int .i64))] (.seq (.seq .leaf (.cond .leaf .leaf)) (.blk .leaf)))) (.seq (.seq .leaf (.cond .leaf .leaf)) (.seq .leaf (.seq .leaf .leaf)))))))) (.seq .leaf (.seq .leaf .leaf)))))))))))) (argEnv 0 [(Value.slice a0.a a0.len a0.cap), (Value.int .i64 a1), (Value.int .i64 a2), (Value.int .i64 a3)]) [] w (retK Try.prog [.tmp 8, .tmp 9] [.one (.int .i64), .one .bool] K) = s_slices_partitionOrdered_string a0 a1 a2 a3 w K := by kernel_rfl
theorem ok_slices_partitionOrdered_string {a0 a1 a2 a3 w K} (h : s_slices_partitionOrdered_string a0 a1 a2 a3 w K) : c_slices_partitionOrdered_string a0 a1 a2 a3 w K :=
  fn_sound pok Try.func72 (fn := Try.f72) (c := bodyOf Try.f72) (nt := 168) (by kernel_rfl) (by kernel_rfl) (rs := [.tmp 8, .tmp 9]) (by kernel_rfl) [.one (.int .i64), .one .bool] K (.seq .leaf (.seq .leaf (.seq .leaf (.seq (.blk (.loop [(10, (.int .i64))] (.seq (.seq .leaf (.cond .leaf .leaf)) (.blk .leaf)))) (.seq (.blk (.loop [(11, (.int .i64))] (.seq (.seq .leaf (.cond .leaf .leaf)) (.blk .leaf)))) (.seq (.seq .leaf (.cond (.seq .leaf (.seq .leaf .leaf)) .leaf)) (.seq .leaf (.seq .leaf (.seq .leaf (.seq (.blk (.loop [(10, (.int .i64)), (11, (.int .i64))] (.blk (.seq (.blk (.loop [(10, (.int .i64))] (.seq (.seq .leaf (.cond .leaf .leaf)) (.blk .leaf)))) (.seq (.blk (.loop [(11, (.int .i64))] (.seq (.seq .leaf (.cond .leaf .leaf)) (.blk .leaf)))) (.seq (.seq .leaf (.cond .leaf .leaf)) (.seq .leaf (.seq .leaf .leaf)))))))) (.seq .leaf (.seq .leaf .leaf)))))))))))) [(Value.slice a0.a a0.len a0.cap), (Value.int .i64 a1), (Value.int .i64 a2), (Value.int .i64 a3)] (by kernel_rfl) w ((e_slices_partitionOrdered_string a0 a1 a2 a3 w K).mpr h)

/-- math/bits.Len64 -/
def s_math_bits_Len64 (a0 : Int) (w : World) (K : Int → World → Prop) : Prop :=
 (let J2 : Int → Int → Prop := fun j3 j4 =>
 (let J5 : Int → Int → Prop := fun j6 j7 =>
 (let J8 : Int → Int → Prop := fun j9 j10 =>
 (StrIx (bs [0, 1, 2, 2, 3, 3, 3, 3, 4, 4, 4, 4, 4, 4, 4, 4, 5, 5, 5, 5, 5, 5, 5, 5, 5, 5, 5, 5, 5, 5, 5, 5, 6, 6, 6, 6, 6, 6, 6, 6, 6, 6, 6, 6, 6, 6, 6, 6, 6, 6, 6, 6, 6, 6, 6, 6, 6, 6, 6, 6, 6, 6, 6, 6, 7, 7, 7, 7, 7, 7, 7, 7, 7, 7, 7, 7, 7, 7, 7, 7, 7, 7, 7, 7, 7, 7, 7, 7, 7, 7, 7, 7, 7, 7, 7, 7, 7, 7, 7, 7, 7, 7, 7, 7, 7, 7, 7, 7, 7, 7, 7, 7, 7, 7, 7, 7, 7, 7, 7, 7, 7, 7, 7, 7, 7, 7, 7, 7, 8, 8, 8, 8, 8, 8, 8, 8, 8, 8, 8, 8, 8, 8, 8, 8, 8, 8, 8, 8, 8, 8, 8, 8, 8, 8, 8, 8, 8, 8, 8, 8, 8, 8, 8, 8, 8, 8, 8, 8, 8, 8, 8, 8, 8, 8, 8, 8, 8, 8, 8, 8, 8, 8, 8, 8, 8, 8, 8, 8, 8, 8, 8, 8, 8, 8, 8, 8, 8, 8, 8, 8, 8, 8, 8, 8, 8, 8, 8, 8, 8, 8, 8, 8, 8, 8, 8, 8, 8, 8, 8, 8, 8, 8, 8, 8, 8, 8, 8, 8, 8, 8, 8, 8, 8, 8, 8, 8, 8, 8, 8, 8, 8, 8, 8, 8, 8, 8, 8, 8, 8, 8, 8, 8, 8, 8, 8, 8]) (IntKind.u8.wrap j9) fun x11 =>
 K (IntKind.i64.wrap (j10 + (IntKind.i64.wrap x11))) w)
 (bif (decide (j6 ≥ 256)) then
 0 ≤ (8 : Int) ∧
 J8 (shrI .u64 j6 8) (IntKind.i64.wrap (j7 + 8))
 else
 J8 j6 j7))
 (bif (decide (j3 ≥ 65536)) then
 0 ≤ (16 : Int) ∧
 J5 (shrI .u64 j3 16) (IntKind.i64.wrap (j4 + 16))
 else
 J5 j3 j4))
 (bif (decide (a0 ≥ 4294967296)) then
 0 ≤ (32 : Int) ∧
 J2 (shrI .u64 a0 32) 32
 else
 J2 a0 0))
theorem e_math_bits_Len64 (a0 : Int) (w : World) (K : Int → World → Prop) : den Try.prog 25 (bodyOf Try.f74) none (.seq .leaf (.seq (.seq .leaf (.cond (.seq .leaf .leaf) .leaf)) (.seq (.seq .leaf (.cond (.seq .leaf .leaf) .leaf)) (.seq (.seq .leaf (.cond (.seq .leaf .leaf) .leaf)) (.seq .leaf .leaf))))) (argEnv 0 [(Value.int .u64 a0)]) [] w (retK Try.prog [.tmp 2] [.one (.int .i64)] K) = s_math_bits_Len64 a0 w K := by kernel_rfl
theorem ok_math_bits_Len64 {a0 w K} (h : s_math_bits_Len64 a0 w K) : c_math_bits_Len64 a0 w K :=
  fn_sound pok Try.func74 (fn := Try.f74) (c := bodyOf Try.f74) (nt := 25) (by kernel_rfl) (by kernel_rfl) (rs := [.tmp 2]) (by kernel_rfl) [.one (.int .i64)] K (.seq .leaf (.seq (.seq .leaf (.cond (.seq .leaf .leaf) .leaf)) (.seq (.seq .leaf (.cond (.seq .leaf .leaf) .leaf)) (.seq (.seq .leaf (.cond (.seq .leaf .leaf) .leaf)) (.seq .leaf .leaf))))) [(Value.int .u64 a0)] (by kernel_rfl) w ((e_math_bits_Len64 a0 w K).mpr h)

/-- slices.IndexFunc[[]goosepond/holes.piece,goosepond/holes.piece] -/
def s_slices_IndexFunc_holes_piece_holes_piece (a0 : SliceV) (a1 : Value) (w : World) (K : Int → World → Prop) : Prop :=
 (LoopP (S := Int × Unit) (fun s3 w4 next5 =>
 (bif (decide (s3.1 < (a0.len : Int))) then
 AtIx a0 3 s3.1 fun a6 =>
 Ld (.int .i64) w4 (a6.add 0) fun x7 =>
 Ld .bool w4 (a6.add 1) fun x8 =>
 Ld .slice w4 (a6.add 2) fun x9 =>
 CallV Try.prog [.one .bool] a1 [(Value.agg ⟨[(Value.int .i64 x7), (Value.bool x8), (Value.slice x9.a x9.len x9.cap)]⟩)] w4 fun r10 w11 =>
 ∃ r12 : Bool, r10 = (Value.bool r12) ∧
 (bif r12 then
 K s3.1 w11
 else
 next5 ((IntKind.i64.wrap (s3.1 + 1)), ()) w11)
 else
 K (-1) w4)) (0, ()) w)
theorem e_slices_IndexFunc_holes_piece_holes_piece (a0 : SliceV) (a1 : Value) (w : World) (K : Int → World → Prop) : den Try.prog 19 (bodyOf Try.f75) none (.seq .leaf (.seq (.seq .leaf (.blk (.loop [(8, (.int .i64))] (.seq .leaf (.seq (.cond .leaf .leaf) (.seq (.blk (.seq .leaf (.seq .leaf (.cond (.seq .leaf .leaf) .leaf)))) .leaf)))))) (.seq .leaf .leaf))) (argEnv 0 [(Value.slice a0.a a0.len a0.cap), a1]) [] w (retK Try.prog [.tmp 4] [.one (.int .i64)] K) = s_slices_IndexFunc_holes_piece_holes_piece a0 a1 w K := by kernel_rfl
theorem ok_slices_IndexFunc_holes_piece_holes_piece {a0 a1 w K} (h : s_slices_IndexFunc_holes_piece_holes_piece a0 a1 w K) : c_slices_IndexFunc_holes_piece_holes_piece a0 a1 w K :=
  fn_sound pok Try.func75 (fn := Try.f75) (c := bodyOf Try.f75) (nt := 19) (by kernel_rfl) (by kernel_rfl) (rs := [.tmp 4]) (by kernel_rfl) [.one (.int .i64)] K (.seq .leaf (.seq (.seq .leaf (.blk (.loop [(8, (.int .i64))] (.seq .leaf (.seq (.cond .leaf .leaf) (.seq (.blk (.seq .leaf (.seq .leaf (.cond (.seq .leaf .leaf) .leaf)))) .leaf)))))) (.seq .leaf .leaf))) [(Value.slice a0.a a0.len a0.cap), a1] (by kernel_rfl) w ((e_slices_IndexFunc_holes_piece_holes_piece a0 a1 w K).mpr h)

/-- cmp.isNaN[int] -/
def s_cmp_isNaN_int (a0 : Int) (w : World) (K : Bool → World → Prop) : Prop :=
 (K (a0 != a0) w)
theorem e_cmp_isNaN_int (a0 : Int) (w : World) (K : Bool → World → Prop) : den Try.prog 6 (bodyOf Try.f76) none (.seq .leaf (.seq .leaf .leaf)) (argEnv 0 [(Value.int .i64 a0)]) [] w (retK Try.prog [.tmp 2] [.one .bool] K) = s_cmp_isNaN_int a0 w K := by kernel_rfl
theorem ok_cmp_isNaN_int {a0 w K} (h : s_cmp_isNaN_int a0 w K) : c_cmp_isNaN_int a0 w K :=
  fn_sound pok Try.func76 (fn := Try.f76) (c := bodyOf Try.f76) (nt := 6) (by kernel_rfl) (by kernel_rfl) (rs := [.tmp 2]) (by kernel_rfl) [.one .bool] K (.seq .leaf (.seq .leaf .leaf)) [(Value.int .i64 a0)] (by kernel_rfl) w ((e_cmp_isNaN_int a0 w K).mpr h)

/-- slices.rotateLeft[goosepond/holes.piece] -/
def s_slices_rotateLeft_holes_piece (a0 : SliceV) (a1 : Int) (w : World) (K : World → Prop) : Prop :=
 (SubSl a0 3 0 a1 fun s3 =>
 c_slices_Reverse_holes_piece_holes_piece s3 w fun w4 =>
 SubSl a0 3 a1 (a0.len : Int) fun s5 =>
 c_slices_Reverse_holes_piece_holes_piece s5 w4 fun w6 =>
 c_slices_Reverse_holes_piece_holes_piece a0 w6 fun w7 =>
 K w7)
theorem e_slices_rotateLeft_holes_piece (a0 : SliceV) (a1 : Int) (w : World) (K : World → Prop) : den Try.prog 14 (bodyOf Try.f77) none (.seq .leaf (.seq .leaf .leaf)) (argEnv 0 [(Value.slice a0.a a0.len a0.cap), (Value.int .i64 a1)]) [] w (retK Try.prog [] [] K) = s_slices_rotateLeft_holes_piece a0 a1 w K := by kernel_rfl
theorem ok_slices_rotateLeft_holes_piece {a0 a1 w K} (h : s_slices_rotateLeft_holes_piece a0 a1 w K) : c_slices_rotateLeft_holes_piece a0 a1 w K :=
  fn_sound pok Try.func77 (fn := Try.f77) (c := bodyOf Try.f77) (nt := 14) (by kernel_rfl) (by kernel_rfl) (rs := []) (by kernel_rfl) [] K (.seq .leaf (.seq .leaf .leaf)) [(Value.slice a0.a a0.len a0.cap), (Value.int .i64 a1)] (by kernel_rfl) w ((e_slices_rotateLeft_holes_piece a0 a1 w K).mpr h)

/-- slices.siftDownOrdered[string] -/
def s_slices_siftDownOrdered_string (a0 : SliceV) (a1 : Int) (a2 : Int) (a3 : Int) (w : World) (K : World → Prop) : Prop :=
 (LoopP (S := Int × Unit) (fun s5 w6 next7 =>
 (bif (decide ((IntKind.i64.wrap ((IntKind.i64.wrap (2 * s5.1)) + 1)) ≥ a2)) then
 K w6
 else
 let J8 : Int → World → Prop := fun j9 w10 =>
 (AtIx a0 1 (IntKind.i64.wrap (a3 + s5.1)) fun a11 =>
 Ld .str w10.drew a11 fun x12 =>
 AtIx a0 1 (IntKind.i64.wrap (a3 + j9)) fun a13 =>
 Ld .str w10.drew a13 fun x14 =>
 c_cmp_Less_string x12 x14 w10.drew fun r15 w16 =>
 (bif (!r15) then
 K w16
 else
 AtIx a0 1 (IntKind.i64.wrap (a3 + j9)) fun a17 =>
 Ld .str w16.drew a17 fun x18 =>
 AtIx a0 1 (IntKind.i64.wrap (a3 + s5.1)) fun a19 =>
 Ld .str w16.drew a19 fun x20 =>
 AtIx a0 1 (IntKind.i64.wrap (a3 + s5.1)) fun a21 =>
 St w16.drew a21 (Value.string x18) fun w22 =>
 AtIx a0 1 (IntKind.i64.wrap (a3 + j9)) fun a23 =>
 St w22 a23 (Value.string x20) fun w24 =>
 next7 (j9, ()) w24))
 let J25 : Bool → World → Prop := fun j26 w27 =>
 ((bif j26 then
 J8 (IntKind.i64.wrap ((IntKind.i64.wrap ((IntKind.i64.wrap (2 * s5.1)) + 1)) + 1)) w27
 else
 J8 (IntKind.i64.wrap ((IntKind.i64.wrap (2 * s5.1)) + 1)) w27))
 (bif (decide ((IntKind.i64.wrap ((IntKind.i64.wrap ((IntKind.i64.wrap (2 * s5.1)) + 1)) + 1)) < a2)) then
 AtIx a0 1 (IntKind.i64.wrap (a3 + (IntKind.i64.wrap ((IntKind.i64.wrap (2 * s5.1)) + 1)))) fun a28 =>
 Ld .str w6.drew a28 fun x29 =>
 AtIx a0 1 (IntKind.i64.wrap ((IntKind.i64.wrap (a3 + (IntKind.i64.wrap ((IntKind.i64.wrap (2 * s5.1)) + 1)))) + 1)) fun a30 =>
 Ld .str w6.drew a30 fun x31 =>
 c_cmp_Less_string x29 x31 w6.drew fun r32 w33 =>
 J25 r32 w33
 else
 J25 false w6.drew))) (a1, ()) w)
theorem e_slices_siftDownOrdered_string (a0 : SliceV) (a1 : Int) (a2 : Int) (a3 : Int) (w : World) (K : World → Prop) : den Try.prog 76 (bodyOf Try.f78) none (.seq .leaf (.blk (.loop [(8, (.int .i64))] (.blk (.seq .leaf (.seq (.seq .leaf (.cond .leaf .leaf)) (.seq (.seq .leaf (.cond .leaf .leaf)) (.seq (.seq .leaf (.cond .leaf .leaf)) (.seq .leaf .leaf))))))))) (argEnv 0 [(Value.slice a0.a a0.len a0.cap), (Value.int .i64 a1), (Value.int .i64 a2), (Value.int .i64 a3)]) [] w (retK Try.prog [] [] K) = s_slices_siftDownOrdered_string a0 a1 a2 a3 w K := by kernel_rfl
theorem ok_slices_siftDownOrdered_string {a0 a1 a2 a3 w K} (h : s_slices_siftDownOrdered_string a0 a1 a2 a3 w K) : c_slices_siftDownOrdered_string a0 a1 a2 a3 w K :=
  fn_sound pok Try.func78 (fn := Try.f78) (c := bodyOf Try.f78) (nt := 76) (by kernel_rfl) (by kernel_rfl) (rs := []) (by kernel_rfl) [] K (.seq .leaf (.blk (.loop [(8, (.int .i64))] (.blk (.seq .leaf (.seq (.seq .leaf (.cond .leaf .leaf)) (.seq (.seq .leaf (.cond .leaf .leaf)) (.seq (.seq .leaf (.cond .leaf .leaf)) (.seq .leaf .leaf))))))))) [(Value.slice a0.a a0.len a0.cap), (Value.int .i64 a1), (Value.int .i64 a2), (Value.int .i64 a3)] (by kernel_rfl) w ((e_slices_siftDownOrdered_string a0 a1 a2 a3 w K).mpr h)

/-- slices.nextPowerOfTwo -/
def s_slices_nextPowerOfTwo (a0 : Int) (w : World) (K : Int → World → Prop) : Prop :=
 (c_math_bits_Len (IntKind.u64.wrap a0) w fun r2 w3 =>
 0 ≤ r2 ∧
 K (shlI .u64 1 r2) w3)
theorem e_slices_nextPowerOfTwo (a0 : Int) (w : World) (K : Int → World → Prop) : den Try.prog 7 (bodyOf Try.f79) none (.seq .leaf (.seq .leaf .leaf)) (argEnv 0 [(Value.int .i64 a0)]) [] w (retK Try.prog [.tmp 2] [.one (.int .u64)] K) = s_slices_nextPowerOfTwo a0 w K := by kernel_rfl
theorem ok_slices_nextPowerOfTwo {a0 w K} (h : s_slices_nextPowerOfTwo a0 w K) : c_slices_nextPowerOfTwo a0 w K :=
  fn_sound pok Try.func79 (fn := Try.f79) (c := bodyOf Try.f79) (nt := 7) (by kernel_rfl) (by kernel_rfl) (rs := [.tmp 2]) (by kernel_rfl) [.one (.int .u64)] K (.seq .leaf (.seq .leaf .leaf)) [(Value.int .i64 a0)] (by kernel_rfl) w ((e_slices_nextPowerOfTwo a0 w K).mpr h)

/-- (*slices.xorshift).Next -/
def s_slices_xorshift_Next (a0 : Option Addr) (w : World) (K : Int → World → Prop) : Prop :=
 (∃ a2 : Addr, a0 = some a2 ∧
 Ld (.int .u64) w.drew a2 fun x3 =>
 ∃ a4 : Addr, a0 = some a4 ∧
 Ld (.int .u64) w.drew a4 fun x5 =>
 0 ≤ (13 : Int) ∧
 ∃ a6 : Addr, a0 = some a6 ∧
 St w.drew a6 (Value.int .u64 (xorI .u64 x3 (shlI .u64 x5 13))) fun w7 =>
 ∃ a8 : Addr, a0 = some a8 ∧
 Ld (.int .u64) w7.drew a8 fun x9 =>
 ∃ a10 : Addr, a0 = some a10 ∧
 Ld (.int .u64) w7.drew a10 fun x11 =>
 0 ≤ (7 : Int) ∧
 ∃ a12 : Addr, a0 = some a12 ∧
 St w7.drew a12 (Value.int .u64 (xorI .u64 x9 (shrI .u64 x11 7))) fun w13 =>
 ∃ a14 : Addr, a0 = some a14 ∧
 Ld (.int .u64) w13.drew a14 fun x15 =>
 ∃ a16 : Addr, a0 = some a16 ∧
 Ld (.int .u64) w13.drew a16 fun x17 =>
 0 ≤ (17 : Int) ∧
 ∃ a18 : Addr, a0 = some a18 ∧
 St w13.drew a18 (Value.int .u64 (xorI .u64 x15 (shlI .u64 x17 17))) fun w19 =>
 ∃ a20 : Addr, a0 = some a20 ∧
 Ld (.int .u64) w19 a20 fun x21 =>
 K x21 w19)
theorem e_slices_xorshift_Next (a0 : Option Addr) (w : World) (K : Int → World → Prop) : den Try.prog 33 (bodyOf Try.f80) none (.seq .leaf (.seq .leaf (.seq .leaf (.seq .leaf (.seq .leaf .leaf))))) (argEnv 0 [(Value.pointer a0)]) [] w (retK Try.prog [.tmp 2] [.one (.int .u64)] K) = s_slices_xorshift_Next a0 w K := by kernel_rfl
theorem ok_slices_xorshift_Next {a0 w K} (h : s_slices_xorshift_Next a0 w K) : c_slices_xorshift_Next a0 w K :=
  fn_sound pok Try.func80 (fn := Try.f80) (c := bodyOf Try.f80) (nt := 33) (by kernel_rfl) (by kernel_rfl) (rs := [.tmp 2]) (by kernel_rfl) [.one (.int .u64)] K (.seq .leaf (.seq .leaf (.seq .leaf (.seq .leaf (.seq .leaf .leaf))))) [(Value.pointer a0)] (by kernel_rfl) w ((e_slices_xorshift_Next a0 w K).mpr h)

/-- slices.medianAdjacentOrdered[string] -/
def s_slices_medianAdjacentOrdered_string (a0 : SliceV) (a1 : Int) (a2 : Option Addr) (w : World) (K : Int → World → Prop) : Prop :=
 (c_slices_medianOrdered_string a0 (IntKind.i64.wrap (a1 - 1)) a1 (IntKind.i64.wrap (a1 + 1)) a2 w fun r4 w5 =>
 K r4 w5)
theorem e_slices_medianAdjacentOrdered_string (a0 : SliceV) (a1 : Int) (a2 : Option Addr) (w : World) (K : Int → World → Prop) : den Try.prog 15 (bodyOf Try.f81) none (.seq .leaf (.seq .leaf .leaf)) (argEnv 0 [(Value.slice a0.a a0.len a0.cap), (Value.int .i64 a1), (Value.pointer a2)]) [] w (retK Try.prog [.tmp 6] [.one (.int .i64)] K) = s_slices_medianAdjacentOrdered_string a0 a1 a2 w K := by kernel_rfl
theorem ok_slices_medianAdjacentOrdered_string {a0 a1 a2 w K} (h : s_slices_medianAdjacentOrdered_string a0 a1 a2 w K) : c_slices_medianAdjacentOrdered_string a0 a1 a2 w K :=
  fn_sound pok Try.func81 (fn := Try.f81) (c := bodyOf Try.f81) (nt := 15) (by kernel_rfl) (by kernel_rfl) (rs := [.tmp 6]) (by kernel_rfl) [.one (.int .i64)] K (.seq .leaf (.seq .leaf .leaf)) [(Value.slice a0.a a0.len a0.cap), (Value.int .i64 a1), (Value.pointer a2)] (by kernel_rfl) w ((e_slices_medianAdjacentOrdered_string a0 a1 a2 w K).mpr h)

/-- slices.medianOrdered[string] -/
def s_slices_medianOrdered_string (a0 : SliceV) (a1 : Int) (a2 : Int) (a3 : Int) (a4 : Option Addr) (w : World) (K : Int → World → Prop) : Prop :=
 (c_slices_order2Ordered_string a0 a1 a2 a4 w fun r6 r7 w8 =>
 c_slices_order2Ordered_string a0 r7 a3 a4 w8 fun r9 r10 w11 =>
 c_slices_order2Ordered_string a0 r6 r9 a4 w11 fun r12 r13 w14 =>
 K r13 w14)
theorem e_slices_medianOrdered_string (a0 : SliceV) (a1 : Int) (a2 : Int) (a3 : Int) (a4 : Option Addr) (w : World) (K : Int → World → Prop) : den Try.prog 36 (bodyOf Try.f82) none (.seq .leaf (.seq .leaf (.seq .leaf (.seq .leaf (.seq .leaf .leaf))))) (argEnv 0 [(Value.slice a0.a a0.len a0.cap), (Value.int .i64 a1), (Value.int .i64 a2), (Value.int .i64 a3), (Value.pointer a4)]) [] w (retK Try.prog [.tmp 10] [.one (.int .i64)] K) = s_slices_medianOrdered_string a0 a1 a2 a3 a4 w K := by kernel_rfl
theorem ok_slices_medianOrdered_string {a0 a1 a2 a3 a4 w K} (h : s_slices_medianOrdered_string a0 a1 a2 a3 a4 w K) : c_slices_medianOrdered_string a0 a1 a2 a3 a4 w K :=
  fn_sound pok Try.func82 (fn := Try.f82) (c := bodyOf Try.f82) (nt := 36) (by kernel_rfl) (by kernel_rfl) (rs := [.tmp 10]) (by kernel_rfl) [.one (.int .i64)] K (.seq .leaf (.seq .leaf (.seq .leaf (.seq .leaf (.seq .leaf .leaf))))) [(Value.slice a0.a a0.len a0.cap), (Value.int .i64 a1), (Value.int .i64 a2), (Value.int .i64 a3), (Value.pointer a4)] (by kernel_rfl) w ((e_slices_medianOrdered_string a0 a1 a2 a3 a4 w K).mpr h)

/-- cmp.isNaN[string] -/
def s_cmp_isNaN_string (a0 : ByteArray) (w : World) (K : Bool → World → Prop) : Prop :=
 (K (!strEq a0 a0) w)
theorem e_cmp_isNaN_string (a0 : ByteArray) (w : World) (K : Bool → World → Prop) : den Try.prog 6 (bodyOf Try.f83) none (.seq .leaf (.seq .leaf .leaf)) (argEnv 0 [(Value.string a0)]) [] w (retK Try.prog [.tmp 2] [.one .bool] K) = s_cmp_isNaN_string a0 w K := by kernel_rfl
theorem ok_cmp_isNaN_string {a0 w K} (h : s_cmp_isNaN_string a0 w K) : c_cmp_isNaN_string a0 w K :=
  fn_sound pok Try.func83 (fn := Try.f83) (c := bodyOf Try.f83) (nt := 6) (by kernel_rfl) (by kernel_rfl) (rs := [.tmp 2]) (by kernel_rfl) [.one .bool] K (.seq .leaf (.seq .leaf .leaf)) [(Value.string a0)] (by kernel_rfl) w ((e_cmp_isNaN_string a0 w K).mpr h)

/-- slices.Reverse[[]goosepond/holes.piece,goosepond/holes.piece] -/
def s_slices_Reverse_holes_piece_holes_piece (a0 : SliceV) (w : World) (K : World → Prop) : Prop :=
 (LoopP (S := Int × Int × Unit) (fun s2 w3 next4 =>
 (bif (decide (s2.1 < s2.2.1)) then
 AtIx a0 3 s2.2.1 fun a5 =>
 Ld (.int .i64) w3.drew (a5.add 0) fun x6 =>
 Ld .bool w3.drew (a5.add 1) fun x7 =>
 Ld .slice w3.drew (a5.add 2) fun x8 =>
 AtIx a0 3 s2.1 fun a9 =>
 Ld (.int .i64) w3.drew (a9.add 0) fun x10 =>
 Ld .bool w3.drew (a9.add 1) fun x11 =>
 Ld .slice w3.drew (a9.add 2) fun x12 =>
 AtIx a0 3 s2.1 fun a13 =>
 StN [(Value.int .i64 x6), (Value.bool x7), (Value.slice x8.a x8.len x8.cap)] w3.drew a13 0 fun w14 =>
 AtIx a0 3 s2.2.1 fun a15 =>
 StN [(Value.int .i64 x10), (Value.bool x11), (Value.slice x12.a x12.len x12.cap)] w14 a15 0 fun w16 =>
 next4 ((IntKind.i64.wrap (s2.1 + 1)), (IntKind.i64.wrap (s2.2.1 - 1)), ()) w16
 else
 K w3)) (0, (IntKind.i64.wrap ((a0.len : Int) - 1)), ()) w)
theorem e_slices_Reverse_holes_piece_holes_piece (a0 : SliceV) (w : World) (K : World → Prop) : den Try.prog 28 (bodyOf Try.f84) none (.seq .leaf (.blk (.loop [(2, (.int .i64)), (3, (.int .i64))] (.seq (.seq .leaf (.cond .leaf .leaf)) (.seq (.blk .leaf) .leaf))))) (argEnv 0 [(Value.slice a0.a a0.len a0.cap)]) [] w (retK Try.prog [] [] K) = s_slices_Reverse_holes_piece_holes_piece a0 w K := by kernel_rfl
theorem ok_slices_Reverse_holes_piece_holes_piece {a0 w K} (h : s_slices_Reverse_holes_piece_holes_piece a0 w K) : c_slices_Reverse_holes_piece_holes_piece a0 w K :=
  fn_sound pok Try.func84 (fn := Try.f84) (c := bodyOf Try.f84) (nt := 28) (by kernel_rfl) (by kernel_rfl) (rs := []) (by kernel_rfl) [] K (.seq .leaf (.blk (.loop [(2, (.int .i64)), (3, (.int .i64))] (.seq (.seq .leaf (.cond .leaf .leaf)) (.seq (.blk .leaf) .leaf))))) [(Value.slice a0.a a0.len a0.cap)] (by kernel_rfl) w ((e_slices_Reverse_holes_piece_holes_piece a0 w K).mpr h)

/-- slices.order2Ordered[string] -/
def s_slices_order2Ordered_string (a0 : SliceV) (a1 : Int) (a2 : Int) (a3 : Option Addr) (w : World) (K : Int → Int → World → Prop) : Prop :=
 (AtIx a0 1 a2 fun a5 =>
 Ld .str w.drew a5 fun x6 =>
 AtIx a0 1 a1 fun a7 =>
 Ld .str w.drew a7 fun x8 =>
 c_cmp_Less_string x6 x8 w.drew fun r9 w10 =>
 (bif r9 then
 ∃ a11 : Addr, a3 = some a11 ∧
 Ld (.int .i64) w10 a11 fun x12 =>
 ∃ a13 : Addr, a3 = some a13 ∧
 St w10 a13 (Value.int .i64 (IntKind.i64.wrap (x12 + 1))) fun w14 =>
 K a2 a1 w14
 else
 K a1 a2 w10))
theorem e_slices_order2Ordered_string (a0 : SliceV) (a1 : Int) (a2 : Int) (a3 : Option Addr) (w : World) (K : Int → Int → World → Prop) : den Try.prog 28 (bodyOf Try.f85) none (.seq .leaf (.seq (.seq .leaf (.cond (.seq .leaf (.seq .leaf .leaf)) .leaf)) (.seq .leaf .leaf))) (argEnv 0 [(Value.slice a0.a a0.len a0.cap), (Value.int .i64 a1), (Value.int .i64 a2), (Value.pointer a3)]) [] w (retK Try.prog [.tmp 8, .tmp 9] [.one (.int .i64), .one (.int .i64)] K) = s_slices_order2Ordered_string a0 a1 a2 a3 w K := by kernel_rfl
theorem ok_slices_order2Ordered_string {a0 a1 a2 a3 w K} (h : s_slices_order2Ordered_string a0 a1 a2 a3 w K) : c_slices_order2Ordered_string a0 a1 a2 a3 w K :=
  fn_sound pok Try.func85 (fn := Try.f85) (c := bodyOf Try.f85) (nt := 28) (by kernel_rfl) (by kernel_rfl) (rs := [.tmp 8, .tmp 9]) (by kernel_rfl) [.one (.int .i64), .one (.int .i64)] K (.seq .leaf (.seq (.seq .leaf (.cond (.seq .leaf (.seq .leaf .leaf)) .leaf)) (.seq .leaf .leaf))) [(Value.slice a0.a a0.len a0.cap), (Value.int .i64 a1), (Value.int .i64 a2), (Value.pointer a3)] (by kernel_rfl) w ((e_slices_order2Ordered_string a0 a1 a2 a3 w K).mpr h)

end Go.Proofs
