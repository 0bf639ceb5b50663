import Derived.Test.YtjllddbdblccgaaFn
import Derived.Test.YtjllddbdblccgaaProg
import Derived.KernelRfl
namespace Go.Proofs
open Gp
set_option maxRecDepth 100000
set_option maxHeartbeats 4000000
theorem pok : POk Try.prog := POk.of_all (by kernel_rfl) (by kernel_rfl)

/-- goosepond/goosepondlaw15.HolesGaps -/
abbrev n_law15_HolesGaps : FuncId := 3
def c_law15_HolesGaps (a0 : SliceV) (w : World) (K : Bool → World → Prop) : Prop :=
  Calls Try.prog 3 ⟨[(Value.slice a0.a a0.len a0.cap)]⟩ w fun e w' => ∃ y79 : Bool, e = .returned (Value.bool y79) ∧ K y79 w'
theorem cm_law15_HolesGaps {a0 w K K'} (h : c_law15_HolesGaps a0 w K) (hk : ∀ x0 w', K x0 w' → K' x0 w') : c_law15_HolesGaps a0 w K' :=
  Calls.mono h fun e w' hh => by obtain ⟨x0, he, hx⟩ := hh; exact ⟨x0, he, hk _ _ hx⟩

/-- goosepond/goosepondlaw15.HolesOrder -/
abbrev n_law15_HolesOrder : FuncId := 4
def c_law15_HolesOrder (a0 : SliceV) (a1 : SliceV) (w : World) (K : Bool → World → Prop) : Prop :=
  Calls Try.prog 4 ⟨[(Value.slice a0.a a0.len a0.cap), (Value.slice a1.a a1.len a1.cap)]⟩ w fun e w' => ∃ y78 : Bool, e = .returned (Value.bool y78) ∧ K y78 w'
theorem cm_law15_HolesOrder {a0 a1 w K K'} (h : c_law15_HolesOrder a0 a1 w K) (hk : ∀ x0 w', K x0 w' → K' x0 w') : c_law15_HolesOrder a0 a1 w K' :=
  Calls.mono h fun e w' hh => by obtain ⟨x0, he, hx⟩ := hh; exact ⟨x0, he, hk _ _ hx⟩

/-- goosepond/goosepondlaw15.HolesLive -/
abbrev n_law15_HolesLive : FuncId := 5
def c_law15_HolesLive (a0 : SliceV) (w : World) (K : Bool → World → Prop) : Prop :=
  Calls Try.prog 5 ⟨[(Value.slice a0.a a0.len a0.cap)]⟩ w fun e w' => ∃ y60 : Bool, e = .returned (Value.bool y60) ∧ K y60 w'
theorem cm_law15_HolesLive {a0 w K K'} (h : c_law15_HolesLive a0 w K) (hk : ∀ x0 w', K x0 w' → K' x0 w') : c_law15_HolesLive a0 w K' :=
  Calls.mono h fun e w' hh => by obtain ⟨x0, he, hx⟩ := hh; exact ⟨x0, he, hk _ _ hx⟩

/-- goosepond/goosepondlaw15.HolesNobody -/
abbrev n_law15_HolesNobody : FuncId := 6
def c_law15_HolesNobody (a0 : Int) (a1 : Bool) (a2 : SliceV) (w : World) (K : Bool → World → Prop) : Prop :=
  Calls Try.prog 6 ⟨[(Value.int .i64 a0), (Value.bool a1), (Value.slice a2.a a2.len a2.cap)]⟩ w fun e w' => ∃ y39 : Bool, e = .returned (Value.bool y39) ∧ K y39 w'
theorem cm_law15_HolesNobody {a0 a1 a2 w K K'} (h : c_law15_HolesNobody a0 a1 a2 w K) (hk : ∀ x0 w', K x0 w' → K' x0 w') : c_law15_HolesNobody a0 a1 a2 w K' :=
  Calls.mono h fun e w' hh => by obtain ⟨x0, he, hx⟩ := hh; exact ⟨x0, he, hk _ _ hx⟩

/-- goosepond/goosepondlaw15.awake -/
abbrev n_law15_awake : FuncId := 13
def c_law15_awake  (w : World) (K : Bool → World → Prop) : Prop :=
  Calls Try.prog 13 ⟨[]⟩ w fun e w' => ∃ y28 : Bool, e = .returned (Value.bool y28) ∧ K y28 w'
theorem cm_law15_awake { w K K'} (h : c_law15_awake  w K) (hk : ∀ x0 w', K x0 w' → K' x0 w') : c_law15_awake  w K' :=
  Calls.mono h fun e w' hh => by obtain ⟨x0, he, hx⟩ := hh; exact ⟨x0, he, hk _ _ hx⟩

/-- goosepond/goosepondlaw15.far -/
abbrev n_law15_far : FuncId := 14
def c_law15_far (a0 : SliceV) (w : World) (K : Bool → World → Prop) : Prop :=
  Calls Try.prog 14 ⟨[(Value.slice a0.a a0.len a0.cap)]⟩ w fun e w' => ∃ y18 : Bool, e = .returned (Value.bool y18) ∧ K y18 w'
theorem cm_law15_far {a0 w K K'} (h : c_law15_far a0 w K) (hk : ∀ x0 w', K x0 w' → K' x0 w') : c_law15_far a0 w K' :=
  Calls.mono h fun e w' hh => by obtain ⟨x0, he, hx⟩ := hh; exact ⟨x0, he, hk _ _ hx⟩

/-- goosepond/holes.New -/
abbrev n_holes_New : FuncId := 15
def c_holes_New  (w : World) (K : (Option Addr) → World → Prop) : Prop :=
  Calls Try.prog 15 ⟨[]⟩ w fun e w' => ∃ y3 : Option Addr, e = .returned (Value.pointer y3) ∧ K y3 w'
theorem cm_holes_New { w K K'} (h : c_holes_New  w K) (hk : ∀ x0 w', K x0 w' → K' x0 w') : c_holes_New  w K' :=
  Calls.mono h fun e w' hh => by obtain ⟨x0, he, hx⟩ := hh; exact ⟨x0, he, hk _ _ hx⟩

/-- (*goosepond/holes.Holes).Add -/
abbrev n_holes_Holes_Add : FuncId := 16
def c_holes_Holes_Add (a0 : Option Addr) (a1 : Int) (a2 : Bool) (a3 : SliceV) (w : World) (K : Int → World → Prop) : Prop :=
  Calls Try.prog 16 ⟨[(Value.pointer a0), (Value.int .i64 a1), (Value.bool a2), (Value.slice a3.a a3.len a3.cap)]⟩ w fun e w' => ∃ y65 : Int, e = .returned (Value.int .i64 y65) ∧ K y65 w'
theorem cm_holes_Holes_Add {a0 a1 a2 a3 w K K'} (h : c_holes_Holes_Add a0 a1 a2 a3 w K) (hk : ∀ x0 w', K x0 w' → K' x0 w') : c_holes_Holes_Add a0 a1 a2 a3 w K' :=
  Calls.mono h fun e w' hh => by obtain ⟨x0, he, hx⟩ := hh; exact ⟨x0, he, hk _ _ hx⟩

/-- (*goosepond/goosepondref15.Holes).Add -/
abbrev n_ref15_Holes_Add : FuncId := 17
def c_ref15_Holes_Add (a0 : Option Addr) (a1 : Int) (a2 : Bool) (a3 : SliceV) (w : World) (K : Int → World → Prop) : Prop :=
  Calls Try.prog 17 ⟨[(Value.pointer a0), (Value.int .i64 a1), (Value.bool a2), (Value.slice a3.a a3.len a3.cap)]⟩ w fun e w' => ∃ y30 : Int, e = .returned (Value.int .i64 y30) ∧ K y30 w'
theorem cm_ref15_Holes_Add {a0 a1 a2 a3 w K K'} (h : c_ref15_Holes_Add a0 a1 a2 a3 w K) (hk : ∀ x0 w', K x0 w' → K' x0 w') : c_ref15_Holes_Add a0 a1 a2 a3 w K' :=
  Calls.mono h fun e w' hh => by obtain ⟨x0, he, hx⟩ := hh; exact ⟨x0, he, hk _ _ hx⟩

/-- (*goosepond/goosepondref15.Holes).Gaps -/
abbrev n_ref15_Holes_Gaps : FuncId := 18
def c_ref15_Holes_Gaps (a0 : Option Addr) (w : World) (K : SliceV → World → Prop) : Prop :=
  Calls Try.prog 18 ⟨[(Value.pointer a0)]⟩ w fun e w' => ∃ y27 : SliceV, e = .returned (Value.slice y27.a y27.len y27.cap) ∧ K y27 w'
theorem cm_ref15_Holes_Gaps {a0 w K K'} (h : c_ref15_Holes_Gaps a0 w K) (hk : ∀ x0 w', K x0 w' → K' x0 w') : c_ref15_Holes_Gaps a0 w K' :=
  Calls.mono h fun e w' hh => by obtain ⟨x0, he, hx⟩ := hh; exact ⟨x0, he, hk _ _ hx⟩

/-- (*goosepond/holes.Holes).Gaps -/
abbrev n_holes_Holes_Gaps : FuncId := 19
def c_holes_Holes_Gaps (a0 : Option Addr) (w : World) (K : Value → World → Prop) : Prop :=
  Calls Try.prog 19 ⟨[(Value.pointer a0)]⟩ w fun e w' => ∃ y4 : Value, e = .returned y4 ∧ K y4 w'
theorem cm_holes_Holes_Gaps {a0 w K K'} (h : c_holes_Holes_Gaps a0 w K) (hk : ∀ x0 w', K x0 w' → K' x0 w') : c_holes_Holes_Gaps a0 w K' :=
  Calls.mono h fun e w' hh => by obtain ⟨x0, he, hx⟩ := hh; exact ⟨x0, he, hk _ _ hx⟩

/-- (*goosepond/holes.Holes).Done -/
abbrev n_holes_Holes_Done : FuncId := 20
def c_holes_Holes_Done (a0 : Option Addr) (w : World) (K : SliceV → Bool → World → Prop) : Prop :=
  Calls Try.prog 20 ⟨[(Value.pointer a0)]⟩ w fun e w' => ∃ y52 : SliceV, ∃ y53 : Bool, e = .returned (Value.tuple ⟨[(Value.slice y52.a y52.len y52.cap), (Value.bool y53)]⟩) ∧ K y52 y53 w'
theorem cm_holes_Holes_Done {a0 w K K'} (h : c_holes_Holes_Done a0 w K) (hk : ∀ x0 x1 w', K x0 x1 w' → K' x0 x1 w') : c_holes_Holes_Done a0 w K' :=
  Calls.mono h fun e w' hh => by obtain ⟨x0, x1, he, hx⟩ := hh; exact ⟨x0, x1, he, hk _ _ _ hx⟩

/-- bytes.Equal -/
abbrev n_bytes_Equal : FuncId := 21
def c_bytes_Equal (a0 : SliceV) (a1 : SliceV) (w : World) (K : Bool → World → Prop) : Prop :=
  Calls Try.prog 21 ⟨[(Value.slice a0.a a0.len a0.cap), (Value.slice a1.a a1.len a1.cap)]⟩ w fun e w' => ∃ y5 : Bool, e = .returned (Value.bool y5) ∧ K y5 w'
theorem cm_bytes_Equal {a0 a1 w K K'} (h : c_bytes_Equal a0 a1 w K) (hk : ∀ x0 w', K x0 w' → K' x0 w') : c_bytes_Equal a0 a1 w K' :=
  Calls.mono h fun e w' hh => by obtain ⟨x0, he, hx⟩ := hh; exact ⟨x0, he, hk _ _ hx⟩

/-- (*goosepond/holes.Holes).Room -/
abbrev n_holes_Holes_Room : FuncId := 22
def c_holes_Holes_Room (a0 : Option Addr) (a1 : Int) (a2 : SliceV) (w : World) (K : Int → World → Prop) : Prop :=
  Calls Try.prog 22 ⟨[(Value.pointer a0), (Value.int .i64 a1), (Value.slice a2.a a2.len a2.cap)]⟩ w fun e w' => ∃ y13 : Int, e = .returned (Value.int .i64 y13) ∧ K y13 w'
theorem cm_holes_Holes_Room {a0 a1 a2 w K K'} (h : c_holes_Holes_Room a0 a1 a2 w K) (hk : ∀ x0 w', K x0 w' → K' x0 w') : c_holes_Holes_Room a0 a1 a2 w K' :=
  Calls.mono h fun e w' hh => by obtain ⟨x0, he, hx⟩ := hh; exact ⟨x0, he, hk _ _ hx⟩

/-- (*goosepond/goosepondref15.Holes).Room -/
abbrev n_ref15_Holes_Room : FuncId := 23
def c_ref15_Holes_Room (a0 : Option Addr) (a1 : Int) (a2 : SliceV) (w : World) (K : Int → World → Prop) : Prop :=
  Calls Try.prog 23 ⟨[(Value.pointer a0), (Value.int .i64 a1), (Value.slice a2.a a2.len a2.cap)]⟩ w fun e w' => ∃ y11 : Int, e = .returned (Value.int .i64 y11) ∧ K y11 w'
theorem cm_ref15_Holes_Room {a0 a1 a2 w K K'} (h : c_ref15_Holes_Room a0 a1 a2 w K) (hk : ∀ x0 w', K x0 w' → K' x0 w') : c_ref15_Holes_Room a0 a1 a2 w K' :=
  Calls.mono h fun e w' hh => by obtain ⟨x0, he, hx⟩ := hh; exact ⟨x0, he, hk _ _ hx⟩

/-- (*goosepond/holes.Holes).Bytes -/
abbrev n_holes_Holes_Bytes : FuncId := 24
def c_holes_Holes_Bytes (a0 : Option Addr) (w : World) (K : Int → World → Prop) : Prop :=
  Calls Try.prog 24 ⟨[(Value.pointer a0)]⟩ w fun e w' => ∃ y6 : Int, e = .returned (Value.int .i64 y6) ∧ K y6 w'
theorem cm_holes_Holes_Bytes {a0 w K K'} (h : c_holes_Holes_Bytes a0 w K) (hk : ∀ x0 w', K x0 w' → K' x0 w') : c_holes_Holes_Bytes a0 w K' :=
  Calls.mono h fun e w' hh => by obtain ⟨x0, he, hx⟩ := hh; exact ⟨x0, he, hk _ _ hx⟩

/-- (*goosepond/goosepondref15.Holes).Bytes -/
abbrev n_ref15_Holes_Bytes : FuncId := 25
def c_ref15_Holes_Bytes (a0 : Option Addr) (w : World) (K : Int → World → Prop) : Prop :=
  Calls Try.prog 25 ⟨[(Value.pointer a0)]⟩ w fun e w' => ∃ y11 : Int, e = .returned (Value.int .i64 y11) ∧ K y11 w'
theorem cm_ref15_Holes_Bytes {a0 w K K'} (h : c_ref15_Holes_Bytes a0 w K) (hk : ∀ x0 w', K x0 w' → K' x0 w') : c_ref15_Holes_Bytes a0 w K' :=
  Calls.mono h fun e w' hh => by obtain ⟨x0, he, hx⟩ := hh; exact ⟨x0, he, hk _ _ hx⟩

/-- (*goosepond/goosepondref15.Holes).Done -/
abbrev n_ref15_Holes_Done : FuncId := 26
def c_ref15_Holes_Done (a0 : Option Addr) (w : World) (K : SliceV → Bool → World → Prop) : Prop :=
  Calls Try.prog 26 ⟨[(Value.pointer a0)]⟩ w fun e w' => ∃ y35 : SliceV, ∃ y36 : Bool, e = .returned (Value.tuple ⟨[(Value.slice y35.a y35.len y35.cap), (Value.bool y36)]⟩) ∧ K y35 y36 w'
theorem cm_ref15_Holes_Done {a0 w K K'} (h : c_ref15_Holes_Done a0 w K) (hk : ∀ x0 x1 w', K x0 x1 w' → K' x0 x1 w') : c_ref15_Holes_Done a0 w K' :=
  Calls.mono h fun e w' hh => by obtain ⟨x0, x1, he, hx⟩ := hh; exact ⟨x0, x1, he, hk _ _ _ hx⟩

/-- (*goosepond/holes.Holes).ready -/
abbrev n_holes_Holes_ready : FuncId := 46
def c_holes_Holes_ready (a0 : Option Addr) (w : World) (K : Bool → World → Prop) : Prop :=
  Calls Try.prog 46 ⟨[(Value.pointer a0)]⟩ w fun e w' => ∃ y6 : Bool, e = .returned (Value.bool y6) ∧ K y6 w'
theorem cm_holes_Holes_ready {a0 w K K'} (h : c_holes_Holes_ready a0 w K) (hk : ∀ x0 w', K x0 w' → K' x0 w') : c_holes_Holes_ready a0 w K' :=
  Calls.mono h fun e w' hh => by obtain ⟨x0, he, hx⟩ := hh; exact ⟨x0, he, hk _ _ hx⟩

/-- goosepond/holes.may -/
abbrev n_holes_may : FuncId := 47
def c_holes_may (a0_0 : Int) (a0_1 : Bool) (a0_2 : SliceV) (w : World) (K : Int → World → Prop) : Prop :=
  Calls Try.prog 47 ⟨[(Value.agg ⟨[(Value.int .i64 a0_0), (Value.bool a0_1), (Value.slice a0_2.a a0_2.len a0_2.cap)]⟩)]⟩ w fun e w' => ∃ y12 : Int, e = .returned (Value.int .i64 y12) ∧ K y12 w'
theorem cm_holes_may {a0_0 a0_1 a0_2 w K K'} (h : c_holes_may a0_0 a0_1 a0_2 w K) (hk : ∀ x0 w', K x0 w' → K' x0 w') : c_holes_may a0_0 a0_1 a0_2 w K' :=
  Calls.mono h fun e w' hh => by obtain ⟨x0, he, hx⟩ := hh; exact ⟨x0, he, hk _ _ hx⟩

/-- (*goosepond/holes.Holes).has -/
abbrev n_holes_Holes_has : FuncId := 48
def c_holes_Holes_has (a0 : Option Addr) (a1_0 : Int) (a1_1 : Bool) (a1_2 : SliceV) (w : World) (K : Bool → World → Prop) : Prop :=
  Calls Try.prog 48 ⟨[(Value.pointer a0), (Value.agg ⟨[(Value.int .i64 a1_0), (Value.bool a1_1), (Value.slice a1_2.a a1_2.len a1_2.cap)]⟩)]⟩ w fun e w' => ∃ y12 : Bool, e = .returned (Value.bool y12) ∧ K y12 w'
theorem cm_holes_Holes_has {a0 a1_0 a1_1 a1_2 w K K'} (h : c_holes_Holes_has a0 a1_0 a1_1 a1_2 w K) (hk : ∀ x0 w', K x0 w' → K' x0 w') : c_holes_Holes_has a0 a1_0 a1_1 a1_2 w K' :=
  Calls.mono h fun e w' hh => by obtain ⟨x0, he, hx⟩ := hh; exact ⟨x0, he, hk _ _ hx⟩

/-- (*goosepond/holes.Holes).meets -/
abbrev n_holes_Holes_meets : FuncId := 49
def c_holes_Holes_meets (a0 : Option Addr) (a1_0 : Int) (a1_1 : Bool) (a1_2 : SliceV) (w : World) (K : Bool → World → Prop) : Prop :=
  Calls Try.prog 49 ⟨[(Value.pointer a0), (Value.agg ⟨[(Value.int .i64 a1_0), (Value.bool a1_1), (Value.slice a1_2.a a1_2.len a1_2.cap)]⟩)]⟩ w fun e w' => ∃ y46 : Bool, e = .returned (Value.bool y46) ∧ K y46 w'
theorem cm_holes_Holes_meets {a0 a1_0 a1_1 a1_2 w K K'} (h : c_holes_Holes_meets a0 a1_0 a1_1 a1_2 w K) (hk : ∀ x0 w', K x0 w' → K' x0 w') : c_holes_Holes_meets a0 a1_0 a1_1 a1_2 w K' :=
  Calls.mono h fun e w' hh => by obtain ⟨x0, he, hx⟩ := hh; exact ⟨x0, he, hk _ _ hx⟩

/-- (*goosepond/holes.Holes).fits -/
abbrev n_holes_Holes_fits : FuncId := 50
def c_holes_Holes_fits (a0 : Option Addr) (a1_0 : Int) (a1_1 : Bool) (a1_2 : SliceV) (w : World) (K : Bool → World → Prop) : Prop :=
  Calls Try.prog 50 ⟨[(Value.pointer a0), (Value.agg ⟨[(Value.int .i64 a1_0), (Value.bool a1_1), (Value.slice a1_2.a a1_2.len a1_2.cap)]⟩)]⟩ w fun e w' => ∃ y30 : Bool, e = .returned (Value.bool y30) ∧ K y30 w'
theorem cm_holes_Holes_fits {a0 a1_0 a1_1 a1_2 w K K'} (h : c_holes_Holes_fits a0 a1_0 a1_1 a1_2 w K) (hk : ∀ x0 w', K x0 w' → K' x0 w') : c_holes_Holes_fits a0 a1_0 a1_1 a1_2 w K' :=
  Calls.mono h fun e w' hh => by obtain ⟨x0, he, hx⟩ := hh; exact ⟨x0, he, hk _ _ hx⟩

/-- slices.Clone[[]byte,byte] -/
abbrev n_slices_Clone_byte_byte : FuncId := 51
def c_slices_Clone_byte_byte (a0 : SliceV) (w : World) (K : SliceV → World → Prop) : Prop :=
  Calls Try.prog 51 ⟨[(Value.slice a0.a a0.len a0.cap)]⟩ w fun e w' => ∃ y6 : SliceV, e = .returned (Value.slice y6.a y6.len y6.cap) ∧ K y6 w'
theorem cm_slices_Clone_byte_byte {a0 w K K'} (h : c_slices_Clone_byte_byte a0 w K) (hk : ∀ x0 w', K x0 w' → K' x0 w') : c_slices_Clone_byte_byte a0 w K' :=
  Calls.mono h fun e w' hh => by obtain ⟨x0, he, hx⟩ := hh; exact ⟨x0, he, hk _ _ hx⟩

/-- slices.BinarySearchFunc[[]goosepond/holes.piece,goosepond/holes.piece,goosepond/holes.piece] -/
abbrev n_slices_BinarySearchFunc_holes_piece_holes_piece_holes_piece : FuncId := 52
def c_slices_BinarySearchFunc_holes_piece_holes_piece_holes_piece (a0 : SliceV) (a1_0 : Int) (a1_1 : Bool) (a1_2 : SliceV) (a2 : Value) (w : World) (K : Int → Bool → World → Prop) : Prop :=
  Calls Try.prog 52 ⟨[(Value.slice a0.a a0.len a0.cap), (Value.agg ⟨[(Value.int .i64 a1_0), (Value.bool a1_1), (Value.slice a1_2.a a1_2.len a1_2.cap)]⟩), a2]⟩ w fun e w' => ∃ y33 : Int, ∃ y34 : Bool, e = .returned (Value.tuple ⟨[(Value.int .i64 y33), (Value.bool y34)]⟩) ∧ K y33 y34 w'
theorem cm_slices_BinarySearchFunc_holes_piece_holes_piece_holes_piece {a0 a1_0 a1_1 a1_2 a2 w K K'} (h : c_slices_BinarySearchFunc_holes_piece_holes_piece_holes_piece a0 a1_0 a1_1 a1_2 a2 w K) (hk : ∀ x0 x1 w', K x0 x1 w' → K' x0 x1 w') : c_slices_BinarySearchFunc_holes_piece_holes_piece_holes_piece a0 a1_0 a1_1 a1_2 a2 w K' :=
  Calls.mono h fun e w' hh => by obtain ⟨x0, x1, he, hx⟩ := hh; exact ⟨x0, x1, he, hk _ _ _ hx⟩

/-- goosepond/holes.order -/
abbrev n_holes_order : FuncId := 53
def c_holes_order (a0_0 : Int) (a0_1 : Bool) (a0_2 : SliceV) (a1_0 : Int) (a1_1 : Bool) (a1_2 : SliceV) (w : World) (K : Int → World → Prop) : Prop :=
  Calls Try.prog 53 ⟨[(Value.agg ⟨[(Value.int .i64 a0_0), (Value.bool a0_1), (Value.slice a0_2.a a0_2.len a0_2.cap)]⟩), (Value.agg ⟨[(Value.int .i64 a1_0), (Value.bool a1_1), (Value.slice a1_2.a a1_2.len a1_2.cap)]⟩)]⟩ w fun e w' => ∃ y19 : Int, e = .returned (Value.int .i64 y19) ∧ K y19 w'
theorem cm_holes_order {a0_0 a0_1 a0_2 a1_0 a1_1 a1_2 w K K'} (h : c_holes_order a0_0 a0_1 a0_2 a1_0 a1_1 a1_2 w K) (hk : ∀ x0 w', K x0 w' → K' x0 w') : c_holes_order a0_0 a0_1 a0_2 a1_0 a1_1 a1_2 w K' :=
  Calls.mono h fun e w' hh => by obtain ⟨x0, he, hx⟩ := hh; exact ⟨x0, he, hk _ _ hx⟩

/-- slices.Insert[[]goosepond/holes.piece,goosepond/holes.piece] -/
abbrev n_slices_Insert_holes_piece_holes_piece : FuncId := 54
def c_slices_Insert_holes_piece_holes_piece (a0 : SliceV) (a1 : Int) (a2 : SliceV) (w : World) (K : SliceV → World → Prop) : Prop :=
  Calls Try.prog 54 ⟨[(Value.slice a0.a a0.len a0.cap), (Value.int .i64 a1), (Value.slice a2.a a2.len a2.cap)]⟩ w fun e w' => ∃ y34 : SliceV, e = .returned (Value.slice y34.a y34.len y34.cap) ∧ K y34 w'
theorem cm_slices_Insert_holes_piece_holes_piece {a0 a1 a2 w K K'} (h : c_slices_Insert_holes_piece_holes_piece a0 a1 a2 w K) (hk : ∀ x0 w', K x0 w' → K' x0 w') : c_slices_Insert_holes_piece_holes_piece a0 a1 a2 w K' :=
  Calls.mono h fun e w' hh => by obtain ⟨x0, he, hx⟩ := hh; exact ⟨x0, he, hk _ _ hx⟩

/-- (goosepond/holes.piece).end -/
abbrev n_holes_piece_end : FuncId := 55
def c_holes_piece_end (a0_0 : Int) (a0_1 : Bool) (a0_2 : SliceV) (w : World) (K : Int → World → Prop) : Prop :=
  Calls Try.prog 55 ⟨[(Value.agg ⟨[(Value.int .i64 a0_0), (Value.bool a0_1), (Value.slice a0_2.a a0_2.len a0_2.cap)]⟩)]⟩ w fun e w' => ∃ y6 : Int, e = .returned (Value.int .i64 y6) ∧ K y6 w'
theorem cm_holes_piece_end {a0_0 a0_1 a0_2 w K K'} (h : c_holes_piece_end a0_0 a0_1 a0_2 w K) (hk : ∀ x0 w', K x0 w' → K' x0 w') : c_holes_piece_end a0_0 a0_1 a0_2 w K' :=
  Calls.mono h fun e w' hh => by obtain ⟨x0, he, hx⟩ := hh; exact ⟨x0, he, hk _ _ hx⟩

/-- (*goosepond/goosepondref15.Holes).same -/
abbrev n_ref15_Holes_same : FuncId := 56
def c_ref15_Holes_same (a0 : Option Addr) (a1 : Int) (a2 : Bool) (a3 : SliceV) (w : World) (K : Bool → World → Prop) : Prop :=
  Calls Try.prog 56 ⟨[(Value.pointer a0), (Value.int .i64 a1), (Value.bool a2), (Value.slice a3.a a3.len a3.cap)]⟩ w fun e w' => ∃ y26 : Bool, e = .returned (Value.bool y26) ∧ K y26 w'
theorem cm_ref15_Holes_same {a0 a1 a2 a3 w K K'} (h : c_ref15_Holes_same a0 a1 a2 a3 w K) (hk : ∀ x0 w', K x0 w' → K' x0 w') : c_ref15_Holes_same a0 a1 a2 a3 w K' :=
  Calls.mono h fun e w' hh => by obtain ⟨x0, he, hx⟩ := hh; exact ⟨x0, he, hk _ _ hx⟩

/-- (*goosepond/goosepondref15.Holes).shares -/
abbrev n_ref15_Holes_shares : FuncId := 57
def c_ref15_Holes_shares (a0 : Option Addr) (a1 : Int) (a2 : SliceV) (w : World) (K : Bool → World → Prop) : Prop :=
  Calls Try.prog 57 ⟨[(Value.pointer a0), (Value.int .i64 a1), (Value.slice a2.a a2.len a2.cap)]⟩ w fun e w' => ∃ y32 : Bool, e = .returned (Value.bool y32) ∧ K y32 w'
theorem cm_ref15_Holes_shares {a0 a1 a2 w K K'} (h : c_ref15_Holes_shares a0 a1 a2 w K) (hk : ∀ x0 w', K x0 w' → K' x0 w') : c_ref15_Holes_shares a0 a1 a2 w K' :=
  Calls.mono h fun e w' hh => by obtain ⟨x0, he, hx⟩ := hh; exact ⟨x0, he, hk _ _ hx⟩

/-- (*goosepond/goosepondref15.Holes).end -/
abbrev n_ref15_Holes_end : FuncId := 58
def c_ref15_Holes_end (a0 : Option Addr) (w : World) (K : Int → World → Prop) : Prop :=
  Calls Try.prog 58 ⟨[(Value.pointer a0)]⟩ w fun e w' => ∃ y19 : Int, e = .returned (Value.int .i64 y19) ∧ K y19 w'
theorem cm_ref15_Holes_end {a0 w K K'} (h : c_ref15_Holes_end a0 w K) (hk : ∀ x0 w', K x0 w' → K' x0 w') : c_ref15_Holes_end a0 w K' :=
  Calls.mono h fun e w' hh => by obtain ⟨x0, he, hx⟩ := hh; exact ⟨x0, he, hk _ _ hx⟩

/-- (*goosepond/goosepondref15.Holes).Far -/
abbrev n_ref15_Holes_Far : FuncId := 59
def c_ref15_Holes_Far (a0 : Option Addr) (w : World) (K : Int → World → Prop) : Prop :=
  Calls Try.prog 59 ⟨[(Value.pointer a0)]⟩ w fun e w' => ∃ y15 : Int, e = .returned (Value.int .i64 y15) ∧ K y15 w'
theorem cm_ref15_Holes_Far {a0 w K K'} (h : c_ref15_Holes_Far a0 w K) (hk : ∀ x0 w', K x0 w' → K' x0 w') : c_ref15_Holes_Far a0 w K' :=
  Calls.mono h fun e w' hh => by obtain ⟨x0, he, hx⟩ := hh; exact ⟨x0, he, hk _ _ hx⟩

/-- (*goosepond/goosepondref15.Holes).Cover -/
abbrev n_ref15_Holes_Cover : FuncId := 60
def c_ref15_Holes_Cover (a0 : Option Addr) (a1 : Int) (w : World) (K : Bool → World → Prop) : Prop :=
  Calls Try.prog 60 ⟨[(Value.pointer a0), (Value.int .i64 a1)]⟩ w fun e w' => ∃ y23 : Bool, e = .returned (Value.bool y23) ∧ K y23 w'
theorem cm_ref15_Holes_Cover {a0 a1 w K K'} (h : c_ref15_Holes_Cover a0 a1 w K) (hk : ∀ x0 w', K x0 w' → K' x0 w') : c_ref15_Holes_Cover a0 a1 w K' :=
  Calls.mono h fun e w' hh => by obtain ⟨x0, he, hx⟩ := hh; exact ⟨x0, he, hk _ _ hx⟩

/-- (*goosepond/holes.Holes).Gaps$1 -/
abbrev n_holes_Holes_Gaps_1 : FuncId := 61
def c_holes_Holes_Gaps_1 (a0 : Value) (f0 : Addr) (w : World) (K : World → Prop) : Prop :=
  Calls Try.prog 61 ⟨[a0, (Value.pointer (some f0))]⟩ w fun e w' => e = .returned (Value.tuple ⟨[]⟩) ∧ K w'
theorem cm_holes_Holes_Gaps_1 {a0 f0 w K K'} (h : c_holes_Holes_Gaps_1 a0 f0 w K) (hk : ∀  w', K  w' → K'  w') : c_holes_Holes_Gaps_1 a0 f0 w K' :=
  Calls.mono h fun e w' hh => by obtain ⟨he, hx⟩ := hh; exact ⟨he, hk  _ hx⟩

/-- slices.ContainsFunc[[]goosepond/holes.piece,goosepond/holes.piece] -/
abbrev n_slices_ContainsFunc_holes_piece_holes_piece : FuncId := 77
def c_slices_ContainsFunc_holes_piece_holes_piece (a0 : SliceV) (a1 : Value) (w : World) (K : Bool → World → Prop) : Prop :=
  Calls Try.prog 77 ⟨[(Value.slice a0.a a0.len a0.cap), a1]⟩ w fun e w' => ∃ y5 : Bool, e = .returned (Value.bool y5) ∧ K y5 w'
theorem cm_slices_ContainsFunc_holes_piece_holes_piece {a0 a1 w K K'} (h : c_slices_ContainsFunc_holes_piece_holes_piece a0 a1 w K) (hk : ∀ x0 w', K x0 w' → K' x0 w') : c_slices_ContainsFunc_holes_piece_holes_piece a0 a1 w K' :=
  Calls.mono h fun e w' hh => by obtain ⟨x0, he, hx⟩ := hh; exact ⟨x0, he, hk _ _ hx⟩

/-- (goosepond/holes.piece).is -/
abbrev n_holes_piece_is : FuncId := 78
def c_holes_piece_is (a0_0 : Int) (a0_1 : Bool) (a0_2 : SliceV) (a1_0 : Int) (a1_1 : Bool) (a1_2 : SliceV) (w : World) (K : Bool → World → Prop) : Prop :=
  Calls Try.prog 78 ⟨[(Value.agg ⟨[(Value.int .i64 a0_0), (Value.bool a0_1), (Value.slice a0_2.a a0_2.len a0_2.cap)]⟩), (Value.agg ⟨[(Value.int .i64 a1_0), (Value.bool a1_1), (Value.slice a1_2.a a1_2.len a1_2.cap)]⟩)]⟩ w fun e w' => ∃ y18 : Bool, e = .returned (Value.bool y18) ∧ K y18 w'
theorem cm_holes_piece_is {a0_0 a0_1 a0_2 a1_0 a1_1 a1_2 w K K'} (h : c_holes_piece_is a0_0 a0_1 a0_2 a1_0 a1_1 a1_2 w K) (hk : ∀ x0 w', K x0 w' → K' x0 w') : c_holes_piece_is a0_0 a0_1 a0_2 a1_0 a1_1 a1_2 w K' :=
  Calls.mono h fun e w' hh => by obtain ⟨x0, he, hx⟩ := hh; exact ⟨x0, he, hk _ _ hx⟩

/-- (*goosepond/holes.Holes).far -/
abbrev n_holes_Holes_far : FuncId := 79
def c_holes_Holes_far (a0 : Option Addr) (w : World) (K : Int → World → Prop) : Prop :=
  Calls Try.prog 79 ⟨[(Value.pointer a0)]⟩ w fun e w' => ∃ y19 : Int, e = .returned (Value.int .i64 y19) ∧ K y19 w'
theorem cm_holes_Holes_far {a0 w K K'} (h : c_holes_Holes_far a0 w K) (hk : ∀ x0 w', K x0 w' → K' x0 w') : c_holes_Holes_far a0 w K' :=
  Calls.mono h fun e w' hh => by obtain ⟨x0, he, hx⟩ := hh; exact ⟨x0, he, hk _ _ hx⟩

/-- cmp.Or[int] -/
abbrev n_cmp_Or_int : FuncId := 80
def c_cmp_Or_int (a0 : SliceV) (w : World) (K : Int → World → Prop) : Prop :=
  Calls Try.prog 80 ⟨[(Value.slice a0.a a0.len a0.cap)]⟩ w fun e w' => ∃ y7 : Int, e = .returned (Value.int .i64 y7) ∧ K y7 w'
theorem cm_cmp_Or_int {a0 w K K'} (h : c_cmp_Or_int a0 w K) (hk : ∀ x0 w', K x0 w' → K' x0 w') : c_cmp_Or_int a0 w K' :=
  Calls.mono h fun e w' hh => by obtain ⟨x0, he, hx⟩ := hh; exact ⟨x0, he, hk _ _ hx⟩

/-- cmp.Compare[int] -/
abbrev n_cmp_Compare_int : FuncId := 81
def c_cmp_Compare_int (a0 : Int) (a1 : Int) (w : World) (K : Int → World → Prop) : Prop :=
  Calls Try.prog 81 ⟨[(Value.int .i64 a0), (Value.int .i64 a1)]⟩ w fun e w' => ∃ y7 : Int, e = .returned (Value.int .i64 y7) ∧ K y7 w'
theorem cm_cmp_Compare_int {a0 a1 w K K'} (h : c_cmp_Compare_int a0 a1 w K) (hk : ∀ x0 w', K x0 w' → K' x0 w') : c_cmp_Compare_int a0 a1 w K' :=
  Calls.mono h fun e w' hh => by obtain ⟨x0, he, hx⟩ := hh; exact ⟨x0, he, hk _ _ hx⟩

/-- slices.rotateRight[goosepond/holes.piece] -/
abbrev n_slices_rotateRight_holes_piece : FuncId := 83
def c_slices_rotateRight_holes_piece (a0 : SliceV) (a1 : Int) (w : World) (K : World → Prop) : Prop :=
  Calls Try.prog 83 ⟨[(Value.slice a0.a a0.len a0.cap), (Value.int .i64 a1)]⟩ w fun e w' => e = .returned (Value.tuple ⟨[]⟩) ∧ K w'
theorem cm_slices_rotateRight_holes_piece {a0 a1 w K K'} (h : c_slices_rotateRight_holes_piece a0 a1 w K) (hk : ∀  w', K  w' → K'  w') : c_slices_rotateRight_holes_piece a0 a1 w K' :=
  Calls.mono h fun e w' hh => by obtain ⟨he, hx⟩ := hh; exact ⟨he, hk  _ hx⟩

/-- slices.IndexFunc[[]goosepond/holes.piece,goosepond/holes.piece] -/
abbrev n_slices_IndexFunc_holes_piece_holes_piece : FuncId := 97
def c_slices_IndexFunc_holes_piece_holes_piece (a0 : SliceV) (a1 : Value) (w : World) (K : Int → World → Prop) : Prop :=
  Calls Try.prog 97 ⟨[(Value.slice a0.a a0.len a0.cap), a1]⟩ w fun e w' => ∃ y13 : Int, e = .returned (Value.int .i64 y13) ∧ K y13 w'
theorem cm_slices_IndexFunc_holes_piece_holes_piece {a0 a1 w K K'} (h : c_slices_IndexFunc_holes_piece_holes_piece a0 a1 w K) (hk : ∀ x0 w', K x0 w' → K' x0 w') : c_slices_IndexFunc_holes_piece_holes_piece a0 a1 w K' :=
  Calls.mono h fun e w' hh => by obtain ⟨x0, he, hx⟩ := hh; exact ⟨x0, he, hk _ _ hx⟩

/-- cmp.isNaN[int] -/
abbrev n_cmp_isNaN_int : FuncId := 98
def c_cmp_isNaN_int (a0 : Int) (w : World) (K : Bool → World → Prop) : Prop :=
  Calls Try.prog 98 ⟨[(Value.int .i64 a0)]⟩ w fun e w' => ∃ y2 : Bool, e = .returned (Value.bool y2) ∧ K y2 w'
theorem cm_cmp_isNaN_int {a0 w K K'} (h : c_cmp_isNaN_int a0 w K) (hk : ∀ x0 w', K x0 w' → K' x0 w') : c_cmp_isNaN_int a0 w K' :=
  Calls.mono h fun e w' hh => by obtain ⟨x0, he, hx⟩ := hh; exact ⟨x0, he, hk _ _ hx⟩

/-- slices.rotateLeft[goosepond/holes.piece] -/
abbrev n_slices_rotateLeft_holes_piece : FuncId := 99
def c_slices_rotateLeft_holes_piece (a0 : SliceV) (a1 : Int) (w : World) (K : World → Prop) : Prop :=
  Calls Try.prog 99 ⟨[(Value.slice a0.a a0.len a0.cap), (Value.int .i64 a1)]⟩ w fun e w' => e = .returned (Value.tuple ⟨[]⟩) ∧ K w'
theorem cm_slices_rotateLeft_holes_piece {a0 a1 w K K'} (h : c_slices_rotateLeft_holes_piece a0 a1 w K) (hk : ∀  w', K  w' → K'  w') : c_slices_rotateLeft_holes_piece a0 a1 w K' :=
  Calls.mono h fun e w' hh => by obtain ⟨he, hx⟩ := hh; exact ⟨he, hk  _ hx⟩

/-- slices.Reverse[[]goosepond/holes.piece,goosepond/holes.piece] -/
abbrev n_slices_Reverse_holes_piece_holes_piece : FuncId := 113
def c_slices_Reverse_holes_piece_holes_piece (a0 : SliceV) (w : World) (K : World → Prop) : Prop :=
  Calls Try.prog 113 ⟨[(Value.slice a0.a a0.len a0.cap)]⟩ w fun e w' => e = .returned (Value.tuple ⟨[]⟩) ∧ K w'
theorem cm_slices_Reverse_holes_piece_holes_piece {a0 w K K'} (h : c_slices_Reverse_holes_piece_holes_piece a0 w K) (hk : ∀  w', K  w' → K'  w') : c_slices_Reverse_holes_piece_holes_piece a0 w K' :=
  Calls.mono h fun e w' hh => by obtain ⟨he, hx⟩ := hh; exact ⟨he, hk  _ hx⟩

/-- goosepond/goosepondlaw15.HolesGaps -/
def s_law15_HolesGaps (a0 : SliceV) (w : World) (K : Bool → World → Prop) : Prop :=
 (Al w (.cells ⟨[(Value.bool false)]⟩ 4) fun a3 w2 =>
 c_law15_awake  w2 fun r4 w5 =>
 (bif (!r4) then
 St w5 a3 (Value.bool false) fun w6 =>
 Ld .bool w6 a3 fun y7 =>
 K y7 w6
 else
 c_law15_far a0 w5 fun r8 w9 =>
 (bif r8 then
 c_law15_awake  w9 fun r10 w11 =>
 St w11 a3 (Value.bool r10) fun w12 =>
 Ld .bool w12 a3 fun y13 =>
 K y13 w12
 else
 c_holes_New  w9 fun r14 w15 =>
 Al w15 (.cells ⟨[(Value.slice none 0 0)]⟩ 29) fun a17 w16 =>
 LoopP (S := Int × Unit) (fun s18 w19 next20 =>
 (bif (decide (s18.1 < (a0.len : Int))) then
 AtIx a0 3 s18.1 fun a21 =>
 Ld (.int .i64) w19 (a21.add 0) fun x22 =>
 Ld .bool w19 (a21.add 1) fun x23 =>
 Ld .slice w19 (a21.add 2) fun x24 =>
 Al w19 (.cells ⟨[(Value.int .i64 0), (Value.bool false), (Value.slice none 0 0)]⟩ 32) fun a26 w25 =>
 StN [(Value.int .i64 x22), (Value.bool x23), (Value.slice x24.a x24.len x24.cap)] w25 a26 0 fun w27 =>
 Ld (.int .i64) w27 a26 fun x28 =>
 Ld .bool w27 (a26.add 1) fun x29 =>
 Ld .slice w27 (a26.add 2) fun x30 =>
 c_holes_Holes_Add r14 x28 x29 x30 w27 fun r31 w32 =>
 Ld (.int .i64) w32 a26 fun x33 =>
 Ld .bool w32 (a26.add 1) fun x34 =>
 Ld .slice w32 (a26.add 2) fun x35 =>
 c_ref15_Holes_Add (some a17) x33 x34 x35 w32 fun r36 w37 =>
 next20 ((IntKind.i64.wrap (s18.1 + 1)), ()) w37
 else
 c_ref15_Holes_Gaps (some a17) w19 fun r38 w39 =>
 Al w39 (.cells ⟨[(Value.slice none 0 0)]⟩ 35) fun a41 w40 =>
 St w40 a41 (Value.slice r38.a r38.len r38.cap) fun w42 =>
 Al w42 (.cells ⟨[(Value.int .i64 0)]⟩ 3) fun a44 w43 =>
 St w43 a44 (Value.int .i64 0) fun w45 =>
 c_holes_Holes_Gaps r14 w45 fun r46 w47 =>
 RngP Try.prog none [.one (.int .i64), .one (.int .i64)] r46 w47 (fun l48 x49 W50 Kb51 =>
 W50.heap[l48]? = W50.heap[l48]? ∧
 let J52 : Bool → Prop := fun j53 =>
 ((bif j53 then
 St (busyW W50 l48) a3 (Value.bool false) fun w54 =>
 Kb51 .ret w54
 else
 Ld (.int .i64) (busyW W50 l48) a44 fun x55 =>
 St (busyW W50 l48) a44 (Value.int .i64 (IntKind.i64.wrap (x55 + 1))) fun w56 =>
 Kb51 .normal w56))
 Ld (.int .i64) (busyW W50 l48) a44 fun x57 =>
 Ld .slice (busyW W50 l48) a41 fun x58 =>
 (bif (decide ((IntKind.i64.wrap ((IntKind.i64.wrap (2 * x57)) + 1)) ≥ (x58.len : Int))) then
 J52 true
 else
 Ld .slice (busyW W50 l48) a41 fun x59 =>
 Ld (.int .i64) (busyW W50 l48) a44 fun x60 =>
 AtIx x59 1 (IntKind.i64.wrap (2 * x60)) fun a61 =>
 Ld (.int .i64) (busyW W50 l48) a61 fun x62 =>
 (bif (x62 != x49.1) then
 J52 true
 else
 Ld .slice (busyW W50 l48) a41 fun x63 =>
 Ld (.int .i64) (busyW W50 l48) a44 fun x64 =>
 AtIx x63 1 (IntKind.i64.wrap ((IntKind.i64.wrap (2 * x64)) + 1)) fun a65 =>
 Ld (.int .i64) (busyW W50 l48) a65 fun x66 =>
 J52 (x66 != x49.2.1))))
 (fun w67 =>
 let J68 : World → Prop := fun w69 =>
 (w69.heap[w47.heap.size]? = some (.deferred (some [])) ∧
 Ld .bool (w69.putObj w47.heap.size (.deferred none)) a3 fun y70 =>
 K y70 (w69.putObj w47.heap.size (.deferred none)))
 Ld (.int .i64) w67 a44 fun x71 =>
 Ld .slice w67 a41 fun x72 =>
 (bif ((IntKind.i64.wrap (2 * x71)) == (x72.len : Int)) then
 c_law15_awake  w67 fun r73 w74 =>
 St w74 a3 (Value.bool r73) fun w75 =>
 J68 w75
 else
 St w67 a3 (Value.bool false) fun w76 =>
 J68 w76))
 (fun w77 =>
 w77.heap[w47.heap.size]? = some (.deferred (some [])) ∧
 Ld .bool (w77.putObj w47.heap.size (.deferred none)) a3 fun y78 =>
 K y78 (w77.putObj w47.heap.size (.deferred none)))
 [])) (0, ()) w16)))
theorem e_law15_HolesGaps (a0 : SliceV) (w : World) (K : Bool → World → Prop) : den Try.prog 79 (bodyOf Try.f3) none (.seq .leaf (.seq (.seq .leaf (.cond (.seq .leaf .leaf) .leaf)) (.seq (.seq .leaf (.cond (.seq .leaf .leaf) .leaf)) (.seq .leaf (.seq .leaf (.seq (.seq .leaf (.blk (.loop [(19, (.int .i64))] (.seq .leaf (.seq (.cond .leaf .leaf) (.seq (.blk (.seq .leaf (.seq .leaf .leaf))) .leaf)))))) (.seq .leaf (.seq .leaf (.seq (.seq .leaf (.blk (.rng [.one (.int .i64), .one (.int .i64)] (.seq .leaf .leaf) (.blk (.seq (.seq .leaf (.cond (.seq .leaf .leaf) .leaf)) .leaf))))) (.seq .leaf .leaf)))))))))) (argEnv 0 [(Value.slice a0.a a0.len a0.cap)]) [] w (retK Try.prog [.cell 2 4] [.one .bool] K) = s_law15_HolesGaps a0 w K := by kernel_rfl
theorem ok_law15_HolesGaps {a0 w K} (h : s_law15_HolesGaps a0 w K) : c_law15_HolesGaps a0 w K :=
  fn_sound pok Try.func3 (fn := Try.f3) (c := bodyOf Try.f3) (nt := 79) (by kernel_rfl) (by kernel_rfl) (rs := [.cell 2 4]) (by kernel_rfl) [.one .bool] K (.seq .leaf (.seq (.seq .leaf (.cond (.seq .leaf .leaf) .leaf)) (.seq (.seq .leaf (.cond (.seq .leaf .leaf) .leaf)) (.seq .leaf (.seq .leaf (.seq (.seq .leaf (.blk (.loop [(19, (.int .i64))] (.seq .leaf (.seq (.cond .leaf .leaf) (.seq (.blk (.seq .leaf (.seq .leaf .leaf))) .leaf)))))) (.seq .leaf (.seq .leaf (.seq (.seq .leaf (.blk (.rng [.one (.int .i64), .one (.int .i64)] (.seq .leaf .leaf) (.blk (.seq (.seq .leaf (.cond (.seq .leaf .leaf) .leaf)) .leaf))))) (.seq .leaf .leaf)))))))))) [(Value.slice a0.a a0.len a0.cap)] (by kernel_rfl) w ((e_law15_HolesGaps a0 w K).mpr h)

/-- goosepond/goosepondlaw15.HolesOrder -/
def s_law15_HolesOrder (a0 : SliceV) (a1 : SliceV) (w : World) (K : Bool → World → Prop) : Prop :=
 (c_law15_awake  w fun r3 w4 =>
 (bif (!r3) then
 K false w4
 else
 let J5 : Bool → Prop := fun j6 =>
 ((bif j6 then
 c_law15_awake  w4 fun r7 w8 =>
 K r7 w8
 else
 let J9 : SliceV → Int → World → Prop := fun j10 j11 w12 =>
 (SubSl a0 1 j11 (a0.len : Int) fun s13 =>
 Al w12 (.cells ⟨[(Value.int .i64 j11), (Value.bool false), (Value.slice s13.a s13.len s13.cap)]⟩ 32) fun a15 w14 =>
 AppSl 32 3 40 [(Value.int .i64 0), (Value.bool false), (Value.slice none 0 0)] j10 ⟨(some a15), 1, 1⟩ w14 fun s16 w17 =>
 c_holes_New  w17 fun r18 w19 =>
 c_holes_New  w19 fun r20 w21 =>
 LoopP (S := Int × Unit) (fun s22 w23 next24 =>
 (bif (decide (s22.1 < (s16.len : Int))) then
 AtIx s16 3 (IntKind.i64.wrap ((IntKind.i64.wrap ((s16.len : Int) - 1)) - s22.1)) fun a25 =>
 Ld (.int .i64) w23 (a25.add 0) fun x26 =>
 Ld .bool w23 (a25.add 1) fun x27 =>
 Ld .slice w23 (a25.add 2) fun x28 =>
 Al w23 (.cells ⟨[(Value.int .i64 0), (Value.bool false), (Value.slice none 0 0)]⟩ 32) fun a30 w29 =>
 StN [(Value.int .i64 x26), (Value.bool x27), (Value.slice x28.a x28.len x28.cap)] w29 a30 0 fun w31 =>
 let J32 : Bool → World → Prop := fun j33 w34 =>
 ((bif j33 then
 K false w34
 else
 next24 ((IntKind.i64.wrap (s22.1 + 1)), ()) w34))
 AtIx s16 3 s22.1 fun a35 =>
 Ld (.int .i64) w31.drew a35 fun x36 =>
 AtIx s16 3 s22.1 fun a37 =>
 Ld .bool w31.drew (a37.add 1) fun x38 =>
 AtIx s16 3 s22.1 fun a39 =>
 Ld .slice w31.drew (a39.add 2) fun x40 =>
 c_holes_Holes_Add r18 x36 x38 x40 w31.drew fun r41 w42 =>
 (bif (r41 != 0) then
 J32 true w42
 else
 Ld (.int .i64) w42 a30 fun x43 =>
 Ld .bool w42 (a30.add 1) fun x44 =>
 Ld .slice w42 (a30.add 2) fun x45 =>
 c_holes_Holes_Add r20 x43 x44 x45 w42 fun r46 w47 =>
 (bif (r46 != 0) then
 J32 true w47
 else
 Ld (.int .i64) w47 a30 fun x48 =>
 Ld .bool w47 (a30.add 1) fun x49 =>
 Ld .slice w47 (a30.add 2) fun x50 =>
 c_holes_Holes_Add r20 x48 x49 x50 w47 fun r51 w52 =>
 J32 (r51 != 0) w52))
 else
 c_holes_Holes_Done r18 w23 fun r53 r54 w55 =>
 c_holes_Holes_Done r20 w55 fun r56 r57 w58 =>
 let J59 : Bool → World → Prop := fun j60 w61 =>
 (K j60 w61)
 (bif r54 then
 (bif r57 then
 c_bytes_Equal r53 a0 w58 fun r62 w63 =>
 (bif r62 then
 c_bytes_Equal r56 a0 w63 fun r64 w65 =>
 (bif r64 then
 c_law15_awake  w65 fun r66 w67 =>
 J59 r66 w67
 else
 J59 false w65)
 else
 J59 false w63)
 else
 J59 false w58)
 else
 J59 false w58))) (0, ()) w21)
 LoopP (S := SliceV × Int × Int × Unit) (fun s68 w69 next70 =>
 (bif (decide (s68.2.2.1 < (a1.len : Int))) then
 AtIx a1 1 s68.2.2.1 fun a71 =>
 Ld (.int .u8) w69 a71 fun x72 =>
 (20 : Int) ≠ 0 ∧
 (bif (decide ((IntKind.i64.wrap (s68.2.1 + (IntKind.i64.wrap (8 * (IntKind.i64.wrap (1 + (Int.tmod (IntKind.i64.wrap x72) 20))))))) ≥ (a0.len : Int))) then
 J9 s68.1 s68.2.1 w69
 else
 SubSl a0 1 s68.2.1 (IntKind.i64.wrap (s68.2.1 + (IntKind.i64.wrap (8 * (IntKind.i64.wrap (1 + (Int.tmod (IntKind.i64.wrap x72) 20))))))) fun s73 =>
 Al w69 (.cells ⟨[(Value.int .i64 s68.2.1), (Value.bool true), (Value.slice s73.a s73.len s73.cap)]⟩ 32) fun a75 w74 =>
 AppSl 32 3 40 [(Value.int .i64 0), (Value.bool false), (Value.slice none 0 0)] s68.1 ⟨(some a75), 1, 1⟩ w74 fun s76 w77 =>
 next70 (s76, (IntKind.i64.wrap (s68.2.1 + (IntKind.i64.wrap (8 * (IntKind.i64.wrap (1 + (Int.tmod (IntKind.i64.wrap x72) 20))))))), (IntKind.i64.wrap (s68.2.2.1 + 1)), ()) w77)
 else
 J9 s68.1 s68.2.1 w69)) (⟨none, 0, 0⟩, 0, 0, ()) w4))
 (bif (decide ((a0.len : Int) > 2000)) then
 J5 true
 else
 J5 (decide ((a1.len : Int) > 40)))))
theorem e_law15_HolesOrder (a0 : SliceV) (a1 : SliceV) (w : World) (K : Bool → World → Prop) : den Try.prog 152 (bodyOf Try.f4) none (.seq .leaf (.seq (.seq .leaf (.cond (.seq .leaf .leaf) .leaf)) (.seq (.seq .leaf (.cond (.seq .leaf .leaf) .leaf)) (.seq .leaf (.seq .leaf (.seq (.seq .leaf (.blk (.loop [(5, .slice), (6, (.int .i64)), (31, (.int .i64))] (.seq .leaf (.seq (.cond .leaf .leaf) (.seq (.blk (.seq .leaf (.seq .leaf (.seq (.seq .leaf (.cond .leaf .leaf)) (.seq .leaf .leaf))))) .leaf)))))) (.seq .leaf (.seq .leaf (.seq (.seq .leaf (.blk (.loop [(73, (.int .i64))] (.seq .leaf (.seq (.cond .leaf .leaf) (.seq (.blk (.seq .leaf (.seq .leaf (.seq .leaf (.cond (.seq .leaf .leaf) .leaf))))) .leaf)))))) (.seq .leaf (.seq .leaf (.seq .leaf .leaf)))))))))))) (argEnv 0 [(Value.slice a0.a a0.len a0.cap), (Value.slice a1.a a1.len a1.cap)]) [] w (retK Try.prog [.tmp 4] [.one .bool] K) = s_law15_HolesOrder a0 a1 w K := by kernel_rfl
theorem ok_law15_HolesOrder {a0 a1 w K} (h : s_law15_HolesOrder a0 a1 w K) : c_law15_HolesOrder a0 a1 w K :=
  fn_sound pok Try.func4 (fn := Try.f4) (c := bodyOf Try.f4) (nt := 152) (by kernel_rfl) (by kernel_rfl) (rs := [.tmp 4]) (by kernel_rfl) [.one .bool] K (.seq .leaf (.seq (.seq .leaf (.cond (.seq .leaf .leaf) .leaf)) (.seq (.seq .leaf (.cond (.seq .leaf .leaf) .leaf)) (.seq .leaf (.seq .leaf (.seq (.seq .leaf (.blk (.loop [(5, .slice), (6, (.int .i64)), (31, (.int .i64))] (.seq .leaf (.seq (.cond .leaf .leaf) (.seq (.blk (.seq .leaf (.seq .leaf (.seq (.seq .leaf (.cond .leaf .leaf)) (.seq .leaf .leaf))))) .leaf)))))) (.seq .leaf (.seq .leaf (.seq (.seq .leaf (.blk (.loop [(73, (.int .i64))] (.seq .leaf (.seq (.cond .leaf .leaf) (.seq (.blk (.seq .leaf (.seq .leaf (.seq .leaf (.cond (.seq .leaf .leaf) .leaf))))) .leaf)))))) (.seq .leaf (.seq .leaf (.seq .leaf .leaf)))))))))))) [(Value.slice a0.a a0.len a0.cap), (Value.slice a1.a a1.len a1.cap)] (by kernel_rfl) w ((e_law15_HolesOrder a0 a1 w K).mpr h)

/-- goosepond/goosepondlaw15.HolesLive -/
def s_law15_HolesLive (a0 : SliceV) (w : World) (K : Bool → World → Prop) : Prop :=
 (c_law15_awake  w fun r2 w3 =>
 (bif (!r2) then
 K false w3
 else
 c_law15_far a0 w3 fun r4 w5 =>
 (bif r4 then
 c_law15_awake  w5 fun r6 w7 =>
 K r6 w7
 else
 c_holes_New  w5 fun r8 w9 =>
 Al w9 (.cells ⟨[(Value.slice none 0 0)]⟩ 29) fun a11 w10 =>
 LoopP (S := Int × Unit) (fun s12 w13 next14 =>
 (bif (decide (s12.1 < (a0.len : Int))) then
 AtIx a0 3 s12.1 fun a15 =>
 Ld (.int .i64) w13 (a15.add 0) fun x16 =>
 Ld .bool w13 (a15.add 1) fun x17 =>
 Ld .slice w13 (a15.add 2) fun x18 =>
 Al w13 (.cells ⟨[(Value.int .i64 0), (Value.bool false), (Value.slice none 0 0)]⟩ 32) fun a20 w19 =>
 StN [(Value.int .i64 x16), (Value.bool x17), (Value.slice x18.a x18.len x18.cap)] w19 a20 0 fun w21 =>
 let J22 : Bool → World → Prop := fun j23 w24 =>
 ((bif j23 then
 K false w24
 else
 next14 ((IntKind.i64.wrap (s12.1 + 1)), ()) w24))
 Ld (.int .i64) w21.drew a20 fun x25 =>
 Ld .slice w21.drew (a20.add 2) fun x26 =>
 Ld (.int .i64) w21.drew a20 fun x27 =>
 Ld .slice w21.drew (a20.add 2) fun x28 =>
 c_holes_Holes_Room r8 x25 x26 w21.drew fun r29 w30 =>
 w30.cell? (a20.add 2) = some (Value.slice x28.a x28.len x28.cap) ∧
 w30.cell? a20 = some (Value.int .i64 x27) ∧
 c_ref15_Holes_Room (some a11) x27 x28 w30 fun r31 w32 =>
 (bif (r29 != r31) then
 J22 true w32
 else
 Ld (.int .i64) w32 a20 fun x33 =>
 Ld .bool w32 (a20.add 1) fun x34 =>
 Ld .slice w32 (a20.add 2) fun x35 =>
 Ld (.int .i64) w32 a20 fun x36 =>
 Ld .bool w32 (a20.add 1) fun x37 =>
 Ld .slice w32 (a20.add 2) fun x38 =>
 c_holes_Holes_Add r8 x33 x34 x35 w32 fun r39 w40 =>
 w40.cell? (a20.add 2) = some (Value.slice x38.a x38.len x38.cap) ∧
 w40.cell? (a20.add 1) = some (Value.bool x37) ∧
 w40.cell? a20 = some (Value.int .i64 x36) ∧
 c_ref15_Holes_Add (some a11) x36 x37 x38 w40 fun r41 w42 =>
 (bif (r39 != r41) then
 J22 true w42
 else
 c_holes_Holes_Bytes r8 w42 fun r43 w44 =>
 c_ref15_Holes_Bytes (some a11) w44 fun r45 w46 =>
 J22 (r43 != r45) w46))
 else
 c_holes_Holes_Done r8 w13 fun r47 r48 w49 =>
 c_ref15_Holes_Done (some a11) w49 fun r50 r51 w52 =>
 let J53 : Bool → World → Prop := fun j54 w55 =>
 (K j54 w55)
 (bif ((r48 : Bool) == r51) then
 c_bytes_Equal r47 r50 w52 fun r56 w57 =>
 (bif r56 then
 c_law15_awake  w57 fun r58 w59 =>
 J53 r58 w59
 else
 J53 false w57)
 else
 J53 false w52))) (0, ()) w10)))
theorem e_law15_HolesLive (a0 : SliceV) (w : World) (K : Bool → World → Prop) : den Try.prog 80 (bodyOf Try.f5) none (.seq .leaf (.seq (.seq .leaf (.cond (.seq .leaf .leaf) .leaf)) (.seq (.seq .leaf (.cond (.seq .leaf .leaf) .leaf)) (.seq .leaf (.seq .leaf (.seq (.seq .leaf (.blk (.loop [(19, (.int .i64))] (.seq .leaf (.seq (.cond .leaf .leaf) (.seq (.blk (.seq .leaf (.seq .leaf (.cond (.seq .leaf .leaf) .leaf)))) .leaf)))))) (.seq .leaf (.seq .leaf (.seq .leaf .leaf))))))))) (argEnv 0 [(Value.slice a0.a a0.len a0.cap)]) [] w (retK Try.prog [.tmp 2] [.one .bool] K) = s_law15_HolesLive a0 w K := by kernel_rfl
theorem ok_law15_HolesLive {a0 w K} (h : s_law15_HolesLive a0 w K) : c_law15_HolesLive a0 w K :=
  fn_sound pok Try.func5 (fn := Try.f5) (c := bodyOf Try.f5) (nt := 80) (by kernel_rfl) (by kernel_rfl) (rs := [.tmp 2]) (by kernel_rfl) [.one .bool] K (.seq .leaf (.seq (.seq .leaf (.cond (.seq .leaf .leaf) .leaf)) (.seq (.seq .leaf (.cond (.seq .leaf .leaf) .leaf)) (.seq .leaf (.seq .leaf (.seq (.seq .leaf (.blk (.loop [(19, (.int .i64))] (.seq .leaf (.seq (.cond .leaf .leaf) (.seq (.blk (.seq .leaf (.seq .leaf (.cond (.seq .leaf .leaf) .leaf)))) .leaf)))))) (.seq .leaf (.seq .leaf (.seq .leaf .leaf))))))))) [(Value.slice a0.a a0.len a0.cap)] (by kernel_rfl) w ((e_law15_HolesLive a0 w K).mpr h)

/-- goosepond/goosepondlaw15.HolesNobody -/
def s_law15_HolesNobody (a0 : Int) (a1 : Bool) (a2 : SliceV) (w : World) (K : Bool → World → Prop) : Prop :=
 (Al w (.cells ⟨[(Value.bool false)]⟩ 4) fun a5 w4 =>
 c_law15_awake  w4 fun r6 w7 =>
 (bif (!r6) then
 St w7 a5 (Value.bool false) fun w8 =>
 Ld .bool w8 a5 fun y9 =>
 K y9 w8
 else
 c_holes_Holes_Done none w7 fun r10 r11 w12 =>
 c_holes_Holes_Gaps none w12 fun r13 w14 =>
 RngP Try.prog none [.one (.int .i64), .one (.int .i64)] r13 w14 (fun l15 x16 W17 Kb18 =>
 W17.heap[l15]? = W17.heap[l15]? ∧
 St (busyW W17 l15) a5 (Value.bool false) fun w19 =>
 Kb18 .ret w19)
 (fun w20 =>
 let J21 : World → Prop := fun w22 =>
 (w22.heap[w14.heap.size]? = some (.deferred (some [])) ∧
 Ld .bool (w22.putObj w14.heap.size (.deferred none)) a5 fun y23 =>
 K y23 (w22.putObj w14.heap.size (.deferred none)))
 c_holes_Holes_Add none a0 a1 a2 w20 fun r24 w25 =>
 (bif (r24 == 2) then
 (bif (!r11) then
 c_holes_Holes_Bytes none w25 fun r26 w27 =>
 (bif (r26 == 0) then
 c_holes_Holes_Room none a0 a2 w27 fun r28 w29 =>
 (bif (r28 == 0) then
 c_law15_awake  w29 fun r30 w31 =>
 St w31 a5 (Value.bool r30) fun w32 =>
 J21 w32
 else
 St w29 a5 (Value.bool false) fun w33 =>
 J21 w33)
 else
 St w27 a5 (Value.bool false) fun w34 =>
 J21 w34)
 else
 St w25 a5 (Value.bool false) fun w35 =>
 J21 w35)
 else
 St w25 a5 (Value.bool false) fun w36 =>
 J21 w36))
 (fun w37 =>
 w37.heap[w14.heap.size]? = some (.deferred (some [])) ∧
 Ld .bool (w37.putObj w14.heap.size (.deferred none)) a5 fun y38 =>
 K y38 (w37.putObj w14.heap.size (.deferred none)))
 []))
theorem e_law15_HolesNobody (a0 : Int) (a1 : Bool) (a2 : SliceV) (w : World) (K : Bool → World → Prop) : den Try.prog 46 (bodyOf Try.f6) none (.seq .leaf (.seq (.seq .leaf (.cond (.seq .leaf .leaf) .leaf)) (.seq .leaf (.seq .leaf (.seq (.seq .leaf (.blk (.rng [.one (.int .i64), .one (.int .i64)] .leaf (.blk (.seq .leaf .leaf))))) (.seq .leaf .leaf)))))) (argEnv 0 [(Value.int .i64 a0), (Value.bool a1), (Value.slice a2.a a2.len a2.cap)]) [] w (retK Try.prog [.cell 6 4] [.one .bool] K) = s_law15_HolesNobody a0 a1 a2 w K := by kernel_rfl
theorem ok_law15_HolesNobody {a0 a1 a2 w K} (h : s_law15_HolesNobody a0 a1 a2 w K) : c_law15_HolesNobody a0 a1 a2 w K :=
  fn_sound pok Try.func6 (fn := Try.f6) (c := bodyOf Try.f6) (nt := 46) (by kernel_rfl) (by kernel_rfl) (rs := [.cell 6 4]) (by kernel_rfl) [.one .bool] K (.seq .leaf (.seq (.seq .leaf (.cond (.seq .leaf .leaf) .leaf)) (.seq .leaf (.seq .leaf (.seq (.seq .leaf (.blk (.rng [.one (.int .i64), .one (.int .i64)] .leaf (.blk (.seq .leaf .leaf))))) (.seq .leaf .leaf)))))) [(Value.int .i64 a0), (Value.bool a1), (Value.slice a2.a a2.len a2.cap)] (by kernel_rfl) w ((e_law15_HolesNobody a0 a1 a2 w K).mpr h)

/-- goosepond/goosepondlaw15.awake -/
def s_law15_awake  (w : World) (K : Bool → World → Prop) : Prop :=
 (c_holes_New  w fun r1 w2 =>
 let J3 : Bool → World → Prop := fun j4 w5 =>
 ((bif j4 then
 K false w5
 else
 c_holes_Holes_Done r1 w5 fun r6 r7 w8 =>
 let J9 : Bool → World → Prop := fun j10 w11 =>
 (K j10 w11)
 (bif r7 then
 BytesStr w8 r6 fun b12 =>
 (bif (strEq b12 (bs [49, 50, 51, 52, 53, 54, 55, 56, 98])) then
 Al w8 (.cells ⟨[(Value.int .u8 120), (Value.int .u8 50), (Value.int .u8 51), (Value.int .u8 52), (Value.int .u8 53), (Value.int .u8 54), (Value.int .u8 55), (Value.int .u8 56)]⟩ 5) fun a14 w13 =>
 MarkSl a14 w13 fun w15 =>
 c_holes_Holes_Add r1 0 true ⟨(some a14), 8, 8⟩ w15 fun r16 w17 =>
 J9 (r16 == 9) w17
 else
 J9 false w8)
 else
 J9 false w8)))
 (bif (Option.isNone r1) then
 J3 true w2
 else
 Al w2 (.cells ⟨[(Value.int .u8 98)]⟩ 5) fun a19 w18 =>
 MarkSl a19 w18 fun w20 =>
 c_holes_Holes_Add r1 8 false ⟨(some a19), 1, 1⟩ w20 fun r21 w22 =>
 (bif (r21 != 0) then
 J3 true w22
 else
 Al w22 (.cells ⟨[(Value.int .u8 49), (Value.int .u8 50), (Value.int .u8 51), (Value.int .u8 52), (Value.int .u8 53), (Value.int .u8 54), (Value.int .u8 55), (Value.int .u8 56)]⟩ 5) fun a24 w23 =>
 MarkSl a24 w23 fun w25 =>
 c_holes_Holes_Add r1 0 true ⟨(some a24), 8, 8⟩ w25 fun r26 w27 =>
 J3 (r26 != 0) w27)))
theorem e_law15_awake  (w : World) (K : Bool → World → Prop) : den Try.prog 39 (bodyOf Try.f13) none (.seq .leaf (.seq .leaf (.seq (.seq .leaf (.cond (.seq .leaf .leaf) .leaf)) (.seq .leaf (.seq .leaf .leaf))))) (argEnv 0 []) [] w (retK Try.prog [.tmp 0] [.one .bool] K) = s_law15_awake  w K := by kernel_rfl
theorem ok_law15_awake { w K} (h : s_law15_awake  w K) : c_law15_awake  w K :=
  fn_sound pok Try.func13 (fn := Try.f13) (c := bodyOf Try.f13) (nt := 39) (by kernel_rfl) (by kernel_rfl) (rs := [.tmp 0]) (by kernel_rfl) [.one .bool] K (.seq .leaf (.seq .leaf (.seq (.seq .leaf (.cond (.seq .leaf .leaf) .leaf)) (.seq .leaf (.seq .leaf .leaf))))) [] (by kernel_rfl) w ((e_law15_awake  w K).mpr h)

/-- goosepond/goosepondlaw15.far -/
def s_law15_far (a0 : SliceV) (w : World) (K : Bool → World → Prop) : Prop :=
 (LoopP (S := Int × Int × Unit) (fun s2 w3 next4 =>
 (bif (decide (s2.2.1 < (a0.len : Int))) then
 AtIx a0 3 s2.2.1 fun a5 =>
 Ld (.int .i64) w3 (a5.add 0) fun x6 =>
 Ld .bool w3 (a5.add 1) fun x7 =>
 Ld .slice w3 (a5.add 2) fun x8 =>
 Al w3 (.cells ⟨[(Value.int .i64 0), (Value.bool false), (Value.slice none 0 0)]⟩ 32) fun a10 w9 =>
 StN [(Value.int .i64 x6), (Value.bool x7), (Value.slice x8.a x8.len x8.cap)] w9 a10 0 fun w11 =>
 let J12 : Bool → Prop := fun j13 =>
 ((bif j13 then
 K true w11
 else
 Ld .slice w11 (a10.add 2) fun x14 =>
 next4 ((IntKind.i64.wrap (s2.1 + (x14.len : Int))), (IntKind.i64.wrap (s2.2.1 + 1)), ()) w11))
 (bif (decide (s2.2.1 ≥ 60)) then
 J12 true
 else
 Ld .slice w11 (a10.add 2) fun x15 =>
 (bif (decide ((x15.len : Int) > 2000)) then
 J12 true
 else
 Ld (.int .i64) w11 a10 fun x16 =>
 (bif (decide (x16 > 4000)) then
 Ld (.int .i64) w11 a10 fun x17 =>
 J12 (decide (x17 ≤ 65535))
 else
 J12 false)))
 else
 K (decide (s2.1 > 8000)) w3)) (0, 0, ()) w)
theorem e_law15_far (a0 : SliceV) (w : World) (K : Bool → World → Prop) : den Try.prog 39 (bodyOf Try.f14) none (.seq .leaf (.seq .leaf (.seq (.seq .leaf (.blk (.loop [(3, (.int .i64)), (8, (.int .i64))] (.seq .leaf (.seq (.cond .leaf .leaf) (.seq (.blk (.seq .leaf (.seq (.seq .leaf (.cond (.seq .leaf .leaf) .leaf)) .leaf))) .leaf)))))) (.seq .leaf .leaf)))) (argEnv 0 [(Value.slice a0.a a0.len a0.cap)]) [] w (retK Try.prog [.tmp 2] [.one .bool] K) = s_law15_far a0 w K := by kernel_rfl
theorem ok_law15_far {a0 w K} (h : s_law15_far a0 w K) : c_law15_far a0 w K :=
  fn_sound pok Try.func14 (fn := Try.f14) (c := bodyOf Try.f14) (nt := 39) (by kernel_rfl) (by kernel_rfl) (rs := [.tmp 2]) (by kernel_rfl) [.one .bool] K (.seq .leaf (.seq .leaf (.seq (.seq .leaf (.blk (.loop [(3, (.int .i64)), (8, (.int .i64))] (.seq .leaf (.seq (.cond .leaf .leaf) (.seq (.blk (.seq .leaf (.seq (.seq .leaf (.cond (.seq .leaf .leaf) .leaf)) .leaf))) .leaf)))))) (.seq .leaf .leaf)))) [(Value.slice a0.a a0.len a0.cap)] (by kernel_rfl) w ((e_law15_far a0 w K).mpr h)

/-- goosepond/holes.New -/
def s_holes_New  (w : World) (K : (Option Addr) → World → Prop) : Prop :=
 (Al w (.cells ⟨[(Value.slice none 0 0), (Value.int .i64 0), (Value.int .i64 (-1)), (Value.bool true)]⟩ 85) fun a2 w1 =>
 K (some a2) w1)
theorem e_holes_New  (w : World) (K : (Option Addr) → World → Prop) : den Try.prog 3 (bodyOf Try.f15) none (.seq .leaf (.seq .leaf .leaf)) (argEnv 0 []) [] w (retK Try.prog [.tmp 0] [.one .ptr] K) = s_holes_New  w K := by kernel_rfl
theorem ok_holes_New { w K} (h : s_holes_New  w K) : c_holes_New  w K :=
  fn_sound pok Try.func15 (fn := Try.f15) (c := bodyOf Try.f15) (nt := 3) (by kernel_rfl) (by kernel_rfl) (rs := [.tmp 0]) (by kernel_rfl) [.one .ptr] K (.seq .leaf (.seq .leaf .leaf)) [] (by kernel_rfl) w ((e_holes_New  w K).mpr h)

/-- (*goosepond/holes.Holes).Add -/
def s_holes_Holes_Add (a0 : Option Addr) (a1 : Int) (a2 : Bool) (a3 : SliceV) (w : World) (K : Int → World → Prop) : Prop :=
 (c_holes_Holes_ready a0 w fun r5 w6 =>
 (bif (!r5) then
 K 2 w6
 else
 Al w6 (.cells ⟨[(Value.int .i64 0), (Value.bool false), (Value.slice none 0 0)]⟩ 87) fun a8 w7 =>
 StN [(Value.int .i64 a1), (Value.bool a2), (Value.slice a3.a a3.len a3.cap)] w7 a8 0 fun w9 =>
 Ld (.int .i64) w9 (a8.add 0) fun x10 =>
 Ld .bool w9 (a8.add 1) fun x11 =>
 Ld .slice w9 (a8.add 2) fun x12 =>
 c_holes_may x10 x11 x12 w9 fun r13 w14 =>
 (bif (r13 != 0) then
 K r13 w14
 else
 Ld (.int .i64) w14 (a8.add 0) fun x15 =>
 Ld .bool w14 (a8.add 1) fun x16 =>
 Ld .slice w14 (a8.add 2) fun x17 =>
 c_holes_Holes_has a0 x15 x16 x17 w14 fun r18 w19 =>
 (bif r18 then
 K 0 w19
 else
 Ld (.int .i64) w19 (a8.add 0) fun x20 =>
 Ld .bool w19 (a8.add 1) fun x21 =>
 Ld .slice w19 (a8.add 2) fun x22 =>
 c_holes_Holes_meets a0 x20 x21 x22 w19 fun r23 w24 =>
 (bif r23 then
 K 9 w24
 else
 Ld (.int .i64) w24 (a8.add 0) fun x25 =>
 Ld .bool w24 (a8.add 1) fun x26 =>
 Ld .slice w24 (a8.add 2) fun x27 =>
 c_holes_Holes_fits a0 x25 x26 x27 w24 fun r28 w29 =>
 (bif (!r28) then
 K 4 w29
 else
 c_slices_Clone_byte_byte a3 w29 fun r30 w31 =>
 St w31 (a8.add 2) (Value.slice r30.a r30.len r30.cap) fun w32 =>
 ∃ a33 : Addr, a0 = some a33 ∧
 Ld .slice w32.drew a33 fun x34 =>
 Ld (.int .i64) w32.drew (a8.add 0) fun x35 =>
 Ld .bool w32.drew (a8.add 1) fun x36 =>
 Ld .slice w32.drew (a8.add 2) fun x37 =>
 c_slices_BinarySearchFunc_holes_piece_holes_piece_holes_piece x34 x35 x36 x37 (Value.func (.func 53) #[] #[]) w32.drew fun r38 r39 w40 =>
 ∃ a41 : Addr, a0 = some a41 ∧
 Ld .slice w40.drew a41 fun x42 =>
 Ld (.int .i64) w40.drew (a8.add 0) fun x43 =>
 Ld .bool w40.drew (a8.add 1) fun x44 =>
 Ld .slice w40.drew (a8.add 2) fun x45 =>
 Al w40.drew (.cells ⟨[(Value.int .i64 x43), (Value.bool x44), (Value.slice x45.a x45.len x45.cap)]⟩ 87) fun a47 w46 =>
 w46.cell? a41 = some (Value.slice x42.a x42.len x42.cap) ∧
 c_slices_Insert_holes_piece_holes_piece x42 r38 ⟨(some a47), 1, 1⟩ w46 fun r48 w49 =>
 ∃ a50 : Addr, a0 = some a50 ∧
 St w49 a50 (Value.slice r48.a r48.len r48.cap) fun w51 =>
 ∃ a52 : Addr, a0 = some a52 ∧
 Ld (.int .i64) w51 (a52.add 1) fun x53 =>
 ∃ a54 : Addr, a0 = some a54 ∧
 St w51 (a54.add 1) (Value.int .i64 (IntKind.i64.wrap (x53 + (a3.len : Int)))) fun w55 =>
 let J56 : World → Prop := fun w57 =>
 (K 0 w57)
 (bif (!a2) then
 Ld (.int .i64) w55 (a8.add 0) fun x58 =>
 Ld .bool w55 (a8.add 1) fun x59 =>
 Ld .slice w55 (a8.add 2) fun x60 =>
 c_holes_piece_end x58 x59 x60 w55 fun r61 w62 =>
 ∃ a63 : Addr, a0 = some a63 ∧
 St w62 (a63.add 2) (Value.int .i64 r61) fun w64 =>
 J56 w64
 else
 J56 w55)))))))
theorem e_holes_Holes_Add (a0 : Option Addr) (a1 : Int) (a2 : Bool) (a3 : SliceV) (w : World) (K : Int → World → Prop) : den Try.prog 77 (bodyOf Try.f16) none (.seq .leaf (.seq (.seq .leaf (.cond (.seq .leaf .leaf) .leaf)) (.seq .leaf (.seq (.seq .leaf (.seq .leaf (.cond (.seq .leaf .leaf) .leaf))) (.seq (.blk (.seq .leaf (.cond (.seq .leaf .leaf) (.seq .leaf (.cond (.seq .leaf .leaf) (.seq .leaf (.cond (.seq .leaf .leaf) .leaf))))))) (.seq .leaf (.seq .leaf (.seq .leaf (.seq .leaf (.seq (.seq .leaf (.cond .leaf .leaf)) (.seq .leaf .leaf))))))))))) (argEnv 0 [(Value.pointer a0), (Value.int .i64 a1), (Value.bool a2), (Value.slice a3.a a3.len a3.cap)]) [] w (retK Try.prog [.tmp 8] [.one (.int .i64)] K) = s_holes_Holes_Add a0 a1 a2 a3 w K := by kernel_rfl
theorem ok_holes_Holes_Add {a0 a1 a2 a3 w K} (h : s_holes_Holes_Add a0 a1 a2 a3 w K) : c_holes_Holes_Add a0 a1 a2 a3 w K :=
  fn_sound pok Try.func16 (fn := Try.f16) (c := bodyOf Try.f16) (nt := 77) (by kernel_rfl) (by kernel_rfl) (rs := [.tmp 8]) (by kernel_rfl) [.one (.int .i64)] K (.seq .leaf (.seq (.seq .leaf (.cond (.seq .leaf .leaf) .leaf)) (.seq .leaf (.seq (.seq .leaf (.seq .leaf (.cond (.seq .leaf .leaf) .leaf))) (.seq (.blk (.seq .leaf (.cond (.seq .leaf .leaf) (.seq .leaf (.cond (.seq .leaf .leaf) (.seq .leaf (.cond (.seq .leaf .leaf) .leaf))))))) (.seq .leaf (.seq .leaf (.seq .leaf (.seq .leaf (.seq (.seq .leaf (.cond .leaf .leaf)) (.seq .leaf .leaf))))))))))) [(Value.pointer a0), (Value.int .i64 a1), (Value.bool a2), (Value.slice a3.a a3.len a3.cap)] (by kernel_rfl) w ((e_holes_Holes_Add a0 a1 a2 a3 w K).mpr h)

/-- (*goosepond/goosepondref15.Holes).Add -/
def s_ref15_Holes_Add (a0 : Option Addr) (a1 : Int) (a2 : Bool) (a3 : SliceV) (w : World) (K : Int → World → Prop) : Prop :=
 (let J5 : Bool → Prop := fun j6 =>
 ((bif j6 then
 K 4 w
 else
 (bif (decide (a1 > (IntKind.i64.wrap (65535 - (a3.len : Int))))) then
 K 6 w
 else
 c_ref15_Holes_same a0 a1 a2 a3 w fun r7 w8 =>
 (bif r7 then
 K 0 w8
 else
 c_ref15_Holes_shares a0 a1 a3 w8 fun r9 w10 =>
 (bif r9 then
 K 9 w10
 else
 c_ref15_Holes_end a0 w10 fun r11 w12 =>
 let J13 : Bool → World → Prop := fun j14 w15 =>
 ((bif j14 then
 K 4 w15
 else
 ∃ a16 : Addr, a0 = some a16 ∧
 Ld .slice w15 a16 fun x17 =>
 AppSl 97 3 40 [(Value.int .i64 0), (Value.bool false), (Value.slice none 0 0)] ⟨none, 0, 0⟩ x17 w15 fun s18 w19 =>
 AppSl 5 1 1 [(Value.int .u8 0)] ⟨none, 0, 0⟩ a3 w19 fun s20 w21 =>
 Al w21 (.cells ⟨[(Value.int .i64 a1), (Value.bool a2), (Value.slice s20.a s20.len s20.cap)]⟩ 97) fun a23 w22 =>
 AppSl 97 3 40 [(Value.int .i64 0), (Value.bool false), (Value.slice none 0 0)] s18 ⟨(some a23), 1, 1⟩ w22 fun s24 w25 =>
 ∃ a26 : Addr, a0 = some a26 ∧
 St w25 a26 (Value.slice s24.a s24.len s24.cap) fun w27 =>
 K 0 w27))
 (bif (!a2) then
 (bif (decide (r11 ≥ 0)) then
 J13 true w12
 else
 c_ref15_Holes_Far a0 w12 fun r28 w29 =>
 (bif (decide (r28 > (IntKind.i64.wrap (a1 + (a3.len : Int))))) then
 J13 true w29
 else
 (bif (decide (r11 ≥ 0)) then
 J13 (decide ((IntKind.i64.wrap (a1 + (a3.len : Int))) > r11)) w29
 else
 J13 false w29)))
 else
 (bif (decide (r11 ≥ 0)) then
 J13 (decide ((IntKind.i64.wrap (a1 + (a3.len : Int))) > r11)) w12
 else
 J13 false w12)))))))
 (bif (decide (a1 < 0)) then
 J5 true
 else
 (bif a2 then
 (bif ((a3.len : Int) == 0) then
 J5 true
 else
 (8 : Int) ≠ 0 ∧
 J5 ((Int.tmod (a3.len : Int) 8) != 0))
 else
 J5 false)))
theorem e_ref15_Holes_Add (a0 : Option Addr) (a1 : Int) (a2 : Bool) (a3 : SliceV) (w : World) (K : Int → World → Prop) : den Try.prog 88 (bodyOf Try.f17) none (.seq .leaf (.seq (.blk (.seq .leaf (.cond (.seq .leaf .leaf) (.seq .leaf (.cond (.seq .leaf .leaf) (.seq .leaf (.cond (.seq .leaf .leaf) (.seq .leaf (.cond (.seq .leaf .leaf) .leaf))))))))) (.seq .leaf (.seq (.seq .leaf (.cond (.seq .leaf .leaf) .leaf)) (.seq .leaf (.seq .leaf .leaf)))))) (argEnv 0 [(Value.pointer a0), (Value.int .i64 a1), (Value.bool a2), (Value.slice a3.a a3.len a3.cap)]) [] w (retK Try.prog [.tmp 8] [.one (.int .i64)] K) = s_ref15_Holes_Add a0 a1 a2 a3 w K := by kernel_rfl
theorem ok_ref15_Holes_Add {a0 a1 a2 a3 w K} (h : s_ref15_Holes_Add a0 a1 a2 a3 w K) : c_ref15_Holes_Add a0 a1 a2 a3 w K :=
  fn_sound pok Try.func17 (fn := Try.f17) (c := bodyOf Try.f17) (nt := 88) (by kernel_rfl) (by kernel_rfl) (rs := [.tmp 8]) (by kernel_rfl) [.one (.int .i64)] K (.seq .leaf (.seq (.blk (.seq .leaf (.cond (.seq .leaf .leaf) (.seq .leaf (.cond (.seq .leaf .leaf) (.seq .leaf (.cond (.seq .leaf .leaf) (.seq .leaf (.cond (.seq .leaf .leaf) .leaf))))))))) (.seq .leaf (.seq (.seq .leaf (.cond (.seq .leaf .leaf) .leaf)) (.seq .leaf (.seq .leaf .leaf)))))) [(Value.pointer a0), (Value.int .i64 a1), (Value.bool a2), (Value.slice a3.a a3.len a3.cap)] (by kernel_rfl) w ((e_ref15_Holes_Add a0 a1 a2 a3 w K).mpr h)

/-- (*goosepond/goosepondref15.Holes).Gaps -/
def s_ref15_Holes_Gaps (a0 : Option Addr) (w : World) (K : SliceV → World → Prop) : Prop :=
 (c_ref15_Holes_end a0 w fun r2 w3 =>
 let J4 : Int → World → Prop := fun j5 w6 =>
 (LoopP (S := SliceV × Int × Unit) (fun s7 w8 next9 =>
 (bif (decide (s7.2.1 < j5)) then
 let J10 : SliceV → World → Prop := fun j11 w12 =>
 (next9 (j11, (IntKind.i64.wrap (s7.2.1 + 1)), ()) w12)
 c_ref15_Holes_Cover a0 s7.2.1 w8 fun r13 w14 =>
 (bif r13 then
 J10 s7.1 w14
 else
 let J15 : Bool → Prop := fun j16 =>
 ((bif j16 then
 AtIx s7.1 1 (IntKind.i64.wrap ((s7.1.len : Int) - 1)) fun a17 =>
 St w14 a17 (Value.int .i64 (IntKind.i64.wrap (s7.2.1 + 1))) fun w18 =>
 J10 s7.1 w18
 else
 Al w14 (.cells ⟨[(Value.int .i64 s7.2.1), (Value.int .i64 (IntKind.i64.wrap (s7.2.1 + 1)))]⟩ 3) fun a20 w19 =>
 AppSl 3 1 8 [(Value.int .i64 0)] s7.1 ⟨(some a20), 2, 2⟩ w19 fun s21 w22 =>
 J10 s21 w22))
 (bif (decide ((s7.1.len : Int) > 0)) then
 AtIx s7.1 1 (IntKind.i64.wrap ((s7.1.len : Int) - 1)) fun a23 =>
 Ld (.int .i64) w14 a23 fun x24 =>
 J15 (x24 == s7.2.1)
 else
 J15 false))
 else
 K s7.1 w8)) (⟨none, 0, 0⟩, 0, ()) w6)
 (bif (decide (r2 < 0)) then
 c_ref15_Holes_Far a0 w3 fun r25 w26 =>
 J4 r25 w26
 else
 J4 r2 w3))
theorem e_ref15_Holes_Gaps (a0 : Option Addr) (w : World) (K : SliceV → World → Prop) : den Try.prog 47 (bodyOf Try.f18) none (.seq .leaf (.seq .leaf (.seq (.seq .leaf (.cond .leaf .leaf)) (.seq .leaf (.seq (.seq .leaf (.blk (.loop [(4, .slice), (5, (.int .i64))] (.seq (.seq .leaf (.cond .leaf .leaf)) (.seq (.blk (.seq (.seq .leaf (.cond .leaf .leaf)) (.seq .leaf (.seq .leaf (.cond .leaf .leaf))))) .leaf))))) (.seq .leaf .leaf)))))) (argEnv 0 [(Value.pointer a0)]) [] w (retK Try.prog [.tmp 2] [.one .slice] K) = s_ref15_Holes_Gaps a0 w K := by kernel_rfl
theorem ok_ref15_Holes_Gaps {a0 w K} (h : s_ref15_Holes_Gaps a0 w K) : c_ref15_Holes_Gaps a0 w K :=
  fn_sound pok Try.func18 (fn := Try.f18) (c := bodyOf Try.f18) (nt := 47) (by kernel_rfl) (by kernel_rfl) (rs := [.tmp 2]) (by kernel_rfl) [.one .slice] K (.seq .leaf (.seq .leaf (.seq (.seq .leaf (.cond .leaf .leaf)) (.seq .leaf (.seq (.seq .leaf (.blk (.loop [(4, .slice), (5, (.int .i64))] (.seq (.seq .leaf (.cond .leaf .leaf)) (.seq (.blk (.seq (.seq .leaf (.cond .leaf .leaf)) (.seq .leaf (.seq .leaf (.cond .leaf .leaf))))) .leaf))))) (.seq .leaf .leaf)))))) [(Value.pointer a0)] (by kernel_rfl) w ((e_ref15_Holes_Gaps a0 w K).mpr h)

/-- (*goosepond/holes.Holes).Gaps -/
def s_holes_Holes_Gaps (a0 : Option Addr) (w : World) (K : Value → World → Prop) : Prop :=
 (isOne (Value.pointer a0) = true ∧
 Al w (.cells ⟨[(Value.pointer a0)]⟩ 25) fun a3 w2 =>
 K (Value.func (.func 61) #[] #[(Value.pointer (some a3))]) w2)
theorem e_holes_Holes_Gaps (a0 : Option Addr) (w : World) (K : Value → World → Prop) : den Try.prog 4 (bodyOf Try.f19) none (.seq .leaf (.seq .leaf .leaf)) (argEnv 0 [(Value.pointer a0)]) [] w (retK Try.prog [.tmp 2] [.one .any] K) = s_holes_Holes_Gaps a0 w K := by kernel_rfl
theorem ok_holes_Holes_Gaps {a0 w K} (h : s_holes_Holes_Gaps a0 w K) : c_holes_Holes_Gaps a0 w K :=
  fn_sound pok Try.func19 (fn := Try.f19) (c := bodyOf Try.f19) (nt := 4) (by kernel_rfl) (by kernel_rfl) (rs := [.tmp 2]) (by kernel_rfl) [.one .any] K (.seq .leaf (.seq .leaf .leaf)) [(Value.pointer a0)] (by kernel_rfl) w ((e_holes_Holes_Gaps a0 w K).mpr h)

/-- (*goosepond/holes.Holes).Done -/
def s_holes_Holes_Done (a0 : Option Addr) (w : World) (K : SliceV → Bool → World → Prop) : Prop :=
 (Al w (.cells ⟨[(Value.slice none 0 0)]⟩ 30) fun a3 w2 =>
 Al w2 (.cells ⟨[(Value.bool false)]⟩ 4) fun a5 w4 =>
 let J6 : Bool → World → Prop := fun j7 w8 =>
 ((bif j7 then
 St w8 a3 (Value.slice none 0 0) fun w9 =>
 St w9 a5 (Value.bool false) fun w10 =>
 Ld .slice w10 a3 fun y11 =>
 Ld .bool w10 a5 fun y12 =>
 K y11 y12 w10
 else
 c_holes_Holes_Gaps a0 w8 fun r13 w14 =>
 RngP Try.prog none [.one (.int .i64), .one (.int .i64)] r13 w14 (fun l15 x16 W17 Kb18 =>
 W17.heap[l15]? = W17.heap[l15]? ∧
 St (busyW W17 l15) a3 (Value.slice none 0 0) fun w19 =>
 St w19 a5 (Value.bool false) fun w20 =>
 Kb18 .ret w20)
 (fun w21 =>
 ∃ a22 : Addr, a0 = some a22 ∧
 Ld (.int .i64) w21 (a22.add 1) fun x23 =>
 MkSl 5 1 1 [(Value.int .u8 0)] 0 x23 w21 fun s24 w25 =>
 ∃ a26 : Addr, a0 = some a26 ∧
 Ld .slice w25 a26 fun x27 =>
 LoopP (S := SliceV × Int × Unit) (fun s28 w29 next30 =>
 (bif (decide (s28.2.1 < (x27.len : Int))) then
 AtIx x27 3 s28.2.1 fun a31 =>
 Ld (.int .i64) w29 (a31.add 0) fun x32 =>
 Ld .bool w29 (a31.add 1) fun x33 =>
 Ld .slice w29 (a31.add 2) fun x34 =>
 Al w29 (.cells ⟨[(Value.int .i64 0), (Value.bool false), (Value.slice none 0 0)]⟩ 87) fun a36 w35 =>
 StN [(Value.int .i64 x32), (Value.bool x33), (Value.slice x34.a x34.len x34.cap)] w35 a36 0 fun w37 =>
 Ld .slice w37 (a36.add 2) fun x38 =>
 AppSl 5 1 1 [(Value.int .u8 0)] s28.1 x38 w37 fun s39 w40 =>
 next30 (s39, (IntKind.i64.wrap (s28.2.1 + 1)), ()) w40
 else
 St w29 a3 (Value.slice s28.1.a s28.1.len s28.1.cap) fun w41 =>
 St w41 a5 (Value.bool true) fun w42 =>
 w42.heap[w14.heap.size]? = some (.deferred (some [])) ∧
 Ld .slice (w42.putObj w14.heap.size (.deferred none)) a3 fun y43 =>
 Ld .bool (w42.putObj w14.heap.size (.deferred none)) a5 fun y44 =>
 K y43 y44 (w42.putObj w14.heap.size (.deferred none)))) (s24, 0, ()) w25)
 (fun w45 =>
 w45.heap[w14.heap.size]? = some (.deferred (some [])) ∧
 Ld .slice (w45.putObj w14.heap.size (.deferred none)) a3 fun y46 =>
 Ld .bool (w45.putObj w14.heap.size (.deferred none)) a5 fun y47 =>
 K y46 y47 (w45.putObj w14.heap.size (.deferred none)))
 []))
 c_holes_Holes_ready a0 w4 fun r48 w49 =>
 (bif (!r48) then
 J6 true w49
 else
 ∃ a50 : Addr, a0 = some a50 ∧
 Ld (.int .i64) w49 (a50.add 2) fun x51 =>
 J6 (decide (x51 < 0)) w49))
theorem e_holes_Holes_Done (a0 : Option Addr) (w : World) (K : SliceV → Bool → World → Prop) : den Try.prog 41 (bodyOf Try.f20) none (.seq .leaf (.seq (.seq .leaf (.cond (.seq .leaf .leaf) .leaf)) (.seq (.seq .leaf (.blk (.rng [.one (.int .i64), .one (.int .i64)] .leaf (.blk (.seq .leaf .leaf))))) (.seq .leaf (.seq (.seq .leaf (.blk (.loop [(4, .slice), (31, (.int .i64))] (.seq .leaf (.seq (.cond .leaf .leaf) (.seq (.blk (.seq .leaf .leaf)) .leaf)))))) (.seq .leaf .leaf)))))) (argEnv 0 [(Value.pointer a0)]) [] w (retK Try.prog [.cell 2 30, .cell 3 4] [.one .slice, .one .bool] K) = s_holes_Holes_Done a0 w K := by kernel_rfl
theorem ok_holes_Holes_Done {a0 w K} (h : s_holes_Holes_Done a0 w K) : c_holes_Holes_Done a0 w K :=
  fn_sound pok Try.func20 (fn := Try.f20) (c := bodyOf Try.f20) (nt := 41) (by kernel_rfl) (by kernel_rfl) (rs := [.cell 2 30, .cell 3 4]) (by kernel_rfl) [.one .slice, .one .bool] K (.seq .leaf (.seq (.seq .leaf (.cond (.seq .leaf .leaf) .leaf)) (.seq (.seq .leaf (.blk (.rng [.one (.int .i64), .one (.int .i64)] .leaf (.blk (.seq .leaf .leaf))))) (.seq .leaf (.seq (.seq .leaf (.blk (.loop [(4, .slice), (31, (.int .i64))] (.seq .leaf (.seq (.cond .leaf .leaf) (.seq (.blk (.seq .leaf .leaf)) .leaf)))))) (.seq .leaf .leaf)))))) [(Value.pointer a0)] (by kernel_rfl) w ((e_holes_Holes_Done a0 w K).mpr h)

/-- bytes.Equal -/
def s_bytes_Equal (a0 : SliceV) (a1 : SliceV) (w : World) (K : Bool → World → Prop) : Prop :=
 (BytesStr w a0 fun b3 =>
 BytesStr w a1 fun b4 =>
 K (strEq b3 b4) w)
theorem e_bytes_Equal (a0 : SliceV) (a1 : SliceV) (w : World) (K : Bool → World → Prop) : den Try.prog 10 (bodyOf Try.f21) none (.seq .leaf (.seq .leaf .leaf)) (argEnv 0 [(Value.slice a0.a a0.len a0.cap), (Value.slice a1.a a1.len a1.cap)]) [] w (retK Try.prog [.tmp 4] [.one .bool] K) = s_bytes_Equal a0 a1 w K := by kernel_rfl
theorem ok_bytes_Equal {a0 a1 w K} (h : s_bytes_Equal a0 a1 w K) : c_bytes_Equal a0 a1 w K :=
  fn_sound pok Try.func21 (fn := Try.f21) (c := bodyOf Try.f21) (nt := 10) (by kernel_rfl) (by kernel_rfl) (rs := [.tmp 4]) (by kernel_rfl) [.one .bool] K (.seq .leaf (.seq .leaf .leaf)) [(Value.slice a0.a a0.len a0.cap), (Value.slice a1.a a1.len a1.cap)] (by kernel_rfl) w ((e_bytes_Equal a0 a1 w K).mpr h)

/-- (*goosepond/holes.Holes).Room -/
def s_holes_Holes_Room (a0 : Option Addr) (a1 : Int) (a2 : SliceV) (w : World) (K : Int → World → Prop) : Prop :=
 (let J4 : Bool → World → Prop := fun j5 w6 =>
 ((bif j5 then
 K 0 w6
 else
 K (a2.len : Int) w6))
 c_holes_Holes_ready a0 w fun r7 w8 =>
 (bif (!r7) then
 J4 true w8
 else
 c_holes_Holes_has a0 a1 true a2 w8 fun r9 w10 =>
 (bif r9 then
 J4 true w10
 else
 c_holes_Holes_has a0 a1 false a2 w10 fun r11 w12 =>
 J4 r11 w12)))
theorem e_holes_Holes_Room (a0 : Option Addr) (a1 : Int) (a2 : SliceV) (w : World) (K : Int → World → Prop) : den Try.prog 26 (bodyOf Try.f22) none (.seq .leaf (.seq (.seq .leaf (.cond (.seq .leaf .leaf) .leaf)) (.seq .leaf .leaf))) (argEnv 0 [(Value.pointer a0), (Value.int .i64 a1), (Value.slice a2.a a2.len a2.cap)]) [] w (retK Try.prog [.tmp 6] [.one (.int .i64)] K) = s_holes_Holes_Room a0 a1 a2 w K := by kernel_rfl
theorem ok_holes_Holes_Room {a0 a1 a2 w K} (h : s_holes_Holes_Room a0 a1 a2 w K) : c_holes_Holes_Room a0 a1 a2 w K :=
  fn_sound pok Try.func22 (fn := Try.f22) (c := bodyOf Try.f22) (nt := 26) (by kernel_rfl) (by kernel_rfl) (rs := [.tmp 6]) (by kernel_rfl) [.one (.int .i64)] K (.seq .leaf (.seq (.seq .leaf (.cond (.seq .leaf .leaf) .leaf)) (.seq .leaf .leaf))) [(Value.pointer a0), (Value.int .i64 a1), (Value.slice a2.a a2.len a2.cap)] (by kernel_rfl) w ((e_holes_Holes_Room a0 a1 a2 w K).mpr h)

/-- (*goosepond/goosepondref15.Holes).Room -/
def s_ref15_Holes_Room (a0 : Option Addr) (a1 : Int) (a2 : SliceV) (w : World) (K : Int → World → Prop) : Prop :=
 (let J4 : Bool → World → Prop := fun j5 w6 =>
 ((bif j5 then
 K 0 w6
 else
 K (a2.len : Int) w6))
 c_ref15_Holes_same a0 a1 true a2 w fun r7 w8 =>
 (bif r7 then
 J4 true w8
 else
 c_ref15_Holes_same a0 a1 false a2 w8 fun r9 w10 =>
 J4 r9 w10))
theorem e_ref15_Holes_Room (a0 : Option Addr) (a1 : Int) (a2 : SliceV) (w : World) (K : Int → World → Prop) : den Try.prog 19 (bodyOf Try.f23) none (.seq .leaf (.seq (.seq .leaf (.cond (.seq .leaf .leaf) .leaf)) (.seq .leaf .leaf))) (argEnv 0 [(Value.pointer a0), (Value.int .i64 a1), (Value.slice a2.a a2.len a2.cap)]) [] w (retK Try.prog [.tmp 6] [.one (.int .i64)] K) = s_ref15_Holes_Room a0 a1 a2 w K := by kernel_rfl
theorem ok_ref15_Holes_Room {a0 a1 a2 w K} (h : s_ref15_Holes_Room a0 a1 a2 w K) : c_ref15_Holes_Room a0 a1 a2 w K :=
  fn_sound pok Try.func23 (fn := Try.f23) (c := bodyOf Try.f23) (nt := 19) (by kernel_rfl) (by kernel_rfl) (rs := [.tmp 6]) (by kernel_rfl) [.one (.int .i64)] K (.seq .leaf (.seq (.seq .leaf (.cond (.seq .leaf .leaf) .leaf)) (.seq .leaf .leaf))) [(Value.pointer a0), (Value.int .i64 a1), (Value.slice a2.a a2.len a2.cap)] (by kernel_rfl) w ((e_ref15_Holes_Room a0 a1 a2 w K).mpr h)

/-- (*goosepond/holes.Holes).Bytes -/
def s_holes_Holes_Bytes (a0 : Option Addr) (w : World) (K : Int → World → Prop) : Prop :=
 (c_holes_Holes_ready a0 w fun r2 w3 =>
 (bif (!r2) then
 K 0 w3
 else
 ∃ a4 : Addr, a0 = some a4 ∧
 Ld (.int .i64) w3 (a4.add 1) fun x5 =>
 K x5 w3))
theorem e_holes_Holes_Bytes (a0 : Option Addr) (w : World) (K : Int → World → Prop) : den Try.prog 10 (bodyOf Try.f24) none (.seq .leaf (.seq (.seq .leaf (.cond (.seq .leaf .leaf) .leaf)) (.seq .leaf .leaf))) (argEnv 0 [(Value.pointer a0)]) [] w (retK Try.prog [.tmp 2] [.one (.int .i64)] K) = s_holes_Holes_Bytes a0 w K := by kernel_rfl
theorem ok_holes_Holes_Bytes {a0 w K} (h : s_holes_Holes_Bytes a0 w K) : c_holes_Holes_Bytes a0 w K :=
  fn_sound pok Try.func24 (fn := Try.f24) (c := bodyOf Try.f24) (nt := 10) (by kernel_rfl) (by kernel_rfl) (rs := [.tmp 2]) (by kernel_rfl) [.one (.int .i64)] K (.seq .leaf (.seq (.seq .leaf (.cond (.seq .leaf .leaf) .leaf)) (.seq .leaf .leaf))) [(Value.pointer a0)] (by kernel_rfl) w ((e_holes_Holes_Bytes a0 w K).mpr h)

/-- (*goosepond/goosepondref15.Holes).Bytes -/
def s_ref15_Holes_Bytes (a0 : Option Addr) (w : World) (K : Int → World → Prop) : Prop :=
 (LoopP (S := Int × Int × Unit) (fun s2 w3 next4 =>
 ∃ a5 : Addr, a0 = some a5 ∧
 Ld .slice w3 a5 fun x6 =>
 (bif (decide (s2.2.1 < (x6.len : Int))) then
 ∃ a7 : Addr, a0 = some a7 ∧
 Ld .slice w3 a7 fun x8 =>
 AtIx x8 3 s2.2.1 fun a9 =>
 Ld .slice w3 (a9.add 2) fun x10 =>
 next4 ((IntKind.i64.wrap (s2.1 + (x10.len : Int))), (IntKind.i64.wrap (s2.2.1 + 1)), ()) w3
 else
 K s2.1 w3)) (0, 0, ()) w)
theorem e_ref15_Holes_Bytes (a0 : Option Addr) (w : World) (K : Int → World → Prop) : den Try.prog 26 (bodyOf Try.f25) none (.seq .leaf (.seq .leaf (.seq (.seq .leaf (.blk (.loop [(3, (.int .i64)), (4, (.int .i64))] (.seq (.seq .leaf (.cond .leaf .leaf)) (.seq (.blk .leaf) .leaf))))) (.seq .leaf .leaf)))) (argEnv 0 [(Value.pointer a0)]) [] w (retK Try.prog [.tmp 2] [.one (.int .i64)] K) = s_ref15_Holes_Bytes a0 w K := by kernel_rfl
theorem ok_ref15_Holes_Bytes {a0 w K} (h : s_ref15_Holes_Bytes a0 w K) : c_ref15_Holes_Bytes a0 w K :=
  fn_sound pok Try.func25 (fn := Try.f25) (c := bodyOf Try.f25) (nt := 26) (by kernel_rfl) (by kernel_rfl) (rs := [.tmp 2]) (by kernel_rfl) [.one (.int .i64)] K (.seq .leaf (.seq .leaf (.seq (.seq .leaf (.blk (.loop [(3, (.int .i64)), (4, (.int .i64))] (.seq (.seq .leaf (.cond .leaf .leaf)) (.seq (.blk .leaf) .leaf))))) (.seq .leaf .leaf)))) [(Value.pointer a0)] (by kernel_rfl) w ((e_ref15_Holes_Bytes a0 w K).mpr h)

/-- (*goosepond/goosepondref15.Holes).Done -/
def s_ref15_Holes_Done (a0 : Option Addr) (w : World) (K : SliceV → Bool → World → Prop) : Prop :=
 (c_ref15_Holes_end a0 w fun r2 w3 =>
 let J4 : Bool → World → Prop := fun j5 w6 =>
 ((bif j5 then
 K ⟨none, 0, 0⟩ false w6
 else
 MkSl 5 1 1 [(Value.int .u8 0)] r2 r2 w6 fun s7 w8 =>
 LoopP (S := Int × Unit) (fun s9 w10 next11 =>
 ∃ a12 : Addr, a0 = some a12 ∧
 Ld .slice w10 a12 fun x13 =>
 (bif (decide (s9.1 < (x13.len : Int))) then
 LoopP (S := Int × Unit) (fun s14 w15 next16 =>
 ∃ a17 : Addr, a0 = some a17 ∧
 Ld .slice w15 a17 fun x18 =>
 AtIx x18 3 s9.1 fun a19 =>
 Ld .slice w15 (a19.add 2) fun x20 =>
 (bif (decide (s14.1 < (x20.len : Int))) then
 ∃ a21 : Addr, a0 = some a21 ∧
 Ld .slice w15.drew a21 fun x22 =>
 AtIx x22 3 s9.1 fun a23 =>
 Ld (.int .i64) w15.drew a23 fun x24 =>
 ∃ a25 : Addr, a0 = some a25 ∧
 Ld .slice w15.drew a25 fun x26 =>
 AtIx x26 3 s9.1 fun a27 =>
 Ld .slice w15.drew (a27.add 2) fun x28 =>
 AtIx x28 1 s14.1 fun a29 =>
 Ld (.int .u8) w15.drew a29 fun x30 =>
 AtIx s7 1 (IntKind.i64.wrap (x24 + s14.1)) fun a31 =>
 St w15.drew a31 (Value.int .u8 x30) fun w32 =>
 next16 ((IntKind.i64.wrap (s14.1 + 1)), ()) w32
 else
 next11 ((IntKind.i64.wrap (s9.1 + 1)), ()) w15)) (0, ()) w10
 else
 K s7 true w10)) (0, ()) w8))
 (bif (decide (r2 < 0)) then
 J4 true w3
 else
 c_ref15_Holes_Bytes a0 w3 fun r33 w34 =>
 J4 (r33 != r2) w34))
theorem e_ref15_Holes_Done (a0 : Option Addr) (w : World) (K : SliceV → Bool → World → Prop) : den Try.prog 66 (bodyOf Try.f26) none (.seq .leaf (.seq .leaf (.seq (.seq .leaf (.cond (.seq .leaf .leaf) .leaf)) (.seq .leaf (.seq (.seq .leaf (.blk (.loop [(6, (.int .i64))] (.seq (.seq .leaf (.cond .leaf .leaf)) (.seq (.blk (.seq .leaf (.blk (.loop [(7, (.int .i64))] (.seq (.seq .leaf (.cond .leaf .leaf)) (.seq (.blk .leaf) .leaf)))))) .leaf))))) (.seq .leaf .leaf)))))) (argEnv 0 [(Value.pointer a0)]) [] w (retK Try.prog [.tmp 2, .tmp 3] [.one .slice, .one .bool] K) = s_ref15_Holes_Done a0 w K := by kernel_rfl
theorem ok_ref15_Holes_Done {a0 w K} (h : s_ref15_Holes_Done a0 w K) : c_ref15_Holes_Done a0 w K :=
  fn_sound pok Try.func26 (fn := Try.f26) (c := bodyOf Try.f26) (nt := 66) (by kernel_rfl) (by kernel_rfl) (rs := [.tmp 2, .tmp 3]) (by kernel_rfl) [.one .slice, .one .bool] K (.seq .leaf (.seq .leaf (.seq (.seq .leaf (.cond (.seq .leaf .leaf) .leaf)) (.seq .leaf (.seq (.seq .leaf (.blk (.loop [(6, (.int .i64))] (.seq (.seq .leaf (.cond .leaf .leaf)) (.seq (.blk (.seq .leaf (.blk (.loop [(7, (.int .i64))] (.seq (.seq .leaf (.cond .leaf .leaf)) (.seq (.blk .leaf) .leaf)))))) .leaf))))) (.seq .leaf .leaf)))))) [(Value.pointer a0)] (by kernel_rfl) w ((e_ref15_Holes_Done a0 w K).mpr h)

/-- (*goosepond/holes.Holes).ready -/
def s_holes_Holes_ready (a0 : Option Addr) (w : World) (K : Bool → World → Prop) : Prop :=
 (let J2 : Bool → Prop := fun j3 =>
 (K j3 w)
 (bif (!(Option.isNone a0)) then
 ∃ a4 : Addr, a0 = some a4 ∧
 Ld .bool w (a4.add 3) fun x5 =>
 J2 x5
 else
 J2 false))
theorem e_holes_Holes_ready (a0 : Option Addr) (w : World) (K : Bool → World → Prop) : den Try.prog 11 (bodyOf Try.f46) none (.seq .leaf (.seq .leaf .leaf)) (argEnv 0 [(Value.pointer a0)]) [] w (retK Try.prog [.tmp 2] [.one .bool] K) = s_holes_Holes_ready a0 w K := by kernel_rfl
theorem ok_holes_Holes_ready {a0 w K} (h : s_holes_Holes_ready a0 w K) : c_holes_Holes_ready a0 w K :=
  fn_sound pok Try.func46 (fn := Try.f46) (c := bodyOf Try.f46) (nt := 11) (by kernel_rfl) (by kernel_rfl) (rs := [.tmp 2]) (by kernel_rfl) [.one .bool] K (.seq .leaf (.seq .leaf .leaf)) [(Value.pointer a0)] (by kernel_rfl) w ((e_holes_Holes_ready a0 w K).mpr h)

/-- goosepond/holes.may -/
def s_holes_may (a0_0 : Int) (a0_1 : Bool) (a0_2 : SliceV) (w : World) (K : Int → World → Prop) : Prop :=
 (Al w (.cells ⟨[(Value.int .i64 a0_0), (Value.bool a0_1), (Value.slice a0_2.a a0_2.len a0_2.cap)]⟩ 87) fun a3 w2 =>
 let J4 : Bool → Prop := fun j5 =>
 ((bif j5 then
 K 4 w2
 else
 Ld (.int .i64) w2 a3 fun x6 =>
 Ld .slice w2 (a3.add 2) fun x7 =>
 (bif (decide (x6 > (IntKind.i64.wrap (65535 - (x7.len : Int))))) then
 K 6 w2
 else
 K 0 w2)))
 Ld (.int .i64) w2 a3 fun x8 =>
 (bif (decide (x8 < 0)) then
 J4 (decide (x8 < 0))
 else
 Ld .bool w2 (a3.add 1) fun x9 =>
 (bif x9 then
 Ld .slice w2 (a3.add 2) fun x10 =>
 (bif ((x10.len : Int) == 0) then
 J4 true
 else
 Ld .slice w2 (a3.add 2) fun x11 =>
 (8 : Int) ≠ 0 ∧
 J4 ((Int.tmod (x11.len : Int) 8) != 0))
 else
 J4 false)))
theorem e_holes_may (a0_0 : Int) (a0_1 : Bool) (a0_2 : SliceV) (w : World) (K : Int → World → Prop) : den Try.prog 30 (bodyOf Try.f47) none (.seq .leaf (.seq (.blk (.seq (.seq .leaf (.cond .leaf .leaf)) (.cond (.seq .leaf .leaf) (.seq .leaf (.cond (.seq .leaf .leaf) .leaf))))) (.seq .leaf .leaf))) (argEnv 0 [(Value.agg ⟨[(Value.int .i64 a0_0), (Value.bool a0_1), (Value.slice a0_2.a a0_2.len a0_2.cap)]⟩)]) [] w (retK Try.prog [.tmp 2] [.one (.int .i64)] K) = s_holes_may a0_0 a0_1 a0_2 w K := by kernel_rfl
theorem ok_holes_may {a0_0 a0_1 a0_2 w K} (h : s_holes_may a0_0 a0_1 a0_2 w K) : c_holes_may a0_0 a0_1 a0_2 w K :=
  fn_sound pok Try.func47 (fn := Try.f47) (c := bodyOf Try.f47) (nt := 30) (by kernel_rfl) (by kernel_rfl) (rs := [.tmp 2]) (by kernel_rfl) [.one (.int .i64)] K (.seq .leaf (.seq (.blk (.seq (.seq .leaf (.cond .leaf .leaf)) (.cond (.seq .leaf .leaf) (.seq .leaf (.cond (.seq .leaf .leaf) .leaf))))) (.seq .leaf .leaf))) [(Value.agg ⟨[(Value.int .i64 a0_0), (Value.bool a0_1), (Value.slice a0_2.a a0_2.len a0_2.cap)]⟩)] (by kernel_rfl) w ((e_holes_may a0_0 a0_1 a0_2 w K).mpr h)

/-- (*goosepond/holes.Holes).has -/
def s_holes_Holes_has (a0 : Option Addr) (a1_0 : Int) (a1_1 : Bool) (a1_2 : SliceV) (w : World) (K : Bool → World → Prop) : Prop :=
 (Al w (.cells ⟨[(Value.int .i64 a1_0), (Value.bool a1_1), (Value.slice a1_2.a a1_2.len a1_2.cap)]⟩ 87) fun a4 w3 =>
 ∃ a5 : Addr, a0 = some a5 ∧
 Ld .slice w3.drew a5 fun x6 =>
 Ld (.int .i64) w3.drew (a4.add 0) fun x7 =>
 Ld .bool w3.drew (a4.add 1) fun x8 =>
 Ld .slice w3.drew (a4.add 2) fun x9 =>
 c_slices_ContainsFunc_holes_piece_holes_piece x6 (Value.func (.func 78) #[(Value.agg ⟨[(Value.int .i64 x7), (Value.bool x8), (Value.slice x9.a x9.len x9.cap)]⟩)] #[]) w3.drew fun r10 w11 =>
 K r10 w11)
theorem e_holes_Holes_has (a0 : Option Addr) (a1_0 : Int) (a1_1 : Bool) (a1_2 : SliceV) (w : World) (K : Bool → World → Prop) : den Try.prog 12 (bodyOf Try.f48) none (.seq .leaf (.seq .leaf .leaf)) (argEnv 0 [(Value.pointer a0), (Value.agg ⟨[(Value.int .i64 a1_0), (Value.bool a1_1), (Value.slice a1_2.a a1_2.len a1_2.cap)]⟩)]) [] w (retK Try.prog [.tmp 4] [.one .bool] K) = s_holes_Holes_has a0 a1_0 a1_1 a1_2 w K := by kernel_rfl
theorem ok_holes_Holes_has {a0 a1_0 a1_1 a1_2 w K} (h : s_holes_Holes_has a0 a1_0 a1_1 a1_2 w K) : c_holes_Holes_has a0 a1_0 a1_1 a1_2 w K :=
  fn_sound pok Try.func48 (fn := Try.f48) (c := bodyOf Try.f48) (nt := 12) (by kernel_rfl) (by kernel_rfl) (rs := [.tmp 4]) (by kernel_rfl) [.one .bool] K (.seq .leaf (.seq .leaf .leaf)) [(Value.pointer a0), (Value.agg ⟨[(Value.int .i64 a1_0), (Value.bool a1_1), (Value.slice a1_2.a a1_2.len a1_2.cap)]⟩)] (by kernel_rfl) w ((e_holes_Holes_has a0 a1_0 a1_1 a1_2 w K).mpr h)

/-- (*goosepond/holes.Holes).meets -/
def s_holes_Holes_meets (a0 : Option Addr) (a1_0 : Int) (a1_1 : Bool) (a1_2 : SliceV) (w : World) (K : Bool → World → Prop) : Prop :=
 (Al w (.cells ⟨[(Value.int .i64 a1_0), (Value.bool a1_1), (Value.slice a1_2.a a1_2.len a1_2.cap)]⟩ 87) fun a4 w3 =>
 ∃ a5 : Addr, a0 = some a5 ∧
 Ld .slice w3 a5 fun x6 =>
 LoopP (S := Int × Unit) (fun s7 w8 next9 =>
 (bif (decide (s7.1 < (x6.len : Int))) then
 let J10 : World → Prop := fun w11 =>
 (next9 ((IntKind.i64.wrap (s7.1 + 1)), ()) w11)
 AtIx x6 3 s7.1 fun a12 =>
 Ld (.int .i64) w8 (a12.add 0) fun x13 =>
 Ld .bool w8 (a12.add 1) fun x14 =>
 Ld .slice w8 (a12.add 2) fun x15 =>
 Al w8 (.cells ⟨[(Value.int .i64 0), (Value.bool false), (Value.slice none 0 0)]⟩ 87) fun a17 w16 =>
 StN [(Value.int .i64 x13), (Value.bool x14), (Value.slice x15.a x15.len x15.cap)] w16 a17 0 fun w18 =>
 let J19 : Bool → Prop := fun j20 =>
 (let J21 : Bool → Prop := fun j22 =>
 ((bif j22 then
 K true w18
 else
 let J23 : Bool → Prop := fun j24 =>
 ((bif j24 then
 J10 w18
 else
 let J25 : Bool → World → Prop := fun j26 w27 =>
 ((bif j26 then
 K true w27
 else
 J10 w27))
 Ld (.int .i64) w18.drew a17 fun x28 =>
 Ld (.int .i64) w18.drew (a4.add 0) fun x29 =>
 Ld .bool w18.drew (a4.add 1) fun x30 =>
 Ld .slice w18.drew (a4.add 2) fun x31 =>
 c_holes_piece_end x29 x30 x31 w18.drew fun r32 w33 =>
 w33.cell? a17 = some (Value.int .i64 x28) ∧
 (bif (decide (x28 < r32)) then
 Ld (.int .i64) w33 a4 fun x34 =>
 Ld (.int .i64) w33 (a17.add 0) fun x35 =>
 Ld .bool w33 (a17.add 1) fun x36 =>
 Ld .slice w33 (a17.add 2) fun x37 =>
 c_holes_piece_end x35 x36 x37 w33 fun r38 w39 =>
 w39.cell? a4 = some (Value.int .i64 x34) ∧
 J25 (decide (x34 < r38)) w39
 else
 J25 false w33)))
 Ld .slice w18 (a4.add 2) fun x40 =>
 (bif ((x40.len : Int) == 0) then
 J23 true
 else
 Ld .slice w18 (a17.add 2) fun x41 =>
 J23 ((x41.len : Int) == 0))))
 (bif j20 then
 Ld (.int .i64) w18 a4 fun x42 =>
 Ld (.int .i64) w18 a17 fun x43 =>
 J21 (x42 == x43)
 else
 J21 false))
 Ld .slice w18 (a4.add 2) fun x44 =>
 (bif ((x44.len : Int) == 0) then
 Ld .slice w18 (a17.add 2) fun x45 =>
 J19 ((x45.len : Int) == 0)
 else
 J19 false)
 else
 K false w8)) (0, ()) w3)
theorem e_holes_Holes_meets (a0 : Option Addr) (a1_0 : Int) (a1_1 : Bool) (a1_2 : SliceV) (w : World) (K : Bool → World → Prop) : den Try.prog 61 (bodyOf Try.f49) none (.seq .leaf (.seq (.seq .leaf (.blk (.loop [(13, (.int .i64))] (.seq .leaf (.seq (.cond .leaf .leaf) (.seq (.blk (.seq .leaf (.seq .leaf (.blk (.seq .leaf (.cond (.seq .leaf .leaf) (.seq .leaf (.cond .leaf (.seq .leaf (.cond (.seq .leaf .leaf) .leaf)))))))))) .leaf)))))) (.seq .leaf .leaf))) (argEnv 0 [(Value.pointer a0), (Value.agg ⟨[(Value.int .i64 a1_0), (Value.bool a1_1), (Value.slice a1_2.a a1_2.len a1_2.cap)]⟩)]) [] w (retK Try.prog [.tmp 4] [.one .bool] K) = s_holes_Holes_meets a0 a1_0 a1_1 a1_2 w K := by kernel_rfl
theorem ok_holes_Holes_meets {a0 a1_0 a1_1 a1_2 w K} (h : s_holes_Holes_meets a0 a1_0 a1_1 a1_2 w K) : c_holes_Holes_meets a0 a1_0 a1_1 a1_2 w K :=
  fn_sound pok Try.func49 (fn := Try.f49) (c := bodyOf Try.f49) (nt := 61) (by kernel_rfl) (by kernel_rfl) (rs := [.tmp 4]) (by kernel_rfl) [.one .bool] K (.seq .leaf (.seq (.seq .leaf (.blk (.loop [(13, (.int .i64))] (.seq .leaf (.seq (.cond .leaf .leaf) (.seq (.blk (.seq .leaf (.seq .leaf (.blk (.seq .leaf (.cond (.seq .leaf .leaf) (.seq .leaf (.cond .leaf (.seq .leaf (.cond (.seq .leaf .leaf) .leaf)))))))))) .leaf)))))) (.seq .leaf .leaf))) [(Value.pointer a0), (Value.agg ⟨[(Value.int .i64 a1_0), (Value.bool a1_1), (Value.slice a1_2.a a1_2.len a1_2.cap)]⟩)] (by kernel_rfl) w ((e_holes_Holes_meets a0 a1_0 a1_1 a1_2 w K).mpr h)

/-- (*goosepond/holes.Holes).fits -/
def s_holes_Holes_fits (a0 : Option Addr) (a1_0 : Int) (a1_1 : Bool) (a1_2 : SliceV) (w : World) (K : Bool → World → Prop) : Prop :=
 (Al w (.cells ⟨[(Value.int .i64 a1_0), (Value.bool a1_1), (Value.slice a1_2.a a1_2.len a1_2.cap)]⟩ 87) fun a4 w3 =>
 Ld .bool w3 (a4.add 1) fun x5 =>
 (bif x5 then
 let J6 : Bool → World → Prop := fun j7 w8 =>
 (K j7 w8)
 ∃ a9 : Addr, a0 = some a9 ∧
 Ld (.int .i64) w3.drew (a9.add 2) fun x10 =>
 (bif (decide (x10 < 0)) then
 J6 true w3.drew
 else
 Ld (.int .i64) w3.drew (a4.add 0) fun x11 =>
 Ld .bool w3.drew (a4.add 1) fun x12 =>
 Ld .slice w3.drew (a4.add 2) fun x13 =>
 ∃ a14 : Addr, a0 = some a14 ∧
 Ld (.int .i64) w3.drew (a14.add 2) fun x15 =>
 c_holes_piece_end x11 x12 x13 w3.drew fun r16 w17 =>
 w17.cell? (a14.add 2) = some (Value.int .i64 x15) ∧
 J6 (decide (r16 ≤ x15)) w17)
 else
 let J18 : Bool → World → Prop := fun j19 w20 =>
 (K j19 w20)
 ∃ a21 : Addr, a0 = some a21 ∧
 Ld (.int .i64) w3.drew (a21.add 2) fun x22 =>
 (bif (decide (x22 < 0)) then
 Ld (.int .i64) w3.drew (a4.add 0) fun x23 =>
 Ld .bool w3.drew (a4.add 1) fun x24 =>
 Ld .slice w3.drew (a4.add 2) fun x25 =>
 c_holes_Holes_far a0 w3.drew fun r26 w27 =>
 w27.cell? (a4.add 0) = some (Value.int .i64 x23) ∧
 w27.cell? (a4.add 1) = some (Value.bool x24) ∧
 w27.cell? (a4.add 2) = some (Value.slice x25.a x25.len x25.cap) ∧
 c_holes_piece_end x23 x24 x25 w27 fun r28 w29 =>
 J18 (decide (r26 ≤ r28)) w29
 else
 J18 false w3.drew)))
theorem e_holes_Holes_fits (a0 : Option Addr) (a1_0 : Int) (a1_1 : Bool) (a1_2 : SliceV) (w : World) (K : Bool → World → Prop) : den Try.prog 33 (bodyOf Try.f50) none (.seq .leaf (.seq (.seq .leaf (.cond (.seq .leaf .leaf) .leaf)) (.seq .leaf .leaf))) (argEnv 0 [(Value.pointer a0), (Value.agg ⟨[(Value.int .i64 a1_0), (Value.bool a1_1), (Value.slice a1_2.a a1_2.len a1_2.cap)]⟩)]) [] w (retK Try.prog [.tmp 4] [.one .bool] K) = s_holes_Holes_fits a0 a1_0 a1_1 a1_2 w K := by kernel_rfl
theorem ok_holes_Holes_fits {a0 a1_0 a1_1 a1_2 w K} (h : s_holes_Holes_fits a0 a1_0 a1_1 a1_2 w K) : c_holes_Holes_fits a0 a1_0 a1_1 a1_2 w K :=
  fn_sound pok Try.func50 (fn := Try.f50) (c := bodyOf Try.f50) (nt := 33) (by kernel_rfl) (by kernel_rfl) (rs := [.tmp 4]) (by kernel_rfl) [.one .bool] K (.seq .leaf (.seq (.seq .leaf (.cond (.seq .leaf .leaf) .leaf)) (.seq .leaf .leaf))) [(Value.pointer a0), (Value.agg ⟨[(Value.int .i64 a1_0), (Value.bool a1_1), (Value.slice a1_2.a a1_2.len a1_2.cap)]⟩)] (by kernel_rfl) w ((e_holes_Holes_fits a0 a1_0 a1_1 a1_2 w K).mpr h)

/-- slices.Clone[[]byte,byte] -/
def s_slices_Clone_byte_byte (a0 : SliceV) (w : World) (K : SliceV → World → Prop) : Prop :=
 ((bif (Option.isNone a0.a) then
 K ⟨none, 0, 0⟩ w
 else
 Al w (.cells ⟨[]⟩ 5) fun a3 w2 =>
 AppSl 5 1 1 [(Value.int .u8 0)] ⟨(some a3), 0, 0⟩ a0 w2 fun s4 w5 =>
 K s4 w5))
theorem e_slices_Clone_byte_byte (a0 : SliceV) (w : World) (K : SliceV → World → Prop) : den Try.prog 8 (bodyOf Try.f51) none (.seq .leaf (.seq (.seq .leaf (.cond (.seq .leaf .leaf) .leaf)) (.seq .leaf .leaf))) (argEnv 0 [(Value.slice a0.a a0.len a0.cap)]) [] w (retK Try.prog [.tmp 2] [.one .slice] K) = s_slices_Clone_byte_byte a0 w K := by kernel_rfl
theorem ok_slices_Clone_byte_byte {a0 w K} (h : s_slices_Clone_byte_byte a0 w K) : c_slices_Clone_byte_byte a0 w K :=
  fn_sound pok Try.func51 (fn := Try.f51) (c := bodyOf Try.f51) (nt := 8) (by kernel_rfl) (by kernel_rfl) (rs := [.tmp 2]) (by kernel_rfl) [.one .slice] K (.seq .leaf (.seq (.seq .leaf (.cond (.seq .leaf .leaf) .leaf)) (.seq .leaf .leaf))) [(Value.slice a0.a a0.len a0.cap)] (by kernel_rfl) w ((e_slices_Clone_byte_byte a0 w K).mpr h)

/-- slices.BinarySearchFunc[[]goosepond/holes.piece,goosepond/holes.piece,goosepond/holes.piece] -/
def s_slices_BinarySearchFunc_holes_piece_holes_piece_holes_piece (a0 : SliceV) (a1_0 : Int) (a1_1 : Bool) (a1_2 : SliceV) (a2 : Value) (w : World) (K : Int → Bool → World → Prop) : Prop :=
 (Al w (.cells ⟨[(Value.int .i64 a1_0), (Value.bool a1_1), (Value.slice a1_2.a a1_2.len a1_2.cap)]⟩ 87) fun a5 w4 =>
 LoopP (S := Int × Int × Unit) (fun s6 w7 next8 =>
 (bif (decide (s6.1 < s6.2.1)) then
 0 ≤ (1 : Int) ∧
 AtIx a0 3 (IntKind.i64.wrap (shrI .u64 (IntKind.u64.wrap (IntKind.i64.wrap (s6.1 + s6.2.1))) 1)) fun a9 =>
 Ld (.int .i64) w7.drew (a9.add 0) fun x10 =>
 Ld .bool w7.drew (a9.add 1) fun x11 =>
 Ld .slice w7.drew (a9.add 2) fun x12 =>
 Ld (.int .i64) w7.drew (a5.add 0) fun x13 =>
 Ld .bool w7.drew (a5.add 1) fun x14 =>
 Ld .slice w7.drew (a5.add 2) fun x15 =>
 CallV Try.prog [.one (.int .i64)] a2 [(Value.agg ⟨[(Value.int .i64 x10), (Value.bool x11), (Value.slice x12.a x12.len x12.cap)]⟩), (Value.agg ⟨[(Value.int .i64 x13), (Value.bool x14), (Value.slice x15.a x15.len x15.cap)]⟩)] w7.drew fun r16 w17 =>
 ∃ r18 : Int, r16 = (Value.int .i64 r18) ∧
 (bif (decide (r18 < 0)) then
 next8 ((IntKind.i64.wrap ((IntKind.i64.wrap (shrI .u64 (IntKind.u64.wrap (IntKind.i64.wrap (s6.1 + s6.2.1))) 1)) + 1)), s6.2.1, ()) w17
 else
 next8 (s6.1, (IntKind.i64.wrap (shrI .u64 (IntKind.u64.wrap (IntKind.i64.wrap (s6.1 + s6.2.1))) 1)), ()) w17)
 else
 let J19 : Int → Bool → World → Prop := fun j20 j21 w22 =>
 (K j20 j21 w22)
 (bif (decide (s6.1 < (a0.len : Int))) then
 AtIx a0 3 s6.1 fun a23 =>
 Ld (.int .i64) w7.drew (a23.add 0) fun x24 =>
 Ld .bool w7.drew (a23.add 1) fun x25 =>
 Ld .slice w7.drew (a23.add 2) fun x26 =>
 Ld (.int .i64) w7.drew (a5.add 0) fun x27 =>
 Ld .bool w7.drew (a5.add 1) fun x28 =>
 Ld .slice w7.drew (a5.add 2) fun x29 =>
 CallV Try.prog [.one (.int .i64)] a2 [(Value.agg ⟨[(Value.int .i64 x24), (Value.bool x25), (Value.slice x26.a x26.len x26.cap)]⟩), (Value.agg ⟨[(Value.int .i64 x27), (Value.bool x28), (Value.slice x29.a x29.len x29.cap)]⟩)] w7.drew fun r30 w31 =>
 ∃ r32 : Int, r30 = (Value.int .i64 r32) ∧
 J19 s6.1 (r32 == 0) w31
 else
 J19 s6.1 false w7.drew))) (0, (a0.len : Int), ()) w4)
theorem e_slices_BinarySearchFunc_holes_piece_holes_piece_holes_piece (a0 : SliceV) (a1_0 : Int) (a1_1 : Bool) (a1_2 : SliceV) (a2 : Value) (w : World) (K : Int → Bool → World → Prop) : den Try.prog 49 (bodyOf Try.f52) none (.seq .leaf (.seq .leaf (.seq .leaf (.seq (.blk (.loop [(9, (.int .i64)), (10, (.int .i64))] (.seq (.seq .leaf (.cond .leaf .leaf)) (.blk (.seq .leaf (.seq .leaf (.cond .leaf .leaf))))))) (.seq .leaf .leaf))))) (argEnv 0 [(Value.slice a0.a a0.len a0.cap), (Value.agg ⟨[(Value.int .i64 a1_0), (Value.bool a1_1), (Value.slice a1_2.a a1_2.len a1_2.cap)]⟩), a2]) [] w (retK Try.prog [.tmp 6, .tmp 7] [.one (.int .i64), .one .bool] K) = s_slices_BinarySearchFunc_holes_piece_holes_piece_holes_piece a0 a1_0 a1_1 a1_2 a2 w K := by kernel_rfl
theorem ok_slices_BinarySearchFunc_holes_piece_holes_piece_holes_piece {a0 a1_0 a1_1 a1_2 a2 w K} (h : s_slices_BinarySearchFunc_holes_piece_holes_piece_holes_piece a0 a1_0 a1_1 a1_2 a2 w K) : c_slices_BinarySearchFunc_holes_piece_holes_piece_holes_piece a0 a1_0 a1_1 a1_2 a2 w K :=
  fn_sound pok Try.func52 (fn := Try.f52) (c := bodyOf Try.f52) (nt := 49) (by kernel_rfl) (by kernel_rfl) (rs := [.tmp 6, .tmp 7]) (by kernel_rfl) [.one (.int .i64), .one .bool] K (.seq .leaf (.seq .leaf (.seq .leaf (.seq (.blk (.loop [(9, (.int .i64)), (10, (.int .i64))] (.seq (.seq .leaf (.cond .leaf .leaf)) (.blk (.seq .leaf (.seq .leaf (.cond .leaf .leaf))))))) (.seq .leaf .leaf))))) [(Value.slice a0.a a0.len a0.cap), (Value.agg ⟨[(Value.int .i64 a1_0), (Value.bool a1_1), (Value.slice a1_2.a a1_2.len a1_2.cap)]⟩), a2] (by kernel_rfl) w ((e_slices_BinarySearchFunc_holes_piece_holes_piece_holes_piece a0 a1_0 a1_1 a1_2 a2 w K).mpr h)

/-- goosepond/holes.order -/
def s_holes_order (a0_0 : Int) (a0_1 : Bool) (a0_2 : SliceV) (a1_0 : Int) (a1_1 : Bool) (a1_2 : SliceV) (w : World) (K : Int → World → Prop) : Prop :=
 (Al w (.cells ⟨[(Value.int .i64 a0_0), (Value.bool a0_1), (Value.slice a0_2.a a0_2.len a0_2.cap)]⟩ 87) fun a4 w3 =>
 Al w3 (.cells ⟨[(Value.int .i64 a1_0), (Value.bool a1_1), (Value.slice a1_2.a a1_2.len a1_2.cap)]⟩ 87) fun a6 w5 =>
 Ld (.int .i64) w5.drew a4 fun x7 =>
 Ld (.int .i64) w5.drew a6 fun x8 =>
 Ld .slice w5.drew (a4.add 2) fun x9 =>
 Ld .slice w5.drew (a6.add 2) fun x10 =>
 c_cmp_Compare_int x7 x8 w5.drew fun r11 w12 =>
 w12.cell? (a6.add 2) = some (Value.slice x10.a x10.len x10.cap) ∧
 w12.cell? (a4.add 2) = some (Value.slice x9.a x9.len x9.cap) ∧
 c_cmp_Compare_int (x9.len : Int) (x10.len : Int) w12 fun r13 w14 =>
 Al w14 (.cells ⟨[(Value.int .i64 r11), (Value.int .i64 r13)]⟩ 3) fun a16 w15 =>
 c_cmp_Or_int ⟨(some a16), 2, 2⟩ w15 fun r17 w18 =>
 K r17 w18)
theorem e_holes_order (a0_0 : Int) (a0_1 : Bool) (a0_2 : SliceV) (a1_0 : Int) (a1_1 : Bool) (a1_2 : SliceV) (w : World) (K : Int → World → Prop) : den Try.prog 19 (bodyOf Try.f53) none (.seq .leaf (.seq .leaf .leaf)) (argEnv 0 [(Value.agg ⟨[(Value.int .i64 a0_0), (Value.bool a0_1), (Value.slice a0_2.a a0_2.len a0_2.cap)]⟩), (Value.agg ⟨[(Value.int .i64 a1_0), (Value.bool a1_1), (Value.slice a1_2.a a1_2.len a1_2.cap)]⟩)]) [] w (retK Try.prog [.tmp 4] [.one (.int .i64)] K) = s_holes_order a0_0 a0_1 a0_2 a1_0 a1_1 a1_2 w K := by kernel_rfl
theorem ok_holes_order {a0_0 a0_1 a0_2 a1_0 a1_1 a1_2 w K} (h : s_holes_order a0_0 a0_1 a0_2 a1_0 a1_1 a1_2 w K) : c_holes_order a0_0 a0_1 a0_2 a1_0 a1_1 a1_2 w K :=
  fn_sound pok Try.func53 (fn := Try.f53) (c := bodyOf Try.f53) (nt := 19) (by kernel_rfl) (by kernel_rfl) (rs := [.tmp 4]) (by kernel_rfl) [.one (.int .i64)] K (.seq .leaf (.seq .leaf .leaf)) [(Value.agg ⟨[(Value.int .i64 a0_0), (Value.bool a0_1), (Value.slice a0_2.a a0_2.len a0_2.cap)]⟩), (Value.agg ⟨[(Value.int .i64 a1_0), (Value.bool a1_1), (Value.slice a1_2.a a1_2.len a1_2.cap)]⟩)] (by kernel_rfl) w ((e_holes_order a0_0 a0_1 a0_2 a1_0 a1_1 a1_2 w K).mpr h)

/-- slices.Insert[[]goosepond/holes.piece,goosepond/holes.piece] -/
def s_slices_Insert_holes_piece_holes_piece (a0 : SliceV) (a1 : Int) (a2 : SliceV) (w : World) (K : SliceV → World → Prop) : Prop :=
 (SubSl a0 3 a1 (a0.len : Int) fun s4 =>
 (bif ((a2.len : Int) == 0) then
 K a0 w
 else
 (bif (a1 == (a0.len : Int)) then
 AppSl 87 3 40 [(Value.int .i64 0), (Value.bool false), (Value.slice none 0 0)] a0 a2 w fun s5 w6 =>
 K s5 w6
 else
 (bif (decide ((IntKind.i64.wrap ((a0.len : Int) + (a2.len : Int))) > (a0.cap : Int))) then
 SubSl a0 3 0 a1 fun s7 =>
 AppMk 87 3 40 [(Value.int .i64 0), (Value.bool false), (Value.slice none 0 0)] s7 (IntKind.i64.wrap ((IntKind.i64.wrap ((a0.len : Int) + (a2.len : Int))) - a1)) w fun s8 w9 =>
 SubSl s8 3 a1 (s8.len : Int) fun s10 =>
 CopySl 3 s10 a2 w9 fun n11 w12 =>
 SubSl s8 3 (IntKind.i64.wrap (a1 + (a2.len : Int))) (s8.len : Int) fun s13 =>
 SubSl a0 3 a1 (a0.len : Int) fun s14 =>
 CopySl 3 s13 s14 w12.drew fun n15 w16 =>
 K s8 w16
 else
 SubSl a0 3 0 (IntKind.i64.wrap ((a0.len : Int) + (a2.len : Int))) fun s17 =>
 SubSl s17 3 (IntKind.i64.wrap (a1 + (a2.len : Int))) (s17.len : Int) fun s18 =>
 ExtP Try.prog 82 [(Value.slice a2.a a2.len a2.cap), (Value.slice s18.a s18.len s18.cap)] w fun r19 w20 =>
 ∃ r21 : Bool, r19 = (Value.bool r21) ∧
 (bif (!r21) then
 SubSl s17 3 (IntKind.i64.wrap (a1 + (a2.len : Int))) (s17.len : Int) fun s22 =>
 SubSl s17 3 a1 (s17.len : Int) fun s23 =>
 CopySl 3 s22 s23 w20.drew fun n24 w25 =>
 SubSl s17 3 a1 (s17.len : Int) fun s26 =>
 CopySl 3 s26 a2 w25 fun n27 w28 =>
 K s17 w28
 else
 SubSl s17 3 (a0.len : Int) (s17.len : Int) fun s29 =>
 CopySl 3 s29 a2 w20 fun n30 w31 =>
 SubSl s17 3 a1 (s17.len : Int) fun s32 =>
 c_slices_rotateRight_holes_piece s32 (a2.len : Int) w31 fun w33 =>
 K s17 w33)))))
theorem e_slices_Insert_holes_piece_holes_piece (a0 : SliceV) (a1 : Int) (a2 : SliceV) (w : World) (K : SliceV → World → Prop) : den Try.prog 95 (bodyOf Try.f54) none (.seq .leaf (.seq .leaf (.seq .leaf (.seq (.seq .leaf (.cond (.seq .leaf .leaf) .leaf)) (.seq .leaf (.seq (.seq .leaf (.cond (.seq .leaf .leaf) .leaf)) (.seq (.seq .leaf (.cond (.seq .leaf (.seq .leaf (.seq .leaf (.seq .leaf .leaf)))) .leaf)) (.seq .leaf (.seq (.seq .leaf (.cond (.seq .leaf (.seq .leaf (.seq .leaf .leaf))) .leaf)) (.seq .leaf (.seq .leaf (.seq .leaf .leaf)))))))))))) (argEnv 0 [(Value.slice a0.a a0.len a0.cap), (Value.int .i64 a1), (Value.slice a2.a a2.len a2.cap)]) [] w (retK Try.prog [.tmp 6] [.one .slice] K) = s_slices_Insert_holes_piece_holes_piece a0 a1 a2 w K := by kernel_rfl
theorem ok_slices_Insert_holes_piece_holes_piece {a0 a1 a2 w K} (h : s_slices_Insert_holes_piece_holes_piece a0 a1 a2 w K) : c_slices_Insert_holes_piece_holes_piece a0 a1 a2 w K :=
  fn_sound pok Try.func54 (fn := Try.f54) (c := bodyOf Try.f54) (nt := 95) (by kernel_rfl) (by kernel_rfl) (rs := [.tmp 6]) (by kernel_rfl) [.one .slice] K (.seq .leaf (.seq .leaf (.seq .leaf (.seq (.seq .leaf (.cond (.seq .leaf .leaf) .leaf)) (.seq .leaf (.seq (.seq .leaf (.cond (.seq .leaf .leaf) .leaf)) (.seq (.seq .leaf (.cond (.seq .leaf (.seq .leaf (.seq .leaf (.seq .leaf .leaf)))) .leaf)) (.seq .leaf (.seq (.seq .leaf (.cond (.seq .leaf (.seq .leaf (.seq .leaf .leaf))) .leaf)) (.seq .leaf (.seq .leaf (.seq .leaf .leaf)))))))))))) [(Value.slice a0.a a0.len a0.cap), (Value.int .i64 a1), (Value.slice a2.a a2.len a2.cap)] (by kernel_rfl) w ((e_slices_Insert_holes_piece_holes_piece a0 a1 a2 w K).mpr h)

/-- (goosepond/holes.piece).end -/
def s_holes_piece_end (a0_0 : Int) (a0_1 : Bool) (a0_2 : SliceV) (w : World) (K : Int → World → Prop) : Prop :=
 (Al w (.cells ⟨[(Value.int .i64 a0_0), (Value.bool a0_1), (Value.slice a0_2.a a0_2.len a0_2.cap)]⟩ 87) fun a3 w2 =>
 Ld (.int .i64) w2 a3 fun x4 =>
 Ld .slice w2 (a3.add 2) fun x5 =>
 K (IntKind.i64.wrap (x4 + (x5.len : Int))) w2)
theorem e_holes_piece_end (a0_0 : Int) (a0_1 : Bool) (a0_2 : SliceV) (w : World) (K : Int → World → Prop) : den Try.prog 9 (bodyOf Try.f55) none (.seq .leaf (.seq .leaf .leaf)) (argEnv 0 [(Value.agg ⟨[(Value.int .i64 a0_0), (Value.bool a0_1), (Value.slice a0_2.a a0_2.len a0_2.cap)]⟩)]) [] w (retK Try.prog [.tmp 2] [.one (.int .i64)] K) = s_holes_piece_end a0_0 a0_1 a0_2 w K := by kernel_rfl
theorem ok_holes_piece_end {a0_0 a0_1 a0_2 w K} (h : s_holes_piece_end a0_0 a0_1 a0_2 w K) : c_holes_piece_end a0_0 a0_1 a0_2 w K :=
  fn_sound pok Try.func55 (fn := Try.f55) (c := bodyOf Try.f55) (nt := 9) (by kernel_rfl) (by kernel_rfl) (rs := [.tmp 2]) (by kernel_rfl) [.one (.int .i64)] K (.seq .leaf (.seq .leaf .leaf)) [(Value.agg ⟨[(Value.int .i64 a0_0), (Value.bool a0_1), (Value.slice a0_2.a a0_2.len a0_2.cap)]⟩)] (by kernel_rfl) w ((e_holes_piece_end a0_0 a0_1 a0_2 w K).mpr h)

/-- (*goosepond/goosepondref15.Holes).same -/
def s_ref15_Holes_same (a0 : Option Addr) (a1 : Int) (a2 : Bool) (a3 : SliceV) (w : World) (K : Bool → World → Prop) : Prop :=
 (LoopP (S := Int × Unit) (fun s5 w6 next7 =>
 ∃ a8 : Addr, a0 = some a8 ∧
 Ld .slice w6 a8 fun x9 =>
 (bif (decide (s5.1 < (x9.len : Int))) then
 ∃ a10 : Addr, a0 = some a10 ∧
 Ld .slice w6 a10 fun x11 =>
 AtIx x11 3 s5.1 fun a12 =>
 Ld (.int .i64) w6 (a12.add 0) fun x13 =>
 Ld .bool w6 (a12.add 1) fun x14 =>
 Ld .slice w6 (a12.add 2) fun x15 =>
 Al w6 (.cells ⟨[(Value.int .i64 0), (Value.bool false), (Value.slice none 0 0)]⟩ 97) fun a17 w16 =>
 StN [(Value.int .i64 x13), (Value.bool x14), (Value.slice x15.a x15.len x15.cap)] w16 a17 0 fun w18 =>
 let J19 : Bool → Prop := fun j20 =>
 ((bif j20 then
 K true w18
 else
 next7 ((IntKind.i64.wrap (s5.1 + 1)), ()) w18))
 Ld (.int .i64) w18 a17 fun x21 =>
 (bif (x21 == a1) then
 Ld .bool w18 (a17.add 1) fun x22 =>
 (bif ((x22 : Bool) == a2) then
 Ld .slice w18 (a17.add 2) fun x23 =>
 BytesStr w18 x23 fun b24 =>
 BytesStr w18 a3 fun b25 =>
 J19 (strEq b24 b25)
 else
 J19 false)
 else
 J19 false)
 else
 K false w6)) (0, ()) w)
theorem e_ref15_Holes_same (a0 : Option Addr) (a1 : Int) (a2 : Bool) (a3 : SliceV) (w : World) (K : Bool → World → Prop) : den Try.prog 45 (bodyOf Try.f56) none (.seq .leaf (.seq (.seq .leaf (.blk (.loop [(9, (.int .i64))] (.seq (.seq .leaf (.cond .leaf .leaf)) (.seq (.blk (.seq .leaf (.seq .leaf (.cond (.seq .leaf .leaf) .leaf)))) .leaf))))) (.seq .leaf .leaf))) (argEnv 0 [(Value.pointer a0), (Value.int .i64 a1), (Value.bool a2), (Value.slice a3.a a3.len a3.cap)]) [] w (retK Try.prog [.tmp 8] [.one .bool] K) = s_ref15_Holes_same a0 a1 a2 a3 w K := by kernel_rfl
theorem ok_ref15_Holes_same {a0 a1 a2 a3 w K} (h : s_ref15_Holes_same a0 a1 a2 a3 w K) : c_ref15_Holes_same a0 a1 a2 a3 w K :=
  fn_sound pok Try.func56 (fn := Try.f56) (c := bodyOf Try.f56) (nt := 45) (by kernel_rfl) (by kernel_rfl) (rs := [.tmp 8]) (by kernel_rfl) [.one .bool] K (.seq .leaf (.seq (.seq .leaf (.blk (.loop [(9, (.int .i64))] (.seq (.seq .leaf (.cond .leaf .leaf)) (.seq (.blk (.seq .leaf (.seq .leaf (.cond (.seq .leaf .leaf) .leaf)))) .leaf))))) (.seq .leaf .leaf))) [(Value.pointer a0), (Value.int .i64 a1), (Value.bool a2), (Value.slice a3.a a3.len a3.cap)] (by kernel_rfl) w ((e_ref15_Holes_same a0 a1 a2 a3 w K).mpr h)

/-- (*goosepond/goosepondref15.Holes).shares -/
def s_ref15_Holes_shares (a0 : Option Addr) (a1 : Int) (a2 : SliceV) (w : World) (K : Bool → World → Prop) : Prop :=
 (LoopP (S := Int × Unit) (fun s4 w5 next6 =>
 ∃ a7 : Addr, a0 = some a7 ∧
 Ld .slice w5 a7 fun x8 =>
 (bif (decide (s4.1 < (x8.len : Int))) then
 ∃ a9 : Addr, a0 = some a9 ∧
 Ld .slice w5 a9 fun x10 =>
 AtIx x10 3 s4.1 fun a11 =>
 Ld (.int .i64) w5 (a11.add 0) fun x12 =>
 Ld .bool w5 (a11.add 1) fun x13 =>
 Ld .slice w5 (a11.add 2) fun x14 =>
 Al w5 (.cells ⟨[(Value.int .i64 0), (Value.bool false), (Value.slice none 0 0)]⟩ 97) fun a16 w15 =>
 StN [(Value.int .i64 x12), (Value.bool x13), (Value.slice x14.a x14.len x14.cap)] w15 a16 0 fun w17 =>
 let J18 : Bool → Prop := fun j19 =>
 (JoinP (S := (Bool × Unit) × World) (fun s20 =>
 (bif s20.1.1 then
 K true s20.2
 else
 next6 ((IntKind.i64.wrap (s4.1 + 1)), ()) s20.2)) fun J21 =>
 (bif j19 then
 Ld (.int .i64) w17 a16 fun x22 =>
 (bif (decide (x22 < (IntKind.i64.wrap (a1 + (a2.len : Int))))) then
 Ld (.int .i64) w17 a16 fun x23 =>
 Ld .slice w17 (a16.add 2) fun x24 =>
 (bif (decide (a1 < (IntKind.i64.wrap (x23 + (x24.len : Int))))) then
 J21 ((true, ()), w17)
 else
 Ld (.int .i64) w17 a16 fun x25 =>
 (bif (x25 == a1) then
 Ld .slice w17 (a16.add 2) fun x26 =>
 (bif ((x26.len : Int) == 0) then
 J21 ((((a2.len : Int) == 0), ()), w17)
 else
 J21 ((false, ()), w17))
 else
 J21 ((false, ()), w17)))
 else
 Ld (.int .i64) w17 a16 fun x27 =>
 (bif (x27 == a1) then
 Ld .slice w17 (a16.add 2) fun x28 =>
 (bif ((x28.len : Int) == 0) then
 J21 ((((a2.len : Int) == 0), ()), w17)
 else
 J21 ((false, ()), w17))
 else
 J21 ((false, ()), w17)))
 else
 Ld (.int .i64) w17 a16 fun x29 =>
 (bif (x29 == a1) then
 Ld .slice w17 (a16.add 2) fun x30 =>
 (bif ((x30.len : Int) == 0) then
 J21 ((((a2.len : Int) == 0), ()), w17)
 else
 J21 ((false, ()), w17))
 else
 J21 ((false, ()), w17))))
 Ld .slice w17 (a16.add 2) fun x31 =>
 (bif (decide ((x31.len : Int) > 0)) then
 J18 (decide ((a2.len : Int) > 0))
 else
 J18 false)
 else
 K false w5)) (0, ()) w)
theorem e_ref15_Holes_shares (a0 : Option Addr) (a1 : Int) (a2 : SliceV) (w : World) (K : Bool → World → Prop) : den Try.prog 72 (bodyOf Try.f57) none (.seq .leaf (.seq (.seq .leaf (.blk (.loop [(7, (.int .i64))] (.seq (.seq .leaf (.cond .leaf .leaf)) (.seq (.blk (.seq .leaf (.seq .leaf (.join [(71, .sh (.one .bool))] .leaf (.cond (.seq .leaf .leaf) .leaf))))) .leaf))))) (.seq .leaf .leaf))) (argEnv 0 [(Value.pointer a0), (Value.int .i64 a1), (Value.slice a2.a a2.len a2.cap)]) [] w (retK Try.prog [.tmp 6] [.one .bool] K) = s_ref15_Holes_shares a0 a1 a2 w K := by kernel_rfl
theorem ok_ref15_Holes_shares {a0 a1 a2 w K} (h : s_ref15_Holes_shares a0 a1 a2 w K) : c_ref15_Holes_shares a0 a1 a2 w K :=
  fn_sound pok Try.func57 (fn := Try.f57) (c := bodyOf Try.f57) (nt := 72) (by kernel_rfl) (by kernel_rfl) (rs := [.tmp 6]) (by kernel_rfl) [.one .bool] K (.seq .leaf (.seq (.seq .leaf (.blk (.loop [(7, (.int .i64))] (.seq (.seq .leaf (.cond .leaf .leaf)) (.seq (.blk (.seq .leaf (.seq .leaf (.join [(71, .sh (.one .bool))] .leaf (.cond (.seq .leaf .leaf) .leaf))))) .leaf))))) (.seq .leaf .leaf))) [(Value.pointer a0), (Value.int .i64 a1), (Value.slice a2.a a2.len a2.cap)] (by kernel_rfl) w ((e_ref15_Holes_shares a0 a1 a2 w K).mpr h)

/-- (*goosepond/goosepondref15.Holes).end -/
def s_ref15_Holes_end (a0 : Option Addr) (w : World) (K : Int → World → Prop) : Prop :=
 (LoopP (S := Int × Unit) (fun s2 w3 next4 =>
 ∃ a5 : Addr, a0 = some a5 ∧
 Ld .slice w3 a5 fun x6 =>
 (bif (decide (s2.1 < (x6.len : Int))) then
 ∃ a7 : Addr, a0 = some a7 ∧
 Ld .slice w3 a7 fun x8 =>
 AtIx x8 3 s2.1 fun a9 =>
 Ld .bool w3 (a9.add 1) fun x10 =>
 (bif (!x10) then
 ∃ a11 : Addr, a0 = some a11 ∧
 Ld .slice w3.drew a11 fun x12 =>
 AtIx x12 3 s2.1 fun a13 =>
 Ld (.int .i64) w3.drew a13 fun x14 =>
 ∃ a15 : Addr, a0 = some a15 ∧
 Ld .slice w3.drew a15 fun x16 =>
 AtIx x16 3 s2.1 fun a17 =>
 Ld .slice w3.drew (a17.add 2) fun x18 =>
 K (IntKind.i64.wrap (x14 + (x18.len : Int))) w3.drew
 else
 next4 ((IntKind.i64.wrap (s2.1 + 1)), ()) w3)
 else
 K (-1) w3)) (0, ()) w)
theorem e_ref15_Holes_end (a0 : Option Addr) (w : World) (K : Int → World → Prop) : den Try.prog 40 (bodyOf Try.f58) none (.seq .leaf (.seq (.seq .leaf (.blk (.loop [(3, (.int .i64))] (.seq (.seq .leaf (.cond .leaf .leaf)) (.seq (.blk (.seq .leaf (.cond (.seq .leaf .leaf) .leaf))) .leaf))))) (.seq .leaf .leaf))) (argEnv 0 [(Value.pointer a0)]) [] w (retK Try.prog [.tmp 2] [.one (.int .i64)] K) = s_ref15_Holes_end a0 w K := by kernel_rfl
theorem ok_ref15_Holes_end {a0 w K} (h : s_ref15_Holes_end a0 w K) : c_ref15_Holes_end a0 w K :=
  fn_sound pok Try.func58 (fn := Try.f58) (c := bodyOf Try.f58) (nt := 40) (by kernel_rfl) (by kernel_rfl) (rs := [.tmp 2]) (by kernel_rfl) [.one (.int .i64)] K (.seq .leaf (.seq (.seq .leaf (.blk (.loop [(3, (.int .i64))] (.seq (.seq .leaf (.cond .leaf .leaf)) (.seq (.blk (.seq .leaf (.cond (.seq .leaf .leaf) .leaf))) .leaf))))) (.seq .leaf .leaf))) [(Value.pointer a0)] (by kernel_rfl) w ((e_ref15_Holes_end a0 w K).mpr h)

/-- (*goosepond/goosepondref15.Holes).Far -/
def s_ref15_Holes_Far (a0 : Option Addr) (w : World) (K : Int → World → Prop) : Prop :=
 (LoopP (S := Int × Int × Unit) (fun s2 w3 next4 =>
 ∃ a5 : Addr, a0 = some a5 ∧
 Ld .slice w3 a5 fun x6 =>
 (bif (decide (s2.2.1 < (x6.len : Int))) then
 ∃ a7 : Addr, a0 = some a7 ∧
 Ld .slice w3.drew a7 fun x8 =>
 AtIx x8 3 s2.2.1 fun a9 =>
 Ld (.int .i64) w3.drew a9 fun x10 =>
 ∃ a11 : Addr, a0 = some a11 ∧
 Ld .slice w3.drew a11 fun x12 =>
 AtIx x12 3 s2.2.1 fun a13 =>
 Ld .slice w3.drew (a13.add 2) fun x14 =>
 next4 ((if (IntKind.i64.wrap (x10 + (x14.len : Int))) > s2.1 then (IntKind.i64.wrap (x10 + (x14.len : Int))) else s2.1), (IntKind.i64.wrap (s2.2.1 + 1)), ()) w3.drew
 else
 K s2.1 w3)) (0, 0, ()) w)
theorem e_ref15_Holes_Far (a0 : Option Addr) (w : World) (K : Int → World → Prop) : den Try.prog 35 (bodyOf Try.f59) none (.seq .leaf (.seq .leaf (.seq (.seq .leaf (.blk (.loop [(3, (.int .i64)), (4, (.int .i64))] (.seq (.seq .leaf (.cond .leaf .leaf)) (.seq (.blk .leaf) .leaf))))) (.seq .leaf .leaf)))) (argEnv 0 [(Value.pointer a0)]) [] w (retK Try.prog [.tmp 2] [.one (.int .i64)] K) = s_ref15_Holes_Far a0 w K := by kernel_rfl
theorem ok_ref15_Holes_Far {a0 w K} (h : s_ref15_Holes_Far a0 w K) : c_ref15_Holes_Far a0 w K :=
  fn_sound pok Try.func59 (fn := Try.f59) (c := bodyOf Try.f59) (nt := 35) (by kernel_rfl) (by kernel_rfl) (rs := [.tmp 2]) (by kernel_rfl) [.one (.int .i64)] K (.seq .leaf (.seq .leaf (.seq (.seq .leaf (.blk (.loop [(3, (.int .i64)), (4, (.int .i64))] (.seq (.seq .leaf (.cond .leaf .leaf)) (.seq (.blk .leaf) .leaf))))) (.seq .leaf .leaf)))) [(Value.pointer a0)] (by kernel_rfl) w ((e_ref15_Holes_Far a0 w K).mpr h)

/-- (*goosepond/goosepondref15.Holes).Cover -/
def s_ref15_Holes_Cover (a0 : Option Addr) (a1 : Int) (w : World) (K : Bool → World → Prop) : Prop :=
 (LoopP (S := Int × Unit) (fun s3 w4 next5 =>
 ∃ a6 : Addr, a0 = some a6 ∧
 Ld .slice w4 a6 fun x7 =>
 (bif (decide (s3.1 < (x7.len : Int))) then
 let J8 : Bool → World → Prop := fun j9 w10 =>
 ((bif j9 then
 K true w10
 else
 next5 ((IntKind.i64.wrap (s3.1 + 1)), ()) w10))
 ∃ a11 : Addr, a0 = some a11 ∧
 Ld .slice w4.drew a11 fun x12 =>
 AtIx x12 3 s3.1 fun a13 =>
 Ld (.int .i64) w4.drew a13 fun x14 =>
 (bif (decide (x14 ≤ a1)) then
 ∃ a15 : Addr, a0 = some a15 ∧
 Ld .slice w4.drew a15 fun x16 =>
 AtIx x16 3 s3.1 fun a17 =>
 Ld (.int .i64) w4.drew a17 fun x18 =>
 ∃ a19 : Addr, a0 = some a19 ∧
 Ld .slice w4.drew a19 fun x20 =>
 AtIx x20 3 s3.1 fun a21 =>
 Ld .slice w4.drew (a21.add 2) fun x22 =>
 J8 (decide (a1 < (IntKind.i64.wrap (x18 + (x22.len : Int))))) w4.drew
 else
 J8 false w4.drew)
 else
 K false w4)) (0, ()) w)
theorem e_ref15_Holes_Cover (a0 : Option Addr) (a1 : Int) (w : World) (K : Bool → World → Prop) : den Try.prog 47 (bodyOf Try.f60) none (.seq .leaf (.seq (.seq .leaf (.blk (.loop [(5, (.int .i64))] (.seq (.seq .leaf (.cond .leaf .leaf)) (.seq (.blk (.seq .leaf (.cond (.seq .leaf .leaf) .leaf))) .leaf))))) (.seq .leaf .leaf))) (argEnv 0 [(Value.pointer a0), (Value.int .i64 a1)]) [] w (retK Try.prog [.tmp 4] [.one .bool] K) = s_ref15_Holes_Cover a0 a1 w K := by kernel_rfl
theorem ok_ref15_Holes_Cover {a0 a1 w K} (h : s_ref15_Holes_Cover a0 a1 w K) : c_ref15_Holes_Cover a0 a1 w K :=
  fn_sound pok Try.func60 (fn := Try.f60) (c := bodyOf Try.f60) (nt := 47) (by kernel_rfl) (by kernel_rfl) (rs := [.tmp 4]) (by kernel_rfl) [.one .bool] K (.seq .leaf (.seq (.seq .leaf (.blk (.loop [(5, (.int .i64))] (.seq (.seq .leaf (.cond .leaf .leaf)) (.seq (.blk (.seq .leaf (.cond (.seq .leaf .leaf) .leaf))) .leaf))))) (.seq .leaf .leaf))) [(Value.pointer a0), (Value.int .i64 a1)] (by kernel_rfl) w ((e_ref15_Holes_Cover a0 a1 w K).mpr h)

/-- (*goosepond/holes.Holes).Gaps$1 -/
def s_holes_Holes_Gaps_1 (a0 : Value) (f0 : Addr) (w : World) (K : World → Prop) : Prop :=
 (Ld .ptr w f0 fun x2 =>
 c_holes_Holes_ready x2 w fun r3 w4 =>
 (bif (!r3) then
 K w4
 else
 Ld .ptr w4 f0 fun x5 =>
 ∃ a6 : Addr, x5 = some a6 ∧
 Ld .slice w4 a6 fun x7 =>
 LoopP (S := Int × Int × Unit) (fun s8 w9 next10 =>
 (bif (decide (s8.2.1 < (x7.len : Int))) then
 AtIx x7 3 s8.2.1 fun a11 =>
 Ld (.int .i64) w9 (a11.add 0) fun x12 =>
 Ld .bool w9 (a11.add 1) fun x13 =>
 Ld .slice w9 (a11.add 2) fun x14 =>
 Al w9 (.cells ⟨[(Value.int .i64 0), (Value.bool false), (Value.slice none 0 0)]⟩ 87) fun a16 w15 =>
 StN [(Value.int .i64 x12), (Value.bool x13), (Value.slice x14.a x14.len x14.cap)] w15 a16 0 fun w17 =>
 let J18 : Bool → World → Prop := fun j19 w20 =>
 ((bif j19 then
 K w20
 else
 Ld (.int .i64) w20 (a16.add 0) fun x21 =>
 Ld .bool w20 (a16.add 1) fun x22 =>
 Ld .slice w20 (a16.add 2) fun x23 =>
 c_holes_piece_end x21 x22 x23 w20 fun r24 w25 =>
 next10 ((if r24 > s8.1 then r24 else s8.1), (IntKind.i64.wrap (s8.2.1 + 1)), ()) w25))
 Ld (.int .i64) w17 a16 fun x26 =>
 (bif (decide (x26 > s8.1)) then
 Ld (.int .i64) w17 a16 fun x27 =>
 CallV Try.prog [.one .bool] a0 [(Value.int .i64 s8.1), (Value.int .i64 x27)] w17 fun r28 w29 =>
 ∃ r30 : Bool, r28 = (Value.bool r30) ∧
 J18 (!r30) w29
 else
 J18 false w17)
 else
 Ld .ptr w9 f0 fun x31 =>
 ∃ a32 : Addr, x31 = some a32 ∧
 Ld (.int .i64) w9 (a32.add 2) fun x33 =>
 (bif (decide (x33 > s8.1)) then
 Ld .ptr w9 f0 fun x34 =>
 ∃ a35 : Addr, x34 = some a35 ∧
 Ld (.int .i64) w9 (a35.add 2) fun x36 =>
 CallV Try.prog [.one .bool] a0 [(Value.int .i64 s8.1), (Value.int .i64 x36)] w9 fun r37 w38 =>
 ∃ r39 : Bool, r37 = (Value.bool r39) ∧
 K w38
 else
 K w9))) (0, 0, ()) w4))
theorem e_holes_Holes_Gaps_1 (a0 : Value) (f0 : Addr) (w : World) (K : World → Prop) : den Try.prog 48 (bodyOf Try.f61) none (.seq (.seq .leaf (.cond .leaf .leaf)) (.seq .leaf (.seq (.seq .leaf (.blk (.loop [(3, (.int .i64)), (14, (.int .i64))] (.seq .leaf (.seq (.cond .leaf .leaf) (.seq (.blk (.seq .leaf (.seq (.seq .leaf (.cond .leaf .leaf)) .leaf))) .leaf)))))) (.seq .leaf (.cond .leaf .leaf))))) (argEnv 0 [a0, (Value.pointer (some f0))]) [] w (retK Try.prog [] [] K) = s_holes_Holes_Gaps_1 a0 f0 w K := by kernel_rfl
theorem ok_holes_Holes_Gaps_1 {a0 f0 w K} (h : s_holes_Holes_Gaps_1 a0 f0 w K) : c_holes_Holes_Gaps_1 a0 f0 w K :=
  fn_sound pok Try.func61 (fn := Try.f61) (c := bodyOf Try.f61) (nt := 48) (by kernel_rfl) (by kernel_rfl) (rs := []) (by kernel_rfl) [] K (.seq (.seq .leaf (.cond .leaf .leaf)) (.seq .leaf (.seq (.seq .leaf (.blk (.loop [(3, (.int .i64)), (14, (.int .i64))] (.seq .leaf (.seq (.cond .leaf .leaf) (.seq (.blk (.seq .leaf (.seq (.seq .leaf (.cond .leaf .leaf)) .leaf))) .leaf)))))) (.seq .leaf (.cond .leaf .leaf))))) [a0, (Value.pointer (some f0))] (by kernel_rfl) w ((e_holes_Holes_Gaps_1 a0 f0 w K).mpr h)

/-- slices.ContainsFunc[[]goosepond/holes.piece,goosepond/holes.piece] -/
def s_slices_ContainsFunc_holes_piece_holes_piece (a0 : SliceV) (a1 : Value) (w : World) (K : Bool → World → Prop) : Prop :=
 (c_slices_IndexFunc_holes_piece_holes_piece a0 a1 w fun r3 w4 =>
 K (decide (r3 ≥ 0)) w4)
theorem e_slices_ContainsFunc_holes_piece_holes_piece (a0 : SliceV) (a1 : Value) (w : World) (K : Bool → World → Prop) : den Try.prog 9 (bodyOf Try.f77) none (.seq .leaf (.seq .leaf .leaf)) (argEnv 0 [(Value.slice a0.a a0.len a0.cap), a1]) [] w (retK Try.prog [.tmp 4] [.one .bool] K) = s_slices_ContainsFunc_holes_piece_holes_piece a0 a1 w K := by kernel_rfl
theorem ok_slices_ContainsFunc_holes_piece_holes_piece {a0 a1 w K} (h : s_slices_ContainsFunc_holes_piece_holes_piece a0 a1 w K) : c_slices_ContainsFunc_holes_piece_holes_piece a0 a1 w K :=
  fn_sound pok Try.func77 (fn := Try.f77) (c := bodyOf Try.f77) (nt := 9) (by kernel_rfl) (by kernel_rfl) (rs := [.tmp 4]) (by kernel_rfl) [.one .bool] K (.seq .leaf (.seq .leaf .leaf)) [(Value.slice a0.a a0.len a0.cap), a1] (by kernel_rfl) w ((e_slices_ContainsFunc_holes_piece_holes_piece a0 a1 w K).mpr h)

/-- (goosepond/holes.piece).is -/
def s_holes_piece_is (a0_0 : Int) (a0_1 : Bool) (a0_2 : SliceV) (a1_0 : Int) (a1_1 : Bool) (a1_2 : SliceV) (w : World) (K : Bool → World → Prop) : Prop :=
 (Al w (.cells ⟨[(Value.int .i64 a0_0), (Value.bool a0_1), (Value.slice a0_2.a a0_2.len a0_2.cap)]⟩ 87) fun a4 w3 =>
 Al w3 (.cells ⟨[(Value.int .i64 a1_0), (Value.bool a1_1), (Value.slice a1_2.a a1_2.len a1_2.cap)]⟩ 87) fun a6 w5 =>
 let J7 : Bool → World → Prop := fun j8 w9 =>
 (K j8 w9)
 Ld (.int .i64) w5 a4 fun x10 =>
 Ld (.int .i64) w5 a6 fun x11 =>
 (bif (x10 == x11) then
 Ld .bool w5 (a4.add 1) fun x12 =>
 Ld .bool w5 (a6.add 1) fun x13 =>
 (bif ((x12 : Bool) == x13) then
 Ld .slice w5 (a4.add 2) fun x14 =>
 Ld .slice w5 (a6.add 2) fun x15 =>
 c_bytes_Equal x14 x15 w5 fun r16 w17 =>
 J7 r16 w17
 else
 J7 false w5)
 else
 J7 false w5))
theorem e_holes_piece_is (a0_0 : Int) (a0_1 : Bool) (a0_2 : SliceV) (a1_0 : Int) (a1_1 : Bool) (a1_2 : SliceV) (w : World) (K : Bool → World → Prop) : den Try.prog 24 (bodyOf Try.f78) none (.seq .leaf (.seq .leaf .leaf)) (argEnv 0 [(Value.agg ⟨[(Value.int .i64 a0_0), (Value.bool a0_1), (Value.slice a0_2.a a0_2.len a0_2.cap)]⟩), (Value.agg ⟨[(Value.int .i64 a1_0), (Value.bool a1_1), (Value.slice a1_2.a a1_2.len a1_2.cap)]⟩)]) [] w (retK Try.prog [.tmp 4] [.one .bool] K) = s_holes_piece_is a0_0 a0_1 a0_2 a1_0 a1_1 a1_2 w K := by kernel_rfl
theorem ok_holes_piece_is {a0_0 a0_1 a0_2 a1_0 a1_1 a1_2 w K} (h : s_holes_piece_is a0_0 a0_1 a0_2 a1_0 a1_1 a1_2 w K) : c_holes_piece_is a0_0 a0_1 a0_2 a1_0 a1_1 a1_2 w K :=
  fn_sound pok Try.func78 (fn := Try.f78) (c := bodyOf Try.f78) (nt := 24) (by kernel_rfl) (by kernel_rfl) (rs := [.tmp 4]) (by kernel_rfl) [.one .bool] K (.seq .leaf (.seq .leaf .leaf)) [(Value.agg ⟨[(Value.int .i64 a0_0), (Value.bool a0_1), (Value.slice a0_2.a a0_2.len a0_2.cap)]⟩), (Value.agg ⟨[(Value.int .i64 a1_0), (Value.bool a1_1), (Value.slice a1_2.a a1_2.len a1_2.cap)]⟩)] (by kernel_rfl) w ((e_holes_piece_is a0_0 a0_1 a0_2 a1_0 a1_1 a1_2 w K).mpr h)

/-- (*goosepond/holes.Holes).far -/
def s_holes_Holes_far (a0 : Option Addr) (w : World) (K : Int → World → Prop) : Prop :=
 (∃ a2 : Addr, a0 = some a2 ∧
 Ld .slice w a2 fun x3 =>
 LoopP (S := Int × Int × Unit) (fun s4 w5 next6 =>
 (bif (decide (s4.2.1 < (x3.len : Int))) then
 AtIx x3 3 s4.2.1 fun a7 =>
 Ld (.int .i64) w5 (a7.add 0) fun x8 =>
 Ld .bool w5 (a7.add 1) fun x9 =>
 Ld .slice w5 (a7.add 2) fun x10 =>
 Al w5 (.cells ⟨[(Value.int .i64 0), (Value.bool false), (Value.slice none 0 0)]⟩ 87) fun a12 w11 =>
 StN [(Value.int .i64 x8), (Value.bool x9), (Value.slice x10.a x10.len x10.cap)] w11 a12 0 fun w13 =>
 Ld (.int .i64) w13 (a12.add 0) fun x14 =>
 Ld .bool w13 (a12.add 1) fun x15 =>
 Ld .slice w13 (a12.add 2) fun x16 =>
 c_holes_piece_end x14 x15 x16 w13 fun r17 w18 =>
 next6 ((if r17 > s4.1 then r17 else s4.1), (IntKind.i64.wrap (s4.2.1 + 1)), ()) w18
 else
 K s4.1 w5)) (0, 0, ()) w)
theorem e_holes_Holes_far (a0 : Option Addr) (w : World) (K : Int → World → Prop) : den Try.prog 21 (bodyOf Try.f79) none (.seq .leaf (.seq .leaf (.seq (.seq .leaf (.blk (.loop [(3, (.int .i64)), (11, (.int .i64))] (.seq .leaf (.seq (.cond .leaf .leaf) (.seq (.blk (.seq .leaf .leaf)) .leaf)))))) (.seq .leaf .leaf)))) (argEnv 0 [(Value.pointer a0)]) [] w (retK Try.prog [.tmp 2] [.one (.int .i64)] K) = s_holes_Holes_far a0 w K := by kernel_rfl
theorem ok_holes_Holes_far {a0 w K} (h : s_holes_Holes_far a0 w K) : c_holes_Holes_far a0 w K :=
  fn_sound pok Try.func79 (fn := Try.f79) (c := bodyOf Try.f79) (nt := 21) (by kernel_rfl) (by kernel_rfl) (rs := [.tmp 2]) (by kernel_rfl) [.one (.int .i64)] K (.seq .leaf (.seq .leaf (.seq (.seq .leaf (.blk (.loop [(3, (.int .i64)), (11, (.int .i64))] (.seq .leaf (.seq (.cond .leaf .leaf) (.seq (.blk (.seq .leaf .leaf)) .leaf)))))) (.seq .leaf .leaf)))) [(Value.pointer a0)] (by kernel_rfl) w ((e_holes_Holes_far a0 w K).mpr h)

/-- cmp.Or[int] -/
def s_cmp_Or_int (a0 : SliceV) (w : World) (K : Int → World → Prop) : Prop :=
 (LoopP (S := Int × Unit) (fun s2 w3 next4 =>
 (bif (decide (s2.1 < (a0.len : Int))) then
 AtIx a0 1 s2.1 fun a5 =>
 Ld (.int .i64) w3 a5 fun x6 =>
 (bif (x6 != 0) then
 K x6 w3
 else
 next4 ((IntKind.i64.wrap (s2.1 + 1)), ()) w3)
 else
 K 0 w3)) (0, ()) w)
theorem e_cmp_Or_int (a0 : SliceV) (w : World) (K : Int → World → Prop) : den Try.prog 18 (bodyOf Try.f80) none (.seq .leaf (.seq .leaf (.seq (.seq .leaf (.blk (.loop [(8, (.int .i64))] (.seq .leaf (.seq (.cond .leaf .leaf) (.seq (.blk (.seq .leaf (.seq .leaf (.cond (.seq .leaf .leaf) .leaf)))) .leaf)))))) (.seq .leaf .leaf)))) (argEnv 0 [(Value.slice a0.a a0.len a0.cap)]) [] w (retK Try.prog [.tmp 2] [.one (.int .i64)] K) = s_cmp_Or_int a0 w K := by kernel_rfl
theorem ok_cmp_Or_int {a0 w K} (h : s_cmp_Or_int a0 w K) : c_cmp_Or_int a0 w K :=
  fn_sound pok Try.func80 (fn := Try.f80) (c := bodyOf Try.f80) (nt := 18) (by kernel_rfl) (by kernel_rfl) (rs := [.tmp 2]) (by kernel_rfl) [.one (.int .i64)] K (.seq .leaf (.seq .leaf (.seq (.seq .leaf (.blk (.loop [(8, (.int .i64))] (.seq .leaf (.seq (.cond .leaf .leaf) (.seq (.blk (.seq .leaf (.seq .leaf (.cond (.seq .leaf .leaf) .leaf)))) .leaf)))))) (.seq .leaf .leaf)))) [(Value.slice a0.a a0.len a0.cap)] (by kernel_rfl) w ((e_cmp_Or_int a0 w K).mpr h)

/-- cmp.Compare[int] -/
def s_cmp_Compare_int (a0 : Int) (a1 : Int) (w : World) (K : Int → World → Prop) : Prop :=
 (c_cmp_isNaN_int a0 w fun r3 w4 =>
 c_cmp_isNaN_int a1 w4 fun r5 w6 =>
 (bif r3 then
 (bif r5 then
 K 0 w6
 else
 K (-1) w6)
 else
 (bif r5 then
 K 1 w6
 else
 (bif (decide (a0 < a1)) then
 K (-1) w6
 else
 (bif (decide (a0 > a1)) then
 K 1 w6
 else
 K 0 w6)))))
theorem e_cmp_Compare_int (a0 : Int) (a1 : Int) (w : World) (K : Int → World → Prop) : den Try.prog 20 (bodyOf Try.f81) none (.seq .leaf (.seq .leaf (.seq .leaf (.seq (.seq .leaf (.cond (.seq (.seq .leaf (.cond (.seq .leaf .leaf) .leaf)) (.seq .leaf .leaf)) .leaf)) (.seq (.seq .leaf (.cond (.seq .leaf .leaf) .leaf)) (.seq (.seq .leaf (.cond (.seq .leaf .leaf) .leaf)) (.seq (.seq .leaf (.cond (.seq .leaf .leaf) .leaf)) (.seq .leaf .leaf)))))))) (argEnv 0 [(Value.int .i64 a0), (Value.int .i64 a1)]) [] w (retK Try.prog [.tmp 4] [.one (.int .i64)] K) = s_cmp_Compare_int a0 a1 w K := by kernel_rfl
theorem ok_cmp_Compare_int {a0 a1 w K} (h : s_cmp_Compare_int a0 a1 w K) : c_cmp_Compare_int a0 a1 w K :=
  fn_sound pok Try.func81 (fn := Try.f81) (c := bodyOf Try.f81) (nt := 20) (by kernel_rfl) (by kernel_rfl) (rs := [.tmp 4]) (by kernel_rfl) [.one (.int .i64)] K (.seq .leaf (.seq .leaf (.seq .leaf (.seq (.seq .leaf (.cond (.seq (.seq .leaf (.cond (.seq .leaf .leaf) .leaf)) (.seq .leaf .leaf)) .leaf)) (.seq (.seq .leaf (.cond (.seq .leaf .leaf) .leaf)) (.seq (.seq .leaf (.cond (.seq .leaf .leaf) .leaf)) (.seq (.seq .leaf (.cond (.seq .leaf .leaf) .leaf)) (.seq .leaf .leaf)))))))) [(Value.int .i64 a0), (Value.int .i64 a1)] (by kernel_rfl) w ((e_cmp_Compare_int a0 a1 w K).mpr h)

/-- slices.rotateRight[goosepond/holes.piece] -/
def s_slices_rotateRight_holes_piece (a0 : SliceV) (a1 : Int) (w : World) (K : World → Prop) : Prop :=
 (c_slices_rotateLeft_holes_piece a0 (IntKind.i64.wrap ((a0.len : Int) - a1)) w fun w3 =>
 K w3)
theorem e_slices_rotateRight_holes_piece (a0 : SliceV) (a1 : Int) (w : World) (K : World → Prop) : den Try.prog 10 (bodyOf Try.f83) none .leaf (argEnv 0 [(Value.slice a0.a a0.len a0.cap), (Value.int .i64 a1)]) [] w (retK Try.prog [] [] K) = s_slices_rotateRight_holes_piece a0 a1 w K := by kernel_rfl
theorem ok_slices_rotateRight_holes_piece {a0 a1 w K} (h : s_slices_rotateRight_holes_piece a0 a1 w K) : c_slices_rotateRight_holes_piece a0 a1 w K :=
  fn_sound pok Try.func83 (fn := Try.f83) (c := bodyOf Try.f83) (nt := 10) (by kernel_rfl) (by kernel_rfl) (rs := []) (by kernel_rfl) [] K .leaf [(Value.slice a0.a a0.len a0.cap), (Value.int .i64 a1)] (by kernel_rfl) w ((e_slices_rotateRight_holes_piece a0 a1 w K).mpr h)

/-- slices.IndexFunc[[]goosepond/holes.piece,goosepond/holes.piece] -/
def s_slices_IndexFunc_holes_piece_holes_piece (a0 : SliceV) (a1 : Value) (w : World) (K : Int → World → Prop) : Prop :=
 (LoopP (S := Int × Unit) (fun s3 w4 next5 =>
 (bif (decide (s3.1 < (a0.len : Int))) then
 AtIx a0 3 s3.1 fun a6 =>
 Ld (.int .i64) w4 (a6.add 0) fun x7 =>
 Ld .bool w4 (a6.add 1) fun x8 =>
 Ld .slice w4 (a6.add 2) fun x9 =>
 CallV Try.prog [.one .bool] a1 [(Value.agg ⟨[(Value.int .i64 x7), (Value.bool x8), (Value.slice x9.a x9.len x9.cap)]⟩)] w4 fun r10 w11 =>
 ∃ r12 : Bool, r10 = (Value.bool r12) ∧
 (bif r12 then
 K s3.1 w11
 else
 next5 ((IntKind.i64.wrap (s3.1 + 1)), ()) w11)
 else
 K (-1) w4)) (0, ()) w)
theorem e_slices_IndexFunc_holes_piece_holes_piece (a0 : SliceV) (a1 : Value) (w : World) (K : Int → World → Prop) : den Try.prog 19 (bodyOf Try.f97) none (.seq .leaf (.seq (.seq .leaf (.blk (.loop [(8, (.int .i64))] (.seq .leaf (.seq (.cond .leaf .leaf) (.seq (.blk (.seq .leaf (.seq .leaf (.cond (.seq .leaf .leaf) .leaf)))) .leaf)))))) (.seq .leaf .leaf))) (argEnv 0 [(Value.slice a0.a a0.len a0.cap), a1]) [] w (retK Try.prog [.tmp 4] [.one (.int .i64)] K) = s_slices_IndexFunc_holes_piece_holes_piece a0 a1 w K := by kernel_rfl
theorem ok_slices_IndexFunc_holes_piece_holes_piece {a0 a1 w K} (h : s_slices_IndexFunc_holes_piece_holes_piece a0 a1 w K) : c_slices_IndexFunc_holes_piece_holes_piece a0 a1 w K :=
  fn_sound pok Try.func97 (fn := Try.f97) (c := bodyOf Try.f97) (nt := 19) (by kernel_rfl) (by kernel_rfl) (rs := [.tmp 4]) (by kernel_rfl) [.one (.int .i64)] K (.seq .leaf (.seq (.seq .leaf (.blk (.loop [(8, (.int .i64))] (.seq .leaf (.seq (.cond .leaf .leaf) (.seq (.blk (.seq .leaf (.seq .leaf (.cond (.seq .leaf .leaf) .leaf)))) .leaf)))))) (.seq .leaf .leaf))) [(Value.slice a0.a a0.len a0.cap), a1] (by kernel_rfl) w ((e_slices_IndexFunc_holes_piece_holes_piece a0 a1 w K).mpr h)

/-- cmp.isNaN[int] -/
def s_cmp_isNaN_int (a0 : Int) (w : World) (K : Bool → World → Prop) : Prop :=
 (K (a0 != a0) w)
theorem e_cmp_isNaN_int (a0 : Int) (w : World) (K : Bool → World → Prop) : den Try.prog 6 (bodyOf Try.f98) none (.seq .leaf (.seq .leaf .leaf)) (argEnv 0 [(Value.int .i64 a0)]) [] w (retK Try.prog [.tmp 2] [.one .bool] K) = s_cmp_isNaN_int a0 w K := by kernel_rfl
theorem ok_cmp_isNaN_int {a0 w K} (h : s_cmp_isNaN_int a0 w K) : c_cmp_isNaN_int a0 w K :=
  fn_sound pok Try.func98 (fn := Try.f98) (c := bodyOf Try.f98) (nt := 6) (by kernel_rfl) (by kernel_rfl) (rs := [.tmp 2]) (by kernel_rfl) [.one .bool] K (.seq .leaf (.seq .leaf .leaf)) [(Value.int .i64 a0)] (by kernel_rfl) w ((e_cmp_isNaN_int a0 w K).mpr h)

/-- slices.rotateLeft[goosepond/holes.piece] -/
def s_slices_rotateLeft_holes_piece (a0 : SliceV) (a1 : Int) (w : World) (K : World → Prop) : Prop :=
 (SubSl a0 3 0 a1 fun s3 =>
 c_slices_Reverse_holes_piece_holes_piece s3 w fun w4 =>
 SubSl a0 3 a1 (a0.len : Int) fun s5 =>
 c_slices_Reverse_holes_piece_holes_piece s5 w4 fun w6 =>
 c_slices_Reverse_holes_piece_holes_piece a0 w6 fun w7 =>
 K w7)
theorem e_slices_rotateLeft_holes_piece (a0 : SliceV) (a1 : Int) (w : World) (K : World → Prop) : den Try.prog 14 (bodyOf Try.f99) none (.seq .leaf (.seq .leaf .leaf)) (argEnv 0 [(Value.slice a0.a a0.len a0.cap), (Value.int .i64 a1)]) [] w (retK Try.prog [] [] K) = s_slices_rotateLeft_holes_piece a0 a1 w K := by kernel_rfl
theorem ok_slices_rotateLeft_holes_piece {a0 a1 w K} (h : s_slices_rotateLeft_holes_piece a0 a1 w K) : c_slices_rotateLeft_holes_piece a0 a1 w K :=
  fn_sound pok Try.func99 (fn := Try.f99) (c := bodyOf Try.f99) (nt := 14) (by kernel_rfl) (by kernel_rfl) (rs := []) (by kernel_rfl) [] K (.seq .leaf (.seq .leaf .leaf)) [(Value.slice a0.a a0.len a0.cap), (Value.int .i64 a1)] (by kernel_rfl) w ((e_slices_rotateLeft_holes_piece a0 a1 w K).mpr h)

/-- slices.Reverse[[]goosepond/holes.piece,goosepond/holes.piece] -/
def s_slices_Reverse_holes_piece_holes_piece (a0 : SliceV) (w : World) (K : World → Prop) : Prop :=
 (LoopP (S := Int × Int × Unit) (fun s2 w3 next4 =>
 (bif (decide (s2.1 < s2.2.1)) then
 AtIx a0 3 s2.2.1 fun a5 =>
 Ld (.int .i64) w3.drew (a5.add 0) fun x6 =>
 Ld .bool w3.drew (a5.add 1) fun x7 =>
 Ld .slice w3.drew (a5.add 2) fun x8 =>
 AtIx a0 3 s2.1 fun a9 =>
 Ld (.int .i64) w3.drew (a9.add 0) fun x10 =>
 Ld .bool w3.drew (a9.add 1) fun x11 =>
 Ld .slice w3.drew (a9.add 2) fun x12 =>
 AtIx a0 3 s2.1 fun a13 =>
 StN [(Value.int .i64 x6), (Value.bool x7), (Value.slice x8.a x8.len x8.cap)] w3.drew a13 0 fun w14 =>
 AtIx a0 3 s2.2.1 fun a15 =>
 StN [(Value.int .i64 x10), (Value.bool x11), (Value.slice x12.a x12.len x12.cap)] w14 a15 0 fun w16 =>
 next4 ((IntKind.i64.wrap (s2.1 + 1)), (IntKind.i64.wrap (s2.2.1 - 1)), ()) w16
 else
 K w3)) (0, (IntKind.i64.wrap ((a0.len : Int) - 1)), ()) w)
theorem e_slices_Reverse_holes_piece_holes_piece (a0 : SliceV) (w : World) (K : World → Prop) : den Try.prog 28 (bodyOf Try.f113) none (.seq .leaf (.blk (.loop [(2, (.int .i64)), (3, (.int .i64))] (.seq (.seq .leaf (.cond .leaf .leaf)) (.seq (.blk .leaf) .leaf))))) (argEnv 0 [(Value.slice a0.a a0.len a0.cap)]) [] w (retK Try.prog [] [] K) = s_slices_Reverse_holes_piece_holes_piece a0 w K := by kernel_rfl
theorem ok_slices_Reverse_holes_piece_holes_piece {a0 w K} (h : s_slices_Reverse_holes_piece_holes_piece a0 w K) : c_slices_Reverse_holes_piece_holes_piece a0 w K :=
  fn_sound pok Try.func113 (fn := Try.f113) (c := bodyOf Try.f113) (nt := 28) (by kernel_rfl) (by kernel_rfl) (rs := []) (by kernel_rfl) [] K (.seq .leaf (.blk (.loop [(2, (.int .i64)), (3, (.int .i64))] (.seq (.seq .leaf (.cond .leaf .leaf)) (.seq (.blk .leaf) .leaf))))) [(Value.slice a0.a a0.len a0.cap)] (by kernel_rfl) w ((e_slices_Reverse_holes_piece_holes_piece a0 w K).mpr h)

end Go.Proofs
