import Derived.Test.YtcnkafgimclghaaFn
import Derived.Test.YtcnkafgimclghaaProg
import Derived.KernelRfl
namespace Go.Proofs
open Gp
set_option maxRecDepth 100000
set_option maxHeartbeats 4000000
theorem pok : POk Try.prog := POk.of_all (by kernel_rfl) (by kernel_rfl)

/-- goosepond/goosepondlaw18.HashLives -/
abbrev n_law18_HashLives : FuncId := 7
def c_law18_HashLives (a0 : Int) (a1 : SliceV) (w : World) (K : Bool → World → Prop) : Prop :=
  Calls Try.prog 7 ⟨[(Value.int .i64 a0), (Value.slice a1.a a1.len a1.cap)]⟩ w fun e w' => ∃ y67 : Bool, e = .returned (Value.bool y67) ∧ K y67 w'
theorem cm_law18_HashLives {a0 a1 w K K'} (h : c_law18_HashLives a0 a1 w K) (hk : ∀ x0 w', K x0 w' → K' x0 w') : c_law18_HashLives a0 a1 w K' :=
  Calls.mono h fun e w' hh => by obtain ⟨x0, he, hx⟩ := hh; exact ⟨x0, he, hk _ _ hx⟩

/-- goosepond/goosepondlaw18.awake -/
abbrev n_law18_awake : FuncId := 21
def c_law18_awake  (w : World) (K : Bool → World → Prop) : Prop :=
  Calls Try.prog 21 ⟨[]⟩ w fun e w' => ∃ y21 : Bool, e = .returned (Value.bool y21) ∧ K y21 w'
theorem cm_law18_awake { w K K'} (h : c_law18_awake  w K) (hk : ∀ x0 w', K x0 w' → K' x0 w') : c_law18_awake  w K' :=
  Calls.mono h fun e w' hh => by obtain ⟨x0, he, hx⟩ := hh; exact ⟨x0, he, hk _ _ hx⟩

/-- goosepond/hash.New -/
abbrev n_hash_New : FuncId := 22
def c_hash_New (a0 : Int) (w : World) (K : (Option Addr) → Int → World → Prop) : Prop :=
  Calls Try.prog 22 ⟨[(Value.int .i64 a0)]⟩ w fun e w' => ∃ y6 : Option Addr, ∃ y7 : Int, e = .returned (Value.tuple ⟨[(Value.pointer y6), (Value.int .i64 y7)]⟩) ∧ K y6 y7 w'
theorem cm_hash_New {a0 w K K'} (h : c_hash_New a0 w K) (hk : ∀ x0 x1 w', K x0 x1 w' → K' x0 x1 w') : c_hash_New a0 w K' :=
  Calls.mono h fun e w' hh => by obtain ⟨x0, x1, he, hx⟩ := hh; exact ⟨x0, x1, he, hk _ _ _ hx⟩

/-- goosepond/goosepondref18.New -/
abbrev n_ref18_New : FuncId := 23
def c_ref18_New (a0 : Int) (w : World) (K : (Option Addr) → Int → World → Prop) : Prop :=
  Calls Try.prog 23 ⟨[(Value.int .i64 a0)]⟩ w fun e w' => ∃ y6 : Option Addr, ∃ y7 : Int, e = .returned (Value.tuple ⟨[(Value.pointer y6), (Value.int .i64 y7)]⟩) ∧ K y6 y7 w'
theorem cm_ref18_New {a0 w K K'} (h : c_ref18_New a0 w K) (hk : ∀ x0 x1 w', K x0 x1 w' → K' x0 x1 w') : c_ref18_New a0 w K' :=
  Calls.mono h fun e w' hh => by obtain ⟨x0, x1, he, hx⟩ := hh; exact ⟨x0, x1, he, hk _ _ _ hx⟩

/-- (*goosepond/hash.Table).Put -/
abbrev n_hash_Table_Put : FuncId := 24
def c_hash_Table_Put (a0 : Option Addr) (a1 : ByteArray) (a2 : Int) (w : World) (K : Int → World → Prop) : Prop :=
  Calls Try.prog 24 ⟨[(Value.pointer a0), (Value.string a1), (Value.int .i64 a2)]⟩ w fun e w' => ∃ y29 : Int, e = .returned (Value.int .i64 y29) ∧ K y29 w'
theorem cm_hash_Table_Put {a0 a1 a2 w K K'} (h : c_hash_Table_Put a0 a1 a2 w K) (hk : ∀ x0 w', K x0 w' → K' x0 w') : c_hash_Table_Put a0 a1 a2 w K' :=
  Calls.mono h fun e w' hh => by obtain ⟨x0, he, hx⟩ := hh; exact ⟨x0, he, hk _ _ hx⟩

/-- (*goosepond/goosepondref18.Table).Put -/
abbrev n_ref18_Table_Put : FuncId := 25
def c_ref18_Table_Put (a0 : Option Addr) (a1 : ByteArray) (a2 : Int) (w : World) (K : Int → World → Prop) : Prop :=
  Calls Try.prog 25 ⟨[(Value.pointer a0), (Value.string a1), (Value.int .i64 a2)]⟩ w fun e w' => ∃ y55 : Int, e = .returned (Value.int .i64 y55) ∧ K y55 w'
theorem cm_ref18_Table_Put {a0 a1 a2 w K K'} (h : c_ref18_Table_Put a0 a1 a2 w K) (hk : ∀ x0 w', K x0 w' → K' x0 w') : c_ref18_Table_Put a0 a1 a2 w K' :=
  Calls.mono h fun e w' hh => by obtain ⟨x0, he, hx⟩ := hh; exact ⟨x0, he, hk _ _ hx⟩

/-- (*goosepond/hash.Table).Delete -/
abbrev n_hash_Table_Delete : FuncId := 26
def c_hash_Table_Delete (a0 : Option Addr) (a1 : ByteArray) (w : World) (K : Bool → World → Prop) : Prop :=
  Calls Try.prog 26 ⟨[(Value.pointer a0), (Value.string a1)]⟩ w fun e w' => ∃ y68 : Bool, e = .returned (Value.bool y68) ∧ K y68 w'
theorem cm_hash_Table_Delete {a0 a1 w K K'} (h : c_hash_Table_Delete a0 a1 w K) (hk : ∀ x0 w', K x0 w' → K' x0 w') : c_hash_Table_Delete a0 a1 w K' :=
  Calls.mono h fun e w' hh => by obtain ⟨x0, he, hx⟩ := hh; exact ⟨x0, he, hk _ _ hx⟩

/-- (*goosepond/goosepondref18.Table).Delete -/
abbrev n_ref18_Table_Delete : FuncId := 27
def c_ref18_Table_Delete (a0 : Option Addr) (a1 : ByteArray) (w : World) (K : Bool → World → Prop) : Prop :=
  Calls Try.prog 27 ⟨[(Value.pointer a0), (Value.string a1)]⟩ w fun e w' => ∃ y28 : Bool, e = .returned (Value.bool y28) ∧ K y28 w'
theorem cm_ref18_Table_Delete {a0 a1 w K K'} (h : c_ref18_Table_Delete a0 a1 w K) (hk : ∀ x0 w', K x0 w' → K' x0 w') : c_ref18_Table_Delete a0 a1 w K' :=
  Calls.mono h fun e w' hh => by obtain ⟨x0, he, hx⟩ := hh; exact ⟨x0, he, hk _ _ hx⟩

/-- (*goosepond/hash.Table).Get -/
abbrev n_hash_Table_Get : FuncId := 28
def c_hash_Table_Get (a0 : Option Addr) (a1 : ByteArray) (w : World) (K : Int → Bool → World → Prop) : Prop :=
  Calls Try.prog 28 ⟨[(Value.pointer a0), (Value.string a1)]⟩ w fun e w' => ∃ y12 : Int, ∃ y13 : Bool, e = .returned (Value.tuple ⟨[(Value.int .i64 y12), (Value.bool y13)]⟩) ∧ K y12 y13 w'
theorem cm_hash_Table_Get {a0 a1 w K K'} (h : c_hash_Table_Get a0 a1 w K) (hk : ∀ x0 x1 w', K x0 x1 w' → K' x0 x1 w') : c_hash_Table_Get a0 a1 w K' :=
  Calls.mono h fun e w' hh => by obtain ⟨x0, x1, he, hx⟩ := hh; exact ⟨x0, x1, he, hk _ _ _ hx⟩

/-- (*goosepond/goosepondref18.Table).Get -/
abbrev n_ref18_Table_Get : FuncId := 29
def c_ref18_Table_Get (a0 : Option Addr) (a1 : ByteArray) (w : World) (K : Int → Bool → World → Prop) : Prop :=
  Calls Try.prog 29 ⟨[(Value.pointer a0), (Value.string a1)]⟩ w fun e w' => ∃ y16 : Int, ∃ y17 : Bool, e = .returned (Value.tuple ⟨[(Value.int .i64 y16), (Value.bool y17)]⟩) ∧ K y16 y17 w'
theorem cm_ref18_Table_Get {a0 a1 w K K'} (h : c_ref18_Table_Get a0 a1 w K) (hk : ∀ x0 x1 w', K x0 x1 w' → K' x0 x1 w') : c_ref18_Table_Get a0 a1 w K' :=
  Calls.mono h fun e w' hh => by obtain ⟨x0, x1, he, hx⟩ := hh; exact ⟨x0, x1, he, hk _ _ _ hx⟩

/-- goosepond/goosepondlaw18.same -/
abbrev n_law18_same : FuncId := 30
def c_law18_same (a0 : Option Addr) (a1 : Option Addr) (w : World) (K : Bool → World → Prop) : Prop :=
  Calls Try.prog 30 ⟨[(Value.pointer a0), (Value.pointer a1)]⟩ w fun e w' => ∃ y53 : Bool, e = .returned (Value.bool y53) ∧ K y53 w'
theorem cm_law18_same {a0 a1 w K K'} (h : c_law18_same a0 a1 w K) (hk : ∀ x0 w', K x0 w' → K' x0 w') : c_law18_same a0 a1 w K' :=
  Calls.mono h fun e w' hh => by obtain ⟨x0, he, hx⟩ := hh; exact ⟨x0, he, hk _ _ hx⟩

/-- (*goosepond/hash.Table).Len -/
abbrev n_hash_Table_Len : FuncId := 46
def c_hash_Table_Len (a0 : Option Addr) (w : World) (K : Int → World → Prop) : Prop :=
  Calls Try.prog 46 ⟨[(Value.pointer a0)]⟩ w fun e w' => ∃ y6 : Int, e = .returned (Value.int .i64 y6) ∧ K y6 w'
theorem cm_hash_Table_Len {a0 w K K'} (h : c_hash_Table_Len a0 w K) (hk : ∀ x0 w', K x0 w' → K' x0 w') : c_hash_Table_Len a0 w K' :=
  Calls.mono h fun e w' hh => by obtain ⟨x0, he, hx⟩ := hh; exact ⟨x0, he, hk _ _ hx⟩

/-- (*goosepond/hash.Table).ready -/
abbrev n_hash_Table_ready : FuncId := 47
def c_hash_Table_ready (a0 : Option Addr) (w : World) (K : Bool → World → Prop) : Prop :=
  Calls Try.prog 47 ⟨[(Value.pointer a0)]⟩ w fun e w' => ∃ y6 : Bool, e = .returned (Value.bool y6) ∧ K y6 w'
theorem cm_hash_Table_ready {a0 w K K'} (h : c_hash_Table_ready a0 w K) (hk : ∀ x0 w', K x0 w' → K' x0 w') : c_hash_Table_ready a0 w K' :=
  Calls.mono h fun e w' hh => by obtain ⟨x0, he, hx⟩ := hh; exact ⟨x0, he, hk _ _ hx⟩

/-- (*goosepond/hash.Table).find -/
abbrev n_hash_Table_find : FuncId := 48
def c_hash_Table_find (a0 : Option Addr) (a1 : ByteArray) (w : World) (K : Int → Bool → World → Prop) : Prop :=
  Calls Try.prog 48 ⟨[(Value.pointer a0), (Value.string a1)]⟩ w fun e w' => ∃ y56 : Int, ∃ y57 : Bool, e = .returned (Value.tuple ⟨[(Value.int .i64 y56), (Value.bool y57)]⟩) ∧ K y56 y57 w'
theorem cm_hash_Table_find {a0 a1 w K K'} (h : c_hash_Table_find a0 a1 w K) (hk : ∀ x0 x1 w', K x0 x1 w' → K' x0 x1 w') : c_hash_Table_find a0 a1 w K' :=
  Calls.mono h fun e w' hh => by obtain ⟨x0, x1, he, hx⟩ := hh; exact ⟨x0, x1, he, hk _ _ _ hx⟩

/-- (*goosepond/hash.Table).grow -/
abbrev n_hash_Table_grow : FuncId := 49
def c_hash_Table_grow (a0 : Option Addr) (w : World) (K : World → Prop) : Prop :=
  Calls Try.prog 49 ⟨[(Value.pointer a0)]⟩ w fun e w' => e = .returned (Value.tuple ⟨[]⟩) ∧ K w'
theorem cm_hash_Table_grow {a0 w K K'} (h : c_hash_Table_grow a0 w K) (hk : ∀  w', K  w' → K'  w') : c_hash_Table_grow a0 w K' :=
  Calls.mono h fun e w' hh => by obtain ⟨he, hx⟩ := hh; exact ⟨he, hk  _ hx⟩

/-- (*goosepond/hash.Table).walk -/
abbrev n_hash_Table_walk : FuncId := 50
def c_hash_Table_walk (a0 : Option Addr) (a1 : Int) (w : World) (K : Value → World → Prop) : Prop :=
  Calls Try.prog 50 ⟨[(Value.pointer a0), (Value.int .i64 a1)]⟩ w fun e w' => ∃ y7 : Value, e = .returned y7 ∧ K y7 w'
theorem cm_hash_Table_walk {a0 a1 w K K'} (h : c_hash_Table_walk a0 a1 w K) (hk : ∀ x0 w', K x0 w' → K' x0 w') : c_hash_Table_walk a0 a1 w K' :=
  Calls.mono h fun e w' hh => by obtain ⟨x0, he, hx⟩ := hh; exact ⟨x0, he, hk _ _ hx⟩

/-- (*goosepond/hash.Table).All -/
abbrev n_hash_Table_All : FuncId := 51
def c_hash_Table_All (a0 : Option Addr) (w : World) (K : Value → World → Prop) : Prop :=
  Calls Try.prog 51 ⟨[(Value.pointer a0)]⟩ w fun e w' => ∃ y4 : Value, e = .returned y4 ∧ K y4 w'
theorem cm_hash_Table_All {a0 w K K'} (h : c_hash_Table_All a0 w K) (hk : ∀ x0 w', K x0 w' → K' x0 w') : c_hash_Table_All a0 w K' :=
  Calls.mono h fun e w' hh => by obtain ⟨x0, he, hx⟩ := hh; exact ⟨x0, he, hk _ _ hx⟩

/-- goosepond/hash.home -/
abbrev n_hash_home : FuncId := 76
def c_hash_home (a0 : ByteArray) (a1 : Int) (w : World) (K : Int → World → Prop) : Prop :=
  Calls Try.prog 76 ⟨[(Value.string a0), (Value.int .i64 a1)]⟩ w fun e w' => ∃ y7 : Int, e = .returned (Value.int .i64 y7) ∧ K y7 w'
theorem cm_hash_home {a0 a1 w K K'} (h : c_hash_home a0 a1 w K) (hk : ∀ x0 w', K x0 w' → K' x0 w') : c_hash_home a0 a1 w K' :=
  Calls.mono h fun e w' hh => by obtain ⟨x0, he, hx⟩ := hh; exact ⟨x0, he, hk _ _ hx⟩

/-- (*goosepond/hash.Table).walk$1 -/
abbrev n_hash_Table_walk_1 : FuncId := 77
def c_hash_Table_walk_1 (a0 : Value) (f0 : Addr) (f1 : Addr) (w : World) (K : World → Prop) : Prop :=
  Calls Try.prog 77 ⟨[a0, (Value.pointer (some f0)), (Value.pointer (some f1))]⟩ w fun e w' => e = .returned (Value.tuple ⟨[]⟩) ∧ K w'
theorem cm_hash_Table_walk_1 {a0 f0 f1 w K K'} (h : c_hash_Table_walk_1 a0 f0 f1 w K) (hk : ∀  w', K  w' → K'  w') : c_hash_Table_walk_1 a0 f0 f1 w K' :=
  Calls.mono h fun e w' hh => by obtain ⟨he, hx⟩ := hh; exact ⟨he, hk  _ hx⟩

/-- (*goosepond/hash.Table).All$1 -/
abbrev n_hash_Table_All_1 : FuncId := 78
def c_hash_Table_All_1 (a0 : Value) (f0 : Addr) (w : World) (K : World → Prop) : Prop :=
  Calls Try.prog 78 ⟨[a0, (Value.pointer (some f0))]⟩ w fun e w' => e = .returned (Value.tuple ⟨[]⟩) ∧ K w'
theorem cm_hash_Table_All_1 {a0 f0 w K K'} (h : c_hash_Table_All_1 a0 f0 w K) (hk : ∀  w', K  w' → K'  w') : c_hash_Table_All_1 a0 f0 w K' :=
  Calls.mono h fun e w' hh => by obtain ⟨he, hx⟩ := hh; exact ⟨he, hk  _ hx⟩

/-- slices.DeleteFunc[[]goosepond/hash.entry,goosepond/hash.entry] -/
abbrev n_slices_DeleteFunc_hash_entry_hash_entry : FuncId := 79
def c_slices_DeleteFunc_hash_entry_hash_entry (a0 : SliceV) (a1 : Value) (w : World) (K : SliceV → World → Prop) : Prop :=
  Calls Try.prog 79 ⟨[(Value.slice a0.a a0.len a0.cap), a1]⟩ w fun e w' => ∃ y32 : SliceV, e = .returned (Value.slice y32.a y32.len y32.cap) ∧ K y32 w'
theorem cm_slices_DeleteFunc_hash_entry_hash_entry {a0 a1 w K K'} (h : c_slices_DeleteFunc_hash_entry_hash_entry a0 a1 w K) (hk : ∀ x0 w', K x0 w' → K' x0 w') : c_slices_DeleteFunc_hash_entry_hash_entry a0 a1 w K' :=
  Calls.mono h fun e w' hh => by obtain ⟨x0, he, hx⟩ := hh; exact ⟨x0, he, hk _ _ hx⟩

/-- slices.Clone[[]goosepond/hash.entry,goosepond/hash.entry] -/
abbrev n_slices_Clone_hash_entry_hash_entry : FuncId := 80
def c_slices_Clone_hash_entry_hash_entry (a0 : SliceV) (w : World) (K : SliceV → World → Prop) : Prop :=
  Calls Try.prog 80 ⟨[(Value.slice a0.a a0.len a0.cap)]⟩ w fun e w' => ∃ y6 : SliceV, e = .returned (Value.slice y6.a y6.len y6.cap) ∧ K y6 w'
theorem cm_slices_Clone_hash_entry_hash_entry {a0 w K K'} (h : c_slices_Clone_hash_entry_hash_entry a0 w K) (hk : ∀ x0 w', K x0 w' → K' x0 w') : c_slices_Clone_hash_entry_hash_entry a0 w K' :=
  Calls.mono h fun e w' hh => by obtain ⟨x0, he, hx⟩ := hh; exact ⟨x0, he, hk _ _ hx⟩

/-- (*goosepond/hash.Table).All$1$1 -/
abbrev n_hash_Table_All_1_1 : FuncId := 81
def c_hash_Table_All_1_1 (a0_0 : ByteArray) (a0_1 : Int) (a0_2 : Bool) (w : World) (K : Bool → World → Prop) : Prop :=
  Calls Try.prog 81 ⟨[(Value.agg ⟨[(Value.string a0_0), (Value.int .i64 a0_1), (Value.bool a0_2)]⟩)]⟩ w fun e w' => ∃ y5 : Bool, e = .returned (Value.bool y5) ∧ K y5 w'
theorem cm_hash_Table_All_1_1 {a0_0 a0_1 a0_2 w K K'} (h : c_hash_Table_All_1_1 a0_0 a0_1 a0_2 w K) (hk : ∀ x0 w', K x0 w' → K' x0 w') : c_hash_Table_All_1_1 a0_0 a0_1 a0_2 w K' :=
  Calls.mono h fun e w' hh => by obtain ⟨x0, he, hx⟩ := hh; exact ⟨x0, he, hk _ _ hx⟩

/-- slices.SortFunc[[]goosepond/hash.entry,goosepond/hash.entry] -/
abbrev n_slices_SortFunc_hash_entry_hash_entry : FuncId := 82
def c_slices_SortFunc_hash_entry_hash_entry (a0 : SliceV) (a1 : Value) (w : World) (K : World → Prop) : Prop :=
  Calls Try.prog 82 ⟨[(Value.slice a0.a a0.len a0.cap), a1]⟩ w fun e w' => e = .returned (Value.tuple ⟨[]⟩) ∧ K w'
theorem cm_slices_SortFunc_hash_entry_hash_entry {a0 a1 w K K'} (h : c_slices_SortFunc_hash_entry_hash_entry a0 a1 w K) (hk : ∀  w', K  w' → K'  w') : c_slices_SortFunc_hash_entry_hash_entry a0 a1 w K' :=
  Calls.mono h fun e w' hh => by obtain ⟨he, hx⟩ := hh; exact ⟨he, hk  _ hx⟩

/-- (*goosepond/hash.Table).All$1$2 -/
abbrev n_hash_Table_All_1_2 : FuncId := 83
def c_hash_Table_All_1_2 (a0_0 : ByteArray) (a0_1 : Int) (a0_2 : Bool) (a1_0 : ByteArray) (a1_1 : Int) (a1_2 : Bool) (w : World) (K : Int → World → Prop) : Prop :=
  Calls Try.prog 83 ⟨[(Value.agg ⟨[(Value.string a0_0), (Value.int .i64 a0_1), (Value.bool a0_2)]⟩), (Value.agg ⟨[(Value.string a1_0), (Value.int .i64 a1_1), (Value.bool a1_2)]⟩)]⟩ w fun e w' => ∃ y11 : Int, e = .returned (Value.int .i64 y11) ∧ K y11 w'
theorem cm_hash_Table_All_1_2 {a0_0 a0_1 a0_2 a1_0 a1_1 a1_2 w K K'} (h : c_hash_Table_All_1_2 a0_0 a0_1 a0_2 a1_0 a1_1 a1_2 w K) (hk : ∀ x0 w', K x0 w' → K' x0 w') : c_hash_Table_All_1_2 a0_0 a0_1 a0_2 a1_0 a1_1 a1_2 w K' :=
  Calls.mono h fun e w' hh => by obtain ⟨x0, he, hx⟩ := hh; exact ⟨x0, he, hk _ _ hx⟩

/-- cmp.Compare[string] -/
abbrev n_cmp_Compare_string : FuncId := 84
def c_cmp_Compare_string (a0 : ByteArray) (a1 : ByteArray) (w : World) (K : Int → World → Prop) : Prop :=
  Calls Try.prog 84 ⟨[(Value.string a0), (Value.string a1)]⟩ w fun e w' => ∃ y7 : Int, e = .returned (Value.int .i64 y7) ∧ K y7 w'
theorem cm_cmp_Compare_string {a0 a1 w K K'} (h : c_cmp_Compare_string a0 a1 w K) (hk : ∀ x0 w', K x0 w' → K' x0 w') : c_cmp_Compare_string a0 a1 w K' :=
  Calls.mono h fun e w' hh => by obtain ⟨x0, he, hx⟩ := hh; exact ⟨x0, he, hk _ _ hx⟩

/-- slices.IndexFunc[[]goosepond/hash.entry,goosepond/hash.entry] -/
abbrev n_slices_IndexFunc_hash_entry_hash_entry : FuncId := 111
def c_slices_IndexFunc_hash_entry_hash_entry (a0 : SliceV) (a1 : Value) (w : World) (K : Int → World → Prop) : Prop :=
  Calls Try.prog 111 ⟨[(Value.slice a0.a a0.len a0.cap), a1]⟩ w fun e w' => ∃ y13 : Int, e = .returned (Value.int .i64 y13) ∧ K y13 w'
theorem cm_slices_IndexFunc_hash_entry_hash_entry {a0 a1 w K K'} (h : c_slices_IndexFunc_hash_entry_hash_entry a0 a1 w K) (hk : ∀ x0 w', K x0 w' → K' x0 w') : c_slices_IndexFunc_hash_entry_hash_entry a0 a1 w K' :=
  Calls.mono h fun e w' hh => by obtain ⟨x0, he, hx⟩ := hh; exact ⟨x0, he, hk _ _ hx⟩

/-- slices.pdqsortCmpFunc[goosepond/hash.entry] -/
abbrev n_slices_pdqsortCmpFunc_hash_entry : FuncId := 112
def c_slices_pdqsortCmpFunc_hash_entry (a0 : SliceV) (a1 : Int) (a2 : Int) (a3 : Int) (a4 : Value) (w : World) (K : World → Prop) : Prop :=
  Calls Try.prog 112 ⟨[(Value.slice a0.a a0.len a0.cap), (Value.int .i64 a1), (Value.int .i64 a2), (Value.int .i64 a3), a4]⟩ w fun e w' => e = .returned (Value.tuple ⟨[]⟩) ∧ K w'
theorem cm_slices_pdqsortCmpFunc_hash_entry {a0 a1 a2 a3 a4 w K K'} (h : c_slices_pdqsortCmpFunc_hash_entry a0 a1 a2 a3 a4 w K) (hk : ∀  w', K  w' → K'  w') : c_slices_pdqsortCmpFunc_hash_entry a0 a1 a2 a3 a4 w K' :=
  Calls.mono h fun e w' hh => by obtain ⟨he, hx⟩ := hh; exact ⟨he, hk  _ hx⟩

/-- math/bits.Len -/
abbrev n_math_bits_Len : FuncId := 113
def c_math_bits_Len (a0 : Int) (w : World) (K : Int → World → Prop) : Prop :=
  Calls Try.prog 113 ⟨[(Value.int .u64 a0)]⟩ w fun e w' => ∃ y4 : Int, e = .returned (Value.int .i64 y4) ∧ K y4 w'
theorem cm_math_bits_Len {a0 w K K'} (h : c_math_bits_Len a0 w K) (hk : ∀ x0 w', K x0 w' → K' x0 w') : c_math_bits_Len a0 w K' :=
  Calls.mono h fun e w' hh => by obtain ⟨x0, he, hx⟩ := hh; exact ⟨x0, he, hk _ _ hx⟩

/-- cmp.isNaN[string] -/
abbrev n_cmp_isNaN_string : FuncId := 114
def c_cmp_isNaN_string (a0 : ByteArray) (w : World) (K : Bool → World → Prop) : Prop :=
  Calls Try.prog 114 ⟨[(Value.string a0)]⟩ w fun e w' => ∃ y2 : Bool, e = .returned (Value.bool y2) ∧ K y2 w'
theorem cm_cmp_isNaN_string {a0 w K K'} (h : c_cmp_isNaN_string a0 w K) (hk : ∀ x0 w', K x0 w' → K' x0 w') : c_cmp_isNaN_string a0 w K' :=
  Calls.mono h fun e w' hh => by obtain ⟨x0, he, hx⟩ := hh; exact ⟨x0, he, hk _ _ hx⟩

/-- slices.insertionSortCmpFunc[goosepond/hash.entry] -/
abbrev n_slices_insertionSortCmpFunc_hash_entry : FuncId := 124
def c_slices_insertionSortCmpFunc_hash_entry (a0 : SliceV) (a1 : Int) (a2 : Int) (a3 : Value) (w : World) (K : World → Prop) : Prop :=
  Calls Try.prog 124 ⟨[(Value.slice a0.a a0.len a0.cap), (Value.int .i64 a1), (Value.int .i64 a2), a3]⟩ w fun e w' => e = .returned (Value.tuple ⟨[]⟩) ∧ K w'
theorem cm_slices_insertionSortCmpFunc_hash_entry {a0 a1 a2 a3 w K K'} (h : c_slices_insertionSortCmpFunc_hash_entry a0 a1 a2 a3 w K) (hk : ∀  w', K  w' → K'  w') : c_slices_insertionSortCmpFunc_hash_entry a0 a1 a2 a3 w K' :=
  Calls.mono h fun e w' hh => by obtain ⟨he, hx⟩ := hh; exact ⟨he, hk  _ hx⟩

/-- slices.heapSortCmpFunc[goosepond/hash.entry] -/
abbrev n_slices_heapSortCmpFunc_hash_entry : FuncId := 125
def c_slices_heapSortCmpFunc_hash_entry (a0 : SliceV) (a1 : Int) (a2 : Int) (a3 : Value) (w : World) (K : World → Prop) : Prop :=
  Calls Try.prog 125 ⟨[(Value.slice a0.a a0.len a0.cap), (Value.int .i64 a1), (Value.int .i64 a2), a3]⟩ w fun e w' => e = .returned (Value.tuple ⟨[]⟩) ∧ K w'
theorem cm_slices_heapSortCmpFunc_hash_entry {a0 a1 a2 a3 w K K'} (h : c_slices_heapSortCmpFunc_hash_entry a0 a1 a2 a3 w K) (hk : ∀  w', K  w' → K'  w') : c_slices_heapSortCmpFunc_hash_entry a0 a1 a2 a3 w K' :=
  Calls.mono h fun e w' hh => by obtain ⟨he, hx⟩ := hh; exact ⟨he, hk  _ hx⟩

/-- slices.breakPatternsCmpFunc[goosepond/hash.entry] -/
abbrev n_slices_breakPatternsCmpFunc_hash_entry : FuncId := 126
def c_slices_breakPatternsCmpFunc_hash_entry (a0 : SliceV) (a1 : Int) (a2 : Int) (a3 : Value) (w : World) (K : World → Prop) : Prop :=
  Calls Try.prog 126 ⟨[(Value.slice a0.a a0.len a0.cap), (Value.int .i64 a1), (Value.int .i64 a2), a3]⟩ w fun e w' => e = .returned (Value.tuple ⟨[]⟩) ∧ K w'
theorem cm_slices_breakPatternsCmpFunc_hash_entry {a0 a1 a2 a3 w K K'} (h : c_slices_breakPatternsCmpFunc_hash_entry a0 a1 a2 a3 w K) (hk : ∀  w', K  w' → K'  w') : c_slices_breakPatternsCmpFunc_hash_entry a0 a1 a2 a3 w K' :=
  Calls.mono h fun e w' hh => by obtain ⟨he, hx⟩ := hh; exact ⟨he, hk  _ hx⟩

/-- slices.choosePivotCmpFunc[goosepond/hash.entry] -/
abbrev n_slices_choosePivotCmpFunc_hash_entry : FuncId := 127
def c_slices_choosePivotCmpFunc_hash_entry (a0 : SliceV) (a1 : Int) (a2 : Int) (a3 : Value) (w : World) (K : Int → Int → World → Prop) : Prop :=
  Calls Try.prog 127 ⟨[(Value.slice a0.a a0.len a0.cap), (Value.int .i64 a1), (Value.int .i64 a2), a3]⟩ w fun e w' => ∃ y24 : Int, ∃ y25 : Int, e = .returned (Value.tuple ⟨[(Value.int .i64 y24), (Value.int .i64 y25)]⟩) ∧ K y24 y25 w'
theorem cm_slices_choosePivotCmpFunc_hash_entry {a0 a1 a2 a3 w K K'} (h : c_slices_choosePivotCmpFunc_hash_entry a0 a1 a2 a3 w K) (hk : ∀ x0 x1 w', K x0 x1 w' → K' x0 x1 w') : c_slices_choosePivotCmpFunc_hash_entry a0 a1 a2 a3 w K' :=
  Calls.mono h fun e w' hh => by obtain ⟨x0, x1, he, hx⟩ := hh; exact ⟨x0, x1, he, hk _ _ _ hx⟩

/-- slices.reverseRangeCmpFunc[goosepond/hash.entry] -/
abbrev n_slices_reverseRangeCmpFunc_hash_entry : FuncId := 128
def c_slices_reverseRangeCmpFunc_hash_entry (a0 : SliceV) (a1 : Int) (a2 : Int) (a3 : Value) (w : World) (K : World → Prop) : Prop :=
  Calls Try.prog 128 ⟨[(Value.slice a0.a a0.len a0.cap), (Value.int .i64 a1), (Value.int .i64 a2), a3]⟩ w fun e w' => e = .returned (Value.tuple ⟨[]⟩) ∧ K w'
theorem cm_slices_reverseRangeCmpFunc_hash_entry {a0 a1 a2 a3 w K K'} (h : c_slices_reverseRangeCmpFunc_hash_entry a0 a1 a2 a3 w K) (hk : ∀  w', K  w' → K'  w') : c_slices_reverseRangeCmpFunc_hash_entry a0 a1 a2 a3 w K' :=
  Calls.mono h fun e w' hh => by obtain ⟨he, hx⟩ := hh; exact ⟨he, hk  _ hx⟩

/-- slices.partialInsertionSortCmpFunc[goosepond/hash.entry] -/
abbrev n_slices_partialInsertionSortCmpFunc_hash_entry : FuncId := 129
def c_slices_partialInsertionSortCmpFunc_hash_entry (a0 : SliceV) (a1 : Int) (a2 : Int) (a3 : Value) (w : World) (K : Bool → World → Prop) : Prop :=
  Calls Try.prog 129 ⟨[(Value.slice a0.a a0.len a0.cap), (Value.int .i64 a1), (Value.int .i64 a2), a3]⟩ w fun e w' => ∃ y94 : Bool, e = .returned (Value.bool y94) ∧ K y94 w'
theorem cm_slices_partialInsertionSortCmpFunc_hash_entry {a0 a1 a2 a3 w K K'} (h : c_slices_partialInsertionSortCmpFunc_hash_entry a0 a1 a2 a3 w K) (hk : ∀ x0 w', K x0 w' → K' x0 w') : c_slices_partialInsertionSortCmpFunc_hash_entry a0 a1 a2 a3 w K' :=
  Calls.mono h fun e w' hh => by obtain ⟨x0, he, hx⟩ := hh; exact ⟨x0, he, hk _ _ hx⟩

/-- slices.partitionEqualCmpFunc[goosepond/hash.entry] -/
abbrev n_slices_partitionEqualCmpFunc_hash_entry : FuncId := 130
def c_slices_partitionEqualCmpFunc_hash_entry (a0 : SliceV) (a1 : Int) (a2 : Int) (a3 : Int) (a4 : Value) (w : World) (K : Int → World → Prop) : Prop :=
  Calls Try.prog 130 ⟨[(Value.slice a0.a a0.len a0.cap), (Value.int .i64 a1), (Value.int .i64 a2), (Value.int .i64 a3), a4]⟩ w fun e w' => ∃ y67 : Int, e = .returned (Value.int .i64 y67) ∧ K y67 w'
theorem cm_slices_partitionEqualCmpFunc_hash_entry {a0 a1 a2 a3 a4 w K K'} (h : c_slices_partitionEqualCmpFunc_hash_entry a0 a1 a2 a3 a4 w K) (hk : ∀ x0 w', K x0 w' → K' x0 w') : c_slices_partitionEqualCmpFunc_hash_entry a0 a1 a2 a3 a4 w K' :=
  Calls.mono h fun e w' hh => by obtain ⟨x0, he, hx⟩ := hh; exact ⟨x0, he, hk _ _ hx⟩

/-- slices.partitionCmpFunc[goosepond/hash.entry] -/
abbrev n_slices_partitionCmpFunc_hash_entry : FuncId := 131
def c_slices_partitionCmpFunc_hash_entry (a0 : SliceV) (a1 : Int) (a2 : Int) (a3 : Int) (a4 : Value) (w : World) (K : Int → Bool → World → Prop) : Prop :=
  Calls Try.prog 131 ⟨[(Value.slice a0.a a0.len a0.cap), (Value.int .i64 a1), (Value.int .i64 a2), (Value.int .i64 a3), a4]⟩ w fun e w' => ∃ y137 : Int, ∃ y138 : Bool, e = .returned (Value.tuple ⟨[(Value.int .i64 y137), (Value.bool y138)]⟩) ∧ K y137 y138 w'
theorem cm_slices_partitionCmpFunc_hash_entry {a0 a1 a2 a3 a4 w K K'} (h : c_slices_partitionCmpFunc_hash_entry a0 a1 a2 a3 a4 w K) (hk : ∀ x0 x1 w', K x0 x1 w' → K' x0 x1 w') : c_slices_partitionCmpFunc_hash_entry a0 a1 a2 a3 a4 w K' :=
  Calls.mono h fun e w' hh => by obtain ⟨x0, x1, he, hx⟩ := hh; exact ⟨x0, x1, he, hk _ _ _ hx⟩

/-- math/bits.Len64 -/
abbrev n_math_bits_Len64 : FuncId := 133
def c_math_bits_Len64 (a0 : Int) (w : World) (K : Int → World → Prop) : Prop :=
  Calls Try.prog 133 ⟨[(Value.int .u64 a0)]⟩ w fun e w' => ∃ y12 : Int, e = .returned (Value.int .i64 y12) ∧ K y12 w'
theorem cm_math_bits_Len64 {a0 w K K'} (h : c_math_bits_Len64 a0 w K) (hk : ∀ x0 w', K x0 w' → K' x0 w') : c_math_bits_Len64 a0 w K' :=
  Calls.mono h fun e w' hh => by obtain ⟨x0, he, hx⟩ := hh; exact ⟨x0, he, hk _ _ hx⟩

/-- slices.siftDownCmpFunc[goosepond/hash.entry] -/
abbrev n_slices_siftDownCmpFunc_hash_entry : FuncId := 139
def c_slices_siftDownCmpFunc_hash_entry (a0 : SliceV) (a1 : Int) (a2 : Int) (a3 : Int) (a4 : Value) (w : World) (K : World → Prop) : Prop :=
  Calls Try.prog 139 ⟨[(Value.slice a0.a a0.len a0.cap), (Value.int .i64 a1), (Value.int .i64 a2), (Value.int .i64 a3), a4]⟩ w fun e w' => e = .returned (Value.tuple ⟨[]⟩) ∧ K w'
theorem cm_slices_siftDownCmpFunc_hash_entry {a0 a1 a2 a3 a4 w K K'} (h : c_slices_siftDownCmpFunc_hash_entry a0 a1 a2 a3 a4 w K) (hk : ∀  w', K  w' → K'  w') : c_slices_siftDownCmpFunc_hash_entry a0 a1 a2 a3 a4 w K' :=
  Calls.mono h fun e w' hh => by obtain ⟨he, hx⟩ := hh; exact ⟨he, hk  _ hx⟩

/-- slices.nextPowerOfTwo -/
abbrev n_slices_nextPowerOfTwo : FuncId := 140
def c_slices_nextPowerOfTwo (a0 : Int) (w : World) (K : Int → World → Prop) : Prop :=
  Calls Try.prog 140 ⟨[(Value.int .i64 a0)]⟩ w fun e w' => ∃ y4 : Int, e = .returned (Value.int .u64 y4) ∧ K y4 w'
theorem cm_slices_nextPowerOfTwo {a0 w K K'} (h : c_slices_nextPowerOfTwo a0 w K) (hk : ∀ x0 w', K x0 w' → K' x0 w') : c_slices_nextPowerOfTwo a0 w K' :=
  Calls.mono h fun e w' hh => by obtain ⟨x0, he, hx⟩ := hh; exact ⟨x0, he, hk _ _ hx⟩

/-- (*slices.xorshift).Next -/
abbrev n_slices_xorshift_Next : FuncId := 141
def c_slices_xorshift_Next (a0 : Option Addr) (w : World) (K : Int → World → Prop) : Prop :=
  Calls Try.prog 141 ⟨[(Value.pointer a0)]⟩ w fun e w' => ∃ y22 : Int, e = .returned (Value.int .u64 y22) ∧ K y22 w'
theorem cm_slices_xorshift_Next {a0 w K K'} (h : c_slices_xorshift_Next a0 w K) (hk : ∀ x0 w', K x0 w' → K' x0 w') : c_slices_xorshift_Next a0 w K' :=
  Calls.mono h fun e w' hh => by obtain ⟨x0, he, hx⟩ := hh; exact ⟨x0, he, hk _ _ hx⟩

/-- slices.medianAdjacentCmpFunc[goosepond/hash.entry] -/
abbrev n_slices_medianAdjacentCmpFunc_hash_entry : FuncId := 142
def c_slices_medianAdjacentCmpFunc_hash_entry (a0 : SliceV) (a1 : Int) (a2 : Option Addr) (a3 : Value) (w : World) (K : Int → World → Prop) : Prop :=
  Calls Try.prog 142 ⟨[(Value.slice a0.a a0.len a0.cap), (Value.int .i64 a1), (Value.pointer a2), a3]⟩ w fun e w' => ∃ y7 : Int, e = .returned (Value.int .i64 y7) ∧ K y7 w'
theorem cm_slices_medianAdjacentCmpFunc_hash_entry {a0 a1 a2 a3 w K K'} (h : c_slices_medianAdjacentCmpFunc_hash_entry a0 a1 a2 a3 w K) (hk : ∀ x0 w', K x0 w' → K' x0 w') : c_slices_medianAdjacentCmpFunc_hash_entry a0 a1 a2 a3 w K' :=
  Calls.mono h fun e w' hh => by obtain ⟨x0, he, hx⟩ := hh; exact ⟨x0, he, hk _ _ hx⟩

/-- slices.medianCmpFunc[goosepond/hash.entry] -/
abbrev n_slices_medianCmpFunc_hash_entry : FuncId := 143
def c_slices_medianCmpFunc_hash_entry (a0 : SliceV) (a1 : Int) (a2 : Int) (a3 : Int) (a4 : Option Addr) (a5 : Value) (w : World) (K : Int → World → Prop) : Prop :=
  Calls Try.prog 143 ⟨[(Value.slice a0.a a0.len a0.cap), (Value.int .i64 a1), (Value.int .i64 a2), (Value.int .i64 a3), (Value.pointer a4), a5]⟩ w fun e w' => ∃ y16 : Int, e = .returned (Value.int .i64 y16) ∧ K y16 w'
theorem cm_slices_medianCmpFunc_hash_entry {a0 a1 a2 a3 a4 a5 w K K'} (h : c_slices_medianCmpFunc_hash_entry a0 a1 a2 a3 a4 a5 w K) (hk : ∀ x0 w', K x0 w' → K' x0 w') : c_slices_medianCmpFunc_hash_entry a0 a1 a2 a3 a4 a5 w K' :=
  Calls.mono h fun e w' hh => by obtain ⟨x0, he, hx⟩ := hh; exact ⟨x0, he, hk _ _ hx⟩

/-- slices.order2CmpFunc[goosepond/hash.entry] -/
abbrev n_slices_order2CmpFunc_hash_entry : FuncId := 146
def c_slices_order2CmpFunc_hash_entry (a0 : SliceV) (a1 : Int) (a2 : Int) (a3 : Option Addr) (a4 : Value) (w : World) (K : Int → Int → World → Prop) : Prop :=
  Calls Try.prog 146 ⟨[(Value.slice a0.a a0.len a0.cap), (Value.int .i64 a1), (Value.int .i64 a2), (Value.pointer a3), a4]⟩ w fun e w' => ∃ y21 : Int, ∃ y22 : Int, e = .returned (Value.tuple ⟨[(Value.int .i64 y21), (Value.int .i64 y22)]⟩) ∧ K y21 y22 w'
theorem cm_slices_order2CmpFunc_hash_entry {a0 a1 a2 a3 a4 w K K'} (h : c_slices_order2CmpFunc_hash_entry a0 a1 a2 a3 a4 w K) (hk : ∀ x0 x1 w', K x0 x1 w' → K' x0 x1 w') : c_slices_order2CmpFunc_hash_entry a0 a1 a2 a3 a4 w K' :=
  Calls.mono h fun e w' hh => by obtain ⟨x0, x1, he, hx⟩ := hh; exact ⟨x0, x1, he, hk _ _ _ hx⟩

/-- goosepond/goosepondlaw18.HashLives -/
def s_law18_HashLives (a0 : Int) (a1 : SliceV) (w : World) (K : Bool → World → Prop) : Prop :=
 (c_law18_awake  w fun r3 w4 =>
 (bif (!r3) then
 K false w4
 else
 c_hash_New a0 w4 fun r5 r6 w7 =>
 c_ref18_New a0 w7 fun r8 r9 w10 =>
 let J11 : Bool → Prop := fun j12 =>
 ((bif j12 then
 K false w10
 else
 let J13 : World → Prop := fun w14 =>
 (let J15 : Bool → World → Prop := fun j16 w17 =>
 (K j16 w17)
 (bif (Option.isNone r8) then
 c_law18_awake  w14 fun r18 w19 =>
 J15 r18 w19
 else
 c_law18_same r5 r8 w14 fun r20 w21 =>
 (bif r20 then
 c_law18_awake  w21 fun r22 w23 =>
 J15 r22 w23
 else
 J15 false w21)))
 LoopP (S := Int × Unit) (fun s24 w25 next26 =>
 (bif (decide (s24.1 < (a1.len : Int))) then
 AtIx a1 3 s24.1 fun a27 =>
 Ld (.int .i64) w25 (a27.add 0) fun x28 =>
 Ld .str w25 (a27.add 1) fun x29 =>
 Ld (.int .i64) w25 (a27.add 2) fun x30 =>
 Al w25 (.cells ⟨[(Value.int .i64 0), (Value.string (bs [])), (Value.int .i64 0)]⟩ 67) fun a32 w31 =>
 StN [(Value.int .i64 x28), (Value.string x29), (Value.int .i64 x30)] w31 a32 0 fun w33 =>
 let J34 : Bool → Prop := fun j35 =>
 ((bif j35 then
 J13 w33
 else
 let J36 : Bool → World → Prop := fun j37 w38 =>
 (Ld .str w38 (a32.add 1) fun x39 =>
 c_hash_Table_Get r5 x39 w38 fun r40 r41 w42 =>
 Ld .str w42 (a32.add 1) fun x43 =>
 c_ref18_Table_Get r8 x43 w42 fun r44 r45 w46 =>
 let J47 : Bool → Prop := fun j48 =>
 ((bif j48 then
 K false w46
 else
 next26 ((IntKind.i64.wrap (s24.1 + 1)), ()) w46))
 (bif (!j37) then
 J47 true
 else
 (bif (r40 != r44) then
 J47 true
 else
 J47 (!((r41 : Bool) == r45)))))
 Ld (.int .i64) w33 a32 fun x49 =>
 let J50 : Bool → Prop := fun j51 =>
 ((bif j51 then
 Ld .str w33.drew (a32.add 1) fun x52 =>
 Ld (.int .i64) w33.drew (a32.add 2) fun x53 =>
 Ld .str w33.drew (a32.add 1) fun x54 =>
 Ld (.int .i64) w33.drew (a32.add 2) fun x55 =>
 c_hash_Table_Put r5 x52 x53 w33.drew fun r56 w57 =>
 w57.cell? (a32.add 2) = some (Value.int .i64 x55) ∧
 w57.cell? (a32.add 1) = some (Value.string x54) ∧
 c_ref18_Table_Put r8 x54 x55 w57 fun r58 w59 =>
 J36 (r56 == r58) w59
 else
 (bif (x49 == 3) then
 Ld .str w33.drew (a32.add 1) fun x60 =>
 Ld .str w33.drew (a32.add 1) fun x61 =>
 c_hash_Table_Delete r5 x60 w33.drew fun r62 w63 =>
 w63.cell? (a32.add 1) = some (Value.string x61) ∧
 c_ref18_Table_Delete r8 x61 w63 fun r64 w65 =>
 J36 ((r62 : Bool) == r64) w65
 else
 J36 true w33)))
 (bif (x49 == 0) then
 J50 (x49 == 0)
 else
 (bif (x49 == 1) then
 J50 (x49 == 1)
 else
 J50 (x49 == 2)))))
 (bif (decide (s24.1 ≥ 100)) then
 J34 true
 else
 (bif (Option.isNone r8) then
 J34 true
 else
 Ld .str w33 (a32.add 1) fun x66 =>
 J34 (decide ((x66.size : Int) > 200))))
 else
 J13 w25)) (0, ()) w10))
 (bif (r6 != r9) then
 J11 true
 else
 J11 (!(((Option.isNone r5) : Bool) == (Option.isNone r8))))))
theorem e_law18_HashLives (a0 : Int) (a1 : SliceV) (w : World) (K : Bool → World → Prop) : den Try.prog 124 (bodyOf Try.f7) none (.seq .leaf (.seq (.seq .leaf (.cond (.seq .leaf .leaf) .leaf)) (.seq .leaf (.seq .leaf (.seq (.seq .leaf (.cond (.seq .leaf .leaf) .leaf)) (.seq (.seq .leaf (.blk (.loop [(40, (.int .i64))] (.seq .leaf (.seq (.cond .leaf .leaf) (.seq (.blk (.seq .leaf (.seq (.seq .leaf (.cond .leaf .leaf)) (.seq .leaf (.seq (.seq .leaf (.blk (.seq (.seq .leaf (.cond .leaf (.seq .leaf (.cond .leaf .leaf)))) (.cond .leaf (.seq .leaf (.cond .leaf .leaf)))))) (.seq .leaf (.seq .leaf (.seq .leaf (.cond (.seq .leaf .leaf) .leaf))))))))) .leaf)))))) (.seq .leaf .leaf))))))) (argEnv 0 [(Value.int .i64 a0), (Value.slice a1.a a1.len a1.cap)]) [] w (retK Try.prog [.tmp 4] [.one .bool] K) = s_law18_HashLives a0 a1 w K := by kernel_rfl
theorem ok_law18_HashLives {a0 a1 w K} (h : s_law18_HashLives a0 a1 w K) : c_law18_HashLives a0 a1 w K :=
  fn_sound pok Try.func7 (fn := Try.f7) (c := bodyOf Try.f7) (nt := 124) (by kernel_rfl) (by kernel_rfl) (rs := [.tmp 4]) (by kernel_rfl) [.one .bool] K (.seq .leaf (.seq (.seq .leaf (.cond (.seq .leaf .leaf) .leaf)) (.seq .leaf (.seq .leaf (.seq (.seq .leaf (.cond (.seq .leaf .leaf) .leaf)) (.seq (.seq .leaf (.blk (.loop [(40, (.int .i64))] (.seq .leaf (.seq (.cond .leaf .leaf) (.seq (.blk (.seq .leaf (.seq (.seq .leaf (.cond .leaf .leaf)) (.seq .leaf (.seq (.seq .leaf (.blk (.seq (.seq .leaf (.cond .leaf (.seq .leaf (.cond .leaf .leaf)))) (.cond .leaf (.seq .leaf (.cond .leaf .leaf)))))) (.seq .leaf (.seq .leaf (.seq .leaf (.cond (.seq .leaf .leaf) .leaf))))))))) .leaf)))))) (.seq .leaf .leaf))))))) [(Value.int .i64 a0), (Value.slice a1.a a1.len a1.cap)] (by kernel_rfl) w ((e_law18_HashLives a0 a1 w K).mpr h)

/-- goosepond/goosepondlaw18.awake -/
def s_law18_awake  (w : World) (K : Bool → World → Prop) : Prop :=
 (c_hash_New 1 w fun r1 r2 w3 =>
 let J4 : Bool → World → Prop := fun j5 w6 =>
 ((bif j5 then
 K false w6
 else
 c_hash_Table_Get r1 (bs [97]) w6 fun r7 r8 w9 =>
 let J10 : Bool → World → Prop := fun j11 w12 =>
 (K j11 w12)
 (bif r8 then
 (bif (r7 == 1) then
 c_hash_Table_Delete r1 (bs [97]) w9 fun r13 w14 =>
 (bif r13 then
 c_hash_Table_Len r1 w14 fun r15 w16 =>
 J10 (r15 == 0) w16
 else
 J10 false w14)
 else
 J10 false w9)
 else
 J10 false w9)))
 (bif (Option.isNone r1) then
 J4 true w3
 else
 (bif (r2 != 0) then
 J4 true w3
 else
 c_hash_Table_Put r1 (bs [97]) 1 w3 fun r17 w18 =>
 (bif (r17 != 0) then
 J4 true w18
 else
 c_hash_Table_Put r1 (bs [98]) 2 w18 fun r19 w20 =>
 J4 (r19 != 7) w20))))
theorem e_law18_awake  (w : World) (K : Bool → World → Prop) : den Try.prog 44 (bodyOf Try.f21) none (.seq .leaf (.seq .leaf (.seq (.seq .leaf (.cond (.seq .leaf .leaf) .leaf)) (.seq .leaf (.seq .leaf .leaf))))) (argEnv 0 []) [] w (retK Try.prog [.tmp 0] [.one .bool] K) = s_law18_awake  w K := by kernel_rfl
theorem ok_law18_awake { w K} (h : s_law18_awake  w K) : c_law18_awake  w K :=
  fn_sound pok Try.func21 (fn := Try.f21) (c := bodyOf Try.f21) (nt := 44) (by kernel_rfl) (by kernel_rfl) (rs := [.tmp 0]) (by kernel_rfl) [.one .bool] K (.seq .leaf (.seq .leaf (.seq (.seq .leaf (.cond (.seq .leaf .leaf) .leaf)) (.seq .leaf (.seq .leaf .leaf))))) [] (by kernel_rfl) w ((e_law18_awake  w K).mpr h)

/-- goosepond/hash.New -/
def s_hash_New (a0 : Int) (w : World) (K : (Option Addr) → Int → World → Prop) : Prop :=
 (let J2 : Bool → Prop := fun j3 =>
 ((bif j3 then
 K none 1 w
 else
 Al w (.cells ⟨[(Value.slice none 0 0), (Value.int .i64 0), (Value.int .i64 a0), (Value.bool true)]⟩ 95) fun a5 w4 =>
 K (some a5) 0 w4))
 (bif (decide (a0 < 0)) then
 J2 true
 else
 J2 (decide (a0 > 65536))))
theorem e_hash_New (a0 : Int) (w : World) (K : (Option Addr) → Int → World → Prop) : den Try.prog 13 (bodyOf Try.f22) none (.seq .leaf (.seq (.seq .leaf (.cond (.seq .leaf .leaf) .leaf)) (.seq .leaf .leaf))) (argEnv 0 [(Value.int .i64 a0)]) [] w (retK Try.prog [.tmp 2, .tmp 3] [.one .ptr, .one (.int .i64)] K) = s_hash_New a0 w K := by kernel_rfl
theorem ok_hash_New {a0 w K} (h : s_hash_New a0 w K) : c_hash_New a0 w K :=
  fn_sound pok Try.func22 (fn := Try.f22) (c := bodyOf Try.f22) (nt := 13) (by kernel_rfl) (by kernel_rfl) (rs := [.tmp 2, .tmp 3]) (by kernel_rfl) [.one .ptr, .one (.int .i64)] K (.seq .leaf (.seq (.seq .leaf (.cond (.seq .leaf .leaf) .leaf)) (.seq .leaf .leaf))) [(Value.int .i64 a0)] (by kernel_rfl) w ((e_hash_New a0 w K).mpr h)

/-- goosepond/goosepondref18.New -/
def s_ref18_New (a0 : Int) (w : World) (K : (Option Addr) → Int → World → Prop) : Prop :=
 (let J2 : Bool → Prop := fun j3 =>
 ((bif j3 then
 K none 1 w
 else
 Al w (.cells ⟨[(Value.slice none 0 0), (Value.int .i64 a0)]⟩ 98) fun a5 w4 =>
 K (some a5) 0 w4))
 (bif (decide (a0 < 0)) then
 J2 true
 else
 J2 (decide (a0 > 65536))))
theorem e_ref18_New (a0 : Int) (w : World) (K : (Option Addr) → Int → World → Prop) : den Try.prog 13 (bodyOf Try.f23) none (.seq .leaf (.seq (.seq .leaf (.cond (.seq .leaf .leaf) .leaf)) (.seq .leaf .leaf))) (argEnv 0 [(Value.int .i64 a0)]) [] w (retK Try.prog [.tmp 2, .tmp 3] [.one .ptr, .one (.int .i64)] K) = s_ref18_New a0 w K := by kernel_rfl
theorem ok_ref18_New {a0 w K} (h : s_ref18_New a0 w K) : c_ref18_New a0 w K :=
  fn_sound pok Try.func23 (fn := Try.f23) (c := bodyOf Try.f23) (nt := 13) (by kernel_rfl) (by kernel_rfl) (rs := [.tmp 2, .tmp 3]) (by kernel_rfl) [.one .ptr, .one (.int .i64)] K (.seq .leaf (.seq (.seq .leaf (.cond (.seq .leaf .leaf) .leaf)) (.seq .leaf .leaf))) [(Value.int .i64 a0)] (by kernel_rfl) w ((e_ref18_New a0 w K).mpr h)

/-- (*goosepond/hash.Table).Put -/
def s_hash_Table_Put (a0 : Option Addr) (a1 : ByteArray) (a2 : Int) (w : World) (K : Int → World → Prop) : Prop :=
 (c_hash_Table_ready a0 w fun r4 w5 =>
 (bif (!r4) then
 K 2 w5
 else
 c_hash_Table_find a0 a1 w5 fun r6 r7 w8 =>
 (bif r7 then
 ∃ a9 : Addr, a0 = some a9 ∧
 Ld .slice w8 a9 fun x10 =>
 AtIx x10 3 r6 fun a11 =>
 St w8 (a11.add 1) (Value.int .i64 a2) fun w12 =>
 K 0 w12
 else
 ∃ a13 : Addr, a0 = some a13 ∧
 Ld (.int .i64) w8.drew (a13.add 1) fun x14 =>
 ∃ a15 : Addr, a0 = some a15 ∧
 Ld (.int .i64) w8.drew (a15.add 2) fun x16 =>
 (bif (decide (x14 ≥ x16)) then
 K 7 w8.drew
 else
 c_hash_Table_grow a0 w8.drew fun w17 =>
 c_hash_Table_find a0 a1 w17 fun r18 r19 w20 =>
 ∃ a21 : Addr, a0 = some a21 ∧
 Ld .slice w20 a21 fun x22 =>
 AtIx x22 3 r18 fun a23 =>
 StN [(Value.string a1), (Value.int .i64 a2), (Value.bool true)] w20 a23 0 fun w24 =>
 ∃ a25 : Addr, a0 = some a25 ∧
 Ld (.int .i64) w24 (a25.add 1) fun x26 =>
 ∃ a27 : Addr, a0 = some a27 ∧
 St w24 (a27.add 1) (Value.int .i64 (IntKind.i64.wrap (x26 + 1))) fun w28 =>
 K 0 w28))))
theorem e_hash_Table_Put (a0 : Option Addr) (a1 : ByteArray) (a2 : Int) (w : World) (K : Int → World → Prop) : den Try.prog 60 (bodyOf Try.f24) none (.seq .leaf (.seq (.seq .leaf (.cond (.seq .leaf .leaf) .leaf)) (.seq .leaf (.seq (.seq .leaf (.cond (.seq .leaf (.seq .leaf .leaf)) .leaf)) (.seq (.seq .leaf (.cond (.seq .leaf .leaf) .leaf)) (.seq .leaf (.seq .leaf (.seq .leaf (.seq .leaf (.seq .leaf .leaf)))))))))) (argEnv 0 [(Value.pointer a0), (Value.string a1), (Value.int .i64 a2)]) [] w (retK Try.prog [.tmp 6] [.one (.int .i64)] K) = s_hash_Table_Put a0 a1 a2 w K := by kernel_rfl
theorem ok_hash_Table_Put {a0 a1 a2 w K} (h : s_hash_Table_Put a0 a1 a2 w K) : c_hash_Table_Put a0 a1 a2 w K :=
  fn_sound pok Try.func24 (fn := Try.f24) (c := bodyOf Try.f24) (nt := 60) (by kernel_rfl) (by kernel_rfl) (rs := [.tmp 6]) (by kernel_rfl) [.one (.int .i64)] K (.seq .leaf (.seq (.seq .leaf (.cond (.seq .leaf .leaf) .leaf)) (.seq .leaf (.seq (.seq .leaf (.cond (.seq .leaf (.seq .leaf .leaf)) .leaf)) (.seq (.seq .leaf (.cond (.seq .leaf .leaf) .leaf)) (.seq .leaf (.seq .leaf (.seq .leaf (.seq .leaf (.seq .leaf .leaf)))))))))) [(Value.pointer a0), (Value.string a1), (Value.int .i64 a2)] (by kernel_rfl) w ((e_hash_Table_Put a0 a1 a2 w K).mpr h)

/-- (*goosepond/goosepondref18.Table).Put -/
def s_ref18_Table_Put (a0 : Option Addr) (a1 : ByteArray) (a2 : Int) (w : World) (K : Int → World → Prop) : Prop :=
 (c_ref18_Table_Get a0 a1 w fun r4 r5 w6 =>
 let J7 : Bool → World → Prop := fun j8 w9 =>
 ((bif j8 then
 K 7 w9
 else
 c_ref18_Table_Delete a0 a1 w9 fun r10 w11 =>
 LoopP (S := Int × Unit) (fun s12 w13 next14 =>
 let J15 : Bool → Prop := fun j16 =>
 ((bif j16 then
 next14 ((IntKind.i64.wrap (s12.1 + 1)), ()) w13
 else
 let J17 : World → Prop := fun w18 =>
 (K 0 w18)
 ∃ a19 : Addr, a0 = some a19 ∧
 Ld .slice w13.drew a19 fun x20 =>
 SubSl x20 2 0 s12.1 fun s21 =>
 ∃ a22 : Addr, a0 = some a22 ∧
 Ld .slice w13.drew a22 fun x23 =>
 SubSl x23 2 s12.1 (x23.len : Int) fun s24 =>
 (AppSl 102 2 24 [(Value.string (bs [])), (Value.int .i64 0)] ⟨none, 0, 0⟩ s21 w13.drew fun s25 w26 =>
 w26.cell? a22 = some (Value.slice x23.a x23.len x23.cap) ∧
 Al w26 (.cells ⟨[(Value.string a1), (Value.int .i64 a2)]⟩ 102) fun a28 w27 =>
 w27.cell? a22 = some (Value.slice x23.a x23.len x23.cap) ∧
 w27.cell? a19 = some (Value.slice x20.a x20.len x20.cap) ∧
 AppSl 102 2 24 [(Value.string (bs [])), (Value.int .i64 0)] s25 ⟨(some a28), 1, 1⟩ w27 fun s29 w30 =>
 w30.cell? a22 = some (Value.slice x23.a x23.len x23.cap) ∧
 AppSl 102 2 24 [(Value.string (bs [])), (Value.int .i64 0)] s29 s24 w30 fun s31 w32 =>
 ∃ a33 : Addr, a0 = some a33 ∧
 St w32 a33 (Value.slice s31.a s31.len s31.cap) fun w34 =>
 J17 w34) ∧
 (Al w13.drew (.cells ⟨[(Value.string a1), (Value.int .i64 a2)]⟩ 102) fun a36 w35 =>
 w35.cell? a22 = some (Value.slice x23.a x23.len x23.cap) ∧
 w35.cell? a19 = some (Value.slice x20.a x20.len x20.cap) ∧
 AppSl 102 2 24 [(Value.string (bs [])), (Value.int .i64 0)] ⟨none, 0, 0⟩ s21 w35 fun s37 w38 =>
 w38.cell? a22 = some (Value.slice x23.a x23.len x23.cap) ∧
 AppSl 102 2 24 [(Value.string (bs [])), (Value.int .i64 0)] s37 ⟨(some a36), 1, 1⟩ w38 fun s39 w40 =>
 w40.cell? a22 = some (Value.slice x23.a x23.len x23.cap) ∧
 AppSl 102 2 24 [(Value.string (bs [])), (Value.int .i64 0)] s39 s24 w40 fun s41 w42 =>
 ∃ a43 : Addr, a0 = some a43 ∧
 St w42 a43 (Value.slice s41.a s41.len s41.cap) fun w44 =>
 J17 w44)))
 ∃ a45 : Addr, a0 = some a45 ∧
 Ld .slice w13 a45 fun x46 =>
 (bif (decide (s12.1 < (x46.len : Int))) then
 ∃ a47 : Addr, a0 = some a47 ∧
 Ld .slice w13 a47 fun x48 =>
 AtIx x48 2 s12.1 fun a49 =>
 Ld .str w13 a49 fun x50 =>
 J15 (strLt x50 a1)
 else
 J15 false)) (0, ()) w11))
 (bif (!r5) then
 ∃ a51 : Addr, a0 = some a51 ∧
 Ld .slice w6.drew a51 fun x52 =>
 ∃ a53 : Addr, a0 = some a53 ∧
 Ld (.int .i64) w6.drew (a53.add 1) fun x54 =>
 J7 (decide ((x52.len : Int) ≥ x54)) w6.drew
 else
 J7 false w6.drew))
theorem e_ref18_Table_Put (a0 : Option Addr) (a1 : ByteArray) (a2 : Int) (w : World) (K : Int → World → Prop) : den Try.prog 76 (bodyOf Try.f25) none (.seq .leaf (.seq (.seq .leaf (.seq .leaf (.cond (.seq .leaf .leaf) .leaf))) (.seq .leaf (.seq .leaf (.seq (.blk (.loop [(9, (.int .i64))] (.seq (.seq .leaf (.cond .leaf .leaf)) (.blk .leaf)))) (.seq .leaf (.seq .leaf .leaf))))))) (argEnv 0 [(Value.pointer a0), (Value.string a1), (Value.int .i64 a2)]) [] w (retK Try.prog [.tmp 6] [.one (.int .i64)] K) = s_ref18_Table_Put a0 a1 a2 w K := by kernel_rfl
theorem ok_ref18_Table_Put {a0 a1 a2 w K} (h : s_ref18_Table_Put a0 a1 a2 w K) : c_ref18_Table_Put a0 a1 a2 w K :=
  fn_sound pok Try.func25 (fn := Try.f25) (c := bodyOf Try.f25) (nt := 76) (by kernel_rfl) (by kernel_rfl) (rs := [.tmp 6]) (by kernel_rfl) [.one (.int .i64)] K (.seq .leaf (.seq (.seq .leaf (.seq .leaf (.cond (.seq .leaf .leaf) .leaf))) (.seq .leaf (.seq .leaf (.seq (.blk (.loop [(9, (.int .i64))] (.seq (.seq .leaf (.cond .leaf .leaf)) (.blk .leaf)))) (.seq .leaf (.seq .leaf .leaf))))))) [(Value.pointer a0), (Value.string a1), (Value.int .i64 a2)] (by kernel_rfl) w ((e_ref18_Table_Put a0 a1 a2 w K).mpr h)

/-- (*goosepond/hash.Table).Delete -/
def s_hash_Table_Delete (a0 : Option Addr) (a1 : ByteArray) (w : World) (K : Bool → World → Prop) : Prop :=
 (isOne (Value.pointer a0) = true ∧
 Al w (.cells ⟨[(Value.pointer a0)]⟩ 60) fun a4 w3 =>
 Ld .ptr w3 a4 fun x5 =>
 c_hash_Table_ready x5 w3 fun r6 w7 =>
 (bif (!r6) then
 K false w7
 else
 Ld .ptr w7 a4 fun x8 =>
 c_hash_Table_find x8 a1 w7 fun r9 r10 w11 =>
 (bif (!r10) then
 K false w11
 else
 Ld .ptr w11 a4 fun x12 =>
 ∃ a13 : Addr, x12 = some a13 ∧
 Ld .slice w11 a13 fun x14 =>
 AtIx x14 3 r9 fun a15 =>
 StN [(Value.string (bs [])), (Value.int .i64 0), (Value.bool false)] w11 a15 0 fun w16 =>
 Ld .ptr w16 a4 fun x17 =>
 ∃ a18 : Addr, x17 = some a18 ∧
 Ld (.int .i64) w16 (a18.add 1) fun x19 =>
 ∃ a20 : Addr, x17 = some a20 ∧
 St w16 (a20.add 1) (Value.int .i64 (IntKind.i64.wrap (x19 - 1))) fun w21 =>
 let J22 : List Nat → World → Prop := fun d23 w24 =>
 (CloseP d23 w24 fun w25 =>
 K true w25)
 Ld .ptr w21.drew a4 fun x26 =>
 Ld .ptr w21.drew a4 fun x27 =>
 ∃ a28 : Addr, x27 = some a28 ∧
 Ld .slice w21.drew a28 fun x29 =>
 (x29.len : Int) ≠ 0 ∧
 c_hash_Table_walk x26 (Int.tmod (IntKind.i64.wrap (r9 + 1)) (x29.len : Int)) w21.drew fun r30 w31 =>
 RngP Try.prog none [.one (.int .i64)] r30 w31 (fun l32 x33 W34 Kb35 =>
 W34.heap[l32]? = W34.heap[l32]? ∧
 Ld .ptr (busyW W34 l32) a4 fun x36 =>
 ∃ a37 : Addr, x36 = some a37 ∧
 Ld .slice (busyW W34 l32) a37 fun x38 =>
 AtIx x38 3 x33.1 fun a39 =>
 Ld .str (busyW W34 l32) (a39.add 0) fun x40 =>
 Ld (.int .i64) (busyW W34 l32) (a39.add 1) fun x41 =>
 Ld .bool (busyW W34 l32) (a39.add 2) fun x42 =>
 Al (busyW W34 l32) (.cells ⟨[(Value.string (bs [])), (Value.int .i64 0), (Value.bool false)]⟩ 100) fun a44 w43 =>
 StN [(Value.string x40), (Value.int .i64 x41), (Value.bool x42)] w43 a44 0 fun w45 =>
 Ld .bool w45 (a44.add 2) fun x46 =>
 (bif (!x46) then
 Kb35 (.exit 0) w45
 else
 Ld .ptr w45 a4 fun x47 =>
 ∃ a48 : Addr, x47 = some a48 ∧
 Ld .slice w45 a48 fun x49 =>
 AtIx x49 3 x33.1 fun a50 =>
 StN [(Value.string (bs [])), (Value.int .i64 0), (Value.bool false)] w45 a50 0 fun w51 =>
 Ld .ptr w51 a4 fun x52 =>
 Ld .str w51 a44 fun x53 =>
 c_hash_Table_find x52 x53 w51 fun r54 r55 w56 =>
 Ld .ptr w56.drew a4 fun x57 =>
 ∃ a58 : Addr, x57 = some a58 ∧
 Ld .slice w56.drew a58 fun x59 =>
 Ld .str w56.drew (a44.add 0) fun x60 =>
 Ld (.int .i64) w56.drew (a44.add 1) fun x61 =>
 Ld .bool w56.drew (a44.add 2) fun x62 =>
 AtIx x59 3 r54 fun a63 =>
 StN [(Value.string x60), (Value.int .i64 x61), (Value.bool x62)] w56.drew a63 0 fun w64 =>
 Kb35 .normal w64))
 (fun w66 =>
 J22 (w31.heap.size :: []) w66)
 (fun w67 =>
 w67.heap[w31.heap.size]? = some (.deferred (some [])) ∧
 K false (w67.putObj w31.heap.size (.deferred none)))
 [(0, (fun w65 =>
 J22 (w31.heap.size :: []) w65))])))
theorem e_hash_Table_Delete (a0 : Option Addr) (a1 : ByteArray) (w : World) (K : Bool → World → Prop) : den Try.prog 78 (bodyOf Try.f26) none (.seq .leaf (.seq (.seq .leaf (.cond (.seq .leaf .leaf) .leaf)) (.seq .leaf (.seq (.seq .leaf (.cond (.seq .leaf .leaf) .leaf)) (.seq .leaf (.seq .leaf (.seq .leaf (.seq (.seq .leaf (.blk (.rng [.one (.int .i64)] .leaf (.blk (.seq .leaf (.seq (.seq .leaf (.cond .leaf .leaf)) (.seq .leaf (.seq .leaf .leaf)))))))) (.seq .leaf .leaf))))))))) (argEnv 0 [(Value.pointer a0), (Value.string a1)]) [] w (retK Try.prog [.tmp 4] [.one .bool] K) = s_hash_Table_Delete a0 a1 w K := by kernel_rfl
theorem ok_hash_Table_Delete {a0 a1 w K} (h : s_hash_Table_Delete a0 a1 w K) : c_hash_Table_Delete a0 a1 w K :=
  fn_sound pok Try.func26 (fn := Try.f26) (c := bodyOf Try.f26) (nt := 78) (by kernel_rfl) (by kernel_rfl) (rs := [.tmp 4]) (by kernel_rfl) [.one .bool] K (.seq .leaf (.seq (.seq .leaf (.cond (.seq .leaf .leaf) .leaf)) (.seq .leaf (.seq (.seq .leaf (.cond (.seq .leaf .leaf) .leaf)) (.seq .leaf (.seq .leaf (.seq .leaf (.seq (.seq .leaf (.blk (.rng [.one (.int .i64)] .leaf (.blk (.seq .leaf (.seq (.seq .leaf (.cond .leaf .leaf)) (.seq .leaf (.seq .leaf .leaf)))))))) (.seq .leaf .leaf))))))))) [(Value.pointer a0), (Value.string a1)] (by kernel_rfl) w ((e_hash_Table_Delete a0 a1 w K).mpr h)

/-- (*goosepond/goosepondref18.Table).Delete -/
def s_ref18_Table_Delete (a0 : Option Addr) (a1 : ByteArray) (w : World) (K : Bool → World → Prop) : Prop :=
 (LoopP (S := SliceV × Int × Unit) (fun s3 w4 next5 =>
 ∃ a6 : Addr, a0 = some a6 ∧
 Ld .slice w4 a6 fun x7 =>
 (bif (decide (s3.2.1 < (x7.len : Int))) then
 let J8 : SliceV → World → Prop := fun j9 w10 =>
 (next5 (j9, (IntKind.i64.wrap (s3.2.1 + 1)), ()) w10)
 ∃ a11 : Addr, a0 = some a11 ∧
 Ld .slice w4 a11 fun x12 =>
 AtIx x12 2 s3.2.1 fun a13 =>
 Ld .str w4 a13 fun x14 =>
 (bif (!strEq x14 a1) then
 ∃ a15 : Addr, a0 = some a15 ∧
 Ld .slice w4 a15 fun x16 =>
 AtIx x16 2 s3.2.1 fun a17 =>
 Ld .str w4 (a17.add 0) fun x18 =>
 Ld (.int .i64) w4 (a17.add 1) fun x19 =>
 Al w4 (.cells ⟨[(Value.string x18), (Value.int .i64 x19)]⟩ 102) fun a21 w20 =>
 AppSl 102 2 24 [(Value.string (bs [])), (Value.int .i64 0)] s3.1 ⟨(some a21), 1, 1⟩ w20 fun s22 w23 =>
 J8 s22 w23
 else
 J8 s3.1 w4)
 else
 ∃ a24 : Addr, a0 = some a24 ∧
 Ld .slice w4 a24 fun x25 =>
 ∃ a26 : Addr, a0 = some a26 ∧
 St w4 a26 (Value.slice s3.1.a s3.1.len s3.1.cap) fun w27 =>
 K (decide ((s3.1.len : Int) < (x25.len : Int))) w27)) (⟨none, 0, 0⟩, 0, ()) w)
theorem e_ref18_Table_Delete (a0 : Option Addr) (a1 : ByteArray) (w : World) (K : Bool → World → Prop) : den Try.prog 50 (bodyOf Try.f27) none (.seq .leaf (.seq .leaf (.seq (.seq .leaf (.blk (.loop [(5, .slice), (6, (.int .i64))] (.seq (.seq .leaf (.cond .leaf .leaf)) (.seq (.blk (.seq .leaf (.cond .leaf .leaf))) .leaf))))) (.seq .leaf (.seq .leaf (.seq .leaf .leaf)))))) (argEnv 0 [(Value.pointer a0), (Value.string a1)]) [] w (retK Try.prog [.tmp 4] [.one .bool] K) = s_ref18_Table_Delete a0 a1 w K := by kernel_rfl
theorem ok_ref18_Table_Delete {a0 a1 w K} (h : s_ref18_Table_Delete a0 a1 w K) : c_ref18_Table_Delete a0 a1 w K :=
  fn_sound pok Try.func27 (fn := Try.f27) (c := bodyOf Try.f27) (nt := 50) (by kernel_rfl) (by kernel_rfl) (rs := [.tmp 4]) (by kernel_rfl) [.one .bool] K (.seq .leaf (.seq .leaf (.seq (.seq .leaf (.blk (.loop [(5, .slice), (6, (.int .i64))] (.seq (.seq .leaf (.cond .leaf .leaf)) (.seq (.blk (.seq .leaf (.cond .leaf .leaf))) .leaf))))) (.seq .leaf (.seq .leaf (.seq .leaf .leaf)))))) [(Value.pointer a0), (Value.string a1)] (by kernel_rfl) w ((e_ref18_Table_Delete a0 a1 w K).mpr h)

/-- (*goosepond/hash.Table).Get -/
def s_hash_Table_Get (a0 : Option Addr) (a1 : ByteArray) (w : World) (K : Int → Bool → World → Prop) : Prop :=
 (c_hash_Table_ready a0 w fun r3 w4 =>
 (bif (!r3) then
 K 0 false w4
 else
 c_hash_Table_find a0 a1 w4 fun r5 r6 w7 =>
 (bif (!r6) then
 K 0 false w7
 else
 ∃ a8 : Addr, a0 = some a8 ∧
 Ld .slice w7 a8 fun x9 =>
 AtIx x9 3 r5 fun a10 =>
 Ld (.int .i64) w7 (a10.add 1) fun x11 =>
 K x11 true w7)))
theorem e_hash_Table_Get (a0 : Option Addr) (a1 : ByteArray) (w : World) (K : Int → Bool → World → Prop) : den Try.prog 27 (bodyOf Try.f28) none (.seq .leaf (.seq (.seq .leaf (.cond (.seq .leaf .leaf) .leaf)) (.seq .leaf (.seq (.seq .leaf (.cond (.seq .leaf .leaf) .leaf)) (.seq .leaf .leaf))))) (argEnv 0 [(Value.pointer a0), (Value.string a1)]) [] w (retK Try.prog [.tmp 4, .tmp 5] [.one (.int .i64), .one .bool] K) = s_hash_Table_Get a0 a1 w K := by kernel_rfl
theorem ok_hash_Table_Get {a0 a1 w K} (h : s_hash_Table_Get a0 a1 w K) : c_hash_Table_Get a0 a1 w K :=
  fn_sound pok Try.func28 (fn := Try.f28) (c := bodyOf Try.f28) (nt := 27) (by kernel_rfl) (by kernel_rfl) (rs := [.tmp 4, .tmp 5]) (by kernel_rfl) [.one (.int .i64), .one .bool] K (.seq .leaf (.seq (.seq .leaf (.cond (.seq .leaf .leaf) .leaf)) (.seq .leaf (.seq (.seq .leaf (.cond (.seq .leaf .leaf) .leaf)) (.seq .leaf .leaf))))) [(Value.pointer a0), (Value.string a1)] (by kernel_rfl) w ((e_hash_Table_Get a0 a1 w K).mpr h)

/-- (*goosepond/goosepondref18.Table).Get -/
def s_ref18_Table_Get (a0 : Option Addr) (a1 : ByteArray) (w : World) (K : Int → Bool → World → Prop) : Prop :=
 (LoopP (S := Int × Unit) (fun s3 w4 next5 =>
 ∃ a6 : Addr, a0 = some a6 ∧
 Ld .slice w4 a6 fun x7 =>
 (bif (decide (s3.1 < (x7.len : Int))) then
 ∃ a8 : Addr, a0 = some a8 ∧
 Ld .slice w4 a8 fun x9 =>
 AtIx x9 2 s3.1 fun a10 =>
 Ld .str w4 a10 fun x11 =>
 (bif (strEq x11 a1) then
 ∃ a12 : Addr, a0 = some a12 ∧
 Ld .slice w4 a12 fun x13 =>
 AtIx x13 2 s3.1 fun a14 =>
 Ld (.int .i64) w4 (a14.add 1) fun x15 =>
 K x15 true w4
 else
 next5 ((IntKind.i64.wrap (s3.1 + 1)), ()) w4)
 else
 K 0 false w4)) (0, ()) w)
theorem e_ref18_Table_Get (a0 : Option Addr) (a1 : ByteArray) (w : World) (K : Int → Bool → World → Prop) : den Try.prog 34 (bodyOf Try.f29) none (.seq .leaf (.seq (.seq .leaf (.blk (.loop [(6, (.int .i64))] (.seq (.seq .leaf (.cond .leaf .leaf)) (.seq (.blk (.seq .leaf (.cond (.seq .leaf .leaf) .leaf))) .leaf))))) (.seq .leaf .leaf))) (argEnv 0 [(Value.pointer a0), (Value.string a1)]) [] w (retK Try.prog [.tmp 4, .tmp 5] [.one (.int .i64), .one .bool] K) = s_ref18_Table_Get a0 a1 w K := by kernel_rfl
theorem ok_ref18_Table_Get {a0 a1 w K} (h : s_ref18_Table_Get a0 a1 w K) : c_ref18_Table_Get a0 a1 w K :=
  fn_sound pok Try.func29 (fn := Try.f29) (c := bodyOf Try.f29) (nt := 34) (by kernel_rfl) (by kernel_rfl) (rs := [.tmp 4, .tmp 5]) (by kernel_rfl) [.one (.int .i64), .one .bool] K (.seq .leaf (.seq (.seq .leaf (.blk (.loop [(6, (.int .i64))] (.seq (.seq .leaf (.cond .leaf .leaf)) (.seq (.blk (.seq .leaf (.cond (.seq .leaf .leaf) .leaf))) .leaf))))) (.seq .leaf .leaf))) [(Value.pointer a0), (Value.string a1)] (by kernel_rfl) w ((e_ref18_Table_Get a0 a1 w K).mpr h)

/-- goosepond/goosepondlaw18.same -/
def s_law18_same (a0 : Option Addr) (a1 : Option Addr) (w : World) (K : Bool → World → Prop) : Prop :=
 (isOne (Value.pointer a1) = true ∧
 Al w (.cells ⟨[(Value.pointer a1)]⟩ 63) fun a4 w3 =>
 Al w3 (.cells ⟨[(Value.bool false)]⟩ 4) fun a6 w5 =>
 Al w5 (.cells ⟨[(Value.int .i64 0)]⟩ 3) fun a8 w7 =>
 St w7 a8 (Value.int .i64 0) fun w9 =>
 c_hash_Table_All a0 w9 fun r10 w11 =>
 RngP Try.prog none [.one .str, .one (.int .i64)] r10 w11 (fun l12 x13 W14 Kb15 =>
 W14.heap[l12]? = W14.heap[l12]? ∧
 let J16 : Bool → World → Prop := fun j17 w18 =>
 ((bif j17 then
 St w18 a6 (Value.bool false) fun w19 =>
 Kb15 .ret w19
 else
 Ld (.int .i64) w18 a8 fun x20 =>
 St w18 a8 (Value.int .i64 (IntKind.i64.wrap (x20 + 1))) fun w21 =>
 Kb15 .normal w21))
 Ld (.int .i64) (busyW W14 l12).drew a8 fun x22 =>
 Ld .ptr (busyW W14 l12).drew a4 fun x23 =>
 ∃ a24 : Addr, x23 = some a24 ∧
 Ld .slice (busyW W14 l12).drew a24 fun x25 =>
 (bif (decide (x22 ≥ (x25.len : Int))) then
 J16 true (busyW W14 l12).drew
 else
 Ld .ptr (busyW W14 l12).drew a4 fun x26 =>
 ∃ a27 : Addr, x26 = some a27 ∧
 Ld .slice (busyW W14 l12).drew a27 fun x28 =>
 Ld (.int .i64) (busyW W14 l12).drew a8 fun x29 =>
 AtIx x28 2 x29 fun a30 =>
 Ld .str (busyW W14 l12).drew a30 fun x31 =>
 (bif (!strEq x31 x13.1) then
 J16 true (busyW W14 l12).drew
 else
 Ld .ptr (busyW W14 l12).drew a4 fun x32 =>
 ∃ a33 : Addr, x32 = some a33 ∧
 Ld .slice (busyW W14 l12).drew a33 fun x34 =>
 Ld (.int .i64) (busyW W14 l12).drew a8 fun x35 =>
 AtIx x34 2 x35 fun a36 =>
 Ld (.int .i64) (busyW W14 l12).drew (a36.add 1) fun x37 =>
 J16 (x37 != x13.2.1) (busyW W14 l12).drew)))
 (fun w38 =>
 let J39 : World → Prop := fun w40 =>
 (w40.heap[w11.heap.size]? = some (.deferred (some [])) ∧
 Ld .bool (w40.putObj w11.heap.size (.deferred none)) a6 fun y41 =>
 K y41 (w40.putObj w11.heap.size (.deferred none)))
 Ld (.int .i64) w38.drew a8 fun x42 =>
 Ld .ptr w38.drew a4 fun x43 =>
 ∃ a44 : Addr, x43 = some a44 ∧
 Ld .slice w38.drew a44 fun x45 =>
 (bif (x42 == (x45.len : Int)) then
 Ld (.int .i64) w38.drew a8 fun x46 =>
 c_hash_Table_Len a0 w38.drew fun r47 w48 =>
 w48.cell? a8 = some (Value.int .i64 x46) ∧
 St w48 a6 (Value.bool (r47 == x46)) fun w49 =>
 J39 w49
 else
 St w38.drew a6 (Value.bool false) fun w50 =>
 J39 w50))
 (fun w51 =>
 w51.heap[w11.heap.size]? = some (.deferred (some [])) ∧
 Ld .bool (w51.putObj w11.heap.size (.deferred none)) a6 fun y52 =>
 K y52 (w51.putObj w11.heap.size (.deferred none)))
 [])
theorem e_law18_same (a0 : Option Addr) (a1 : Option Addr) (w : World) (K : Bool → World → Prop) : den Try.prog 58 (bodyOf Try.f30) none (.seq .leaf (.seq .leaf (.seq (.seq .leaf (.blk (.rng [.one .str, .one (.int .i64)] (.seq .leaf .leaf) (.blk (.seq (.seq .leaf (.cond (.seq .leaf .leaf) .leaf)) .leaf))))) (.seq .leaf .leaf)))) (argEnv 0 [(Value.pointer a0), (Value.pointer a1)]) [] w (retK Try.prog [.cell 4 4] [.one .bool] K) = s_law18_same a0 a1 w K := by kernel_rfl
theorem ok_law18_same {a0 a1 w K} (h : s_law18_same a0 a1 w K) : c_law18_same a0 a1 w K :=
  fn_sound pok Try.func30 (fn := Try.f30) (c := bodyOf Try.f30) (nt := 58) (by kernel_rfl) (by kernel_rfl) (rs := [.cell 4 4]) (by kernel_rfl) [.one .bool] K (.seq .leaf (.seq .leaf (.seq (.seq .leaf (.blk (.rng [.one .str, .one (.int .i64)] (.seq .leaf .leaf) (.blk (.seq (.seq .leaf (.cond (.seq .leaf .leaf) .leaf)) .leaf))))) (.seq .leaf .leaf)))) [(Value.pointer a0), (Value.pointer a1)] (by kernel_rfl) w ((e_law18_same a0 a1 w K).mpr h)

/-- (*goosepond/hash.Table).Len -/
def s_hash_Table_Len (a0 : Option Addr) (w : World) (K : Int → World → Prop) : Prop :=
 (c_hash_Table_ready a0 w fun r2 w3 =>
 (bif (!r2) then
 K 0 w3
 else
 ∃ a4 : Addr, a0 = some a4 ∧
 Ld (.int .i64) w3 (a4.add 1) fun x5 =>
 K x5 w3))
theorem e_hash_Table_Len (a0 : Option Addr) (w : World) (K : Int → World → Prop) : den Try.prog 10 (bodyOf Try.f46) none (.seq .leaf (.seq (.seq .leaf (.cond (.seq .leaf .leaf) .leaf)) (.seq .leaf .leaf))) (argEnv 0 [(Value.pointer a0)]) [] w (retK Try.prog [.tmp 2] [.one (.int .i64)] K) = s_hash_Table_Len a0 w K := by kernel_rfl
theorem ok_hash_Table_Len {a0 w K} (h : s_hash_Table_Len a0 w K) : c_hash_Table_Len a0 w K :=
  fn_sound pok Try.func46 (fn := Try.f46) (c := bodyOf Try.f46) (nt := 10) (by kernel_rfl) (by kernel_rfl) (rs := [.tmp 2]) (by kernel_rfl) [.one (.int .i64)] K (.seq .leaf (.seq (.seq .leaf (.cond (.seq .leaf .leaf) .leaf)) (.seq .leaf .leaf))) [(Value.pointer a0)] (by kernel_rfl) w ((e_hash_Table_Len a0 w K).mpr h)

/-- (*goosepond/hash.Table).ready -/
def s_hash_Table_ready (a0 : Option Addr) (w : World) (K : Bool → World → Prop) : Prop :=
 (let J2 : Bool → Prop := fun j3 =>
 (K j3 w)
 (bif (!(Option.isNone a0)) then
 ∃ a4 : Addr, a0 = some a4 ∧
 Ld .bool w (a4.add 3) fun x5 =>
 J2 x5
 else
 J2 false))
theorem e_hash_Table_ready (a0 : Option Addr) (w : World) (K : Bool → World → Prop) : den Try.prog 11 (bodyOf Try.f47) none (.seq .leaf (.seq .leaf .leaf)) (argEnv 0 [(Value.pointer a0)]) [] w (retK Try.prog [.tmp 2] [.one .bool] K) = s_hash_Table_ready a0 w K := by kernel_rfl
theorem ok_hash_Table_ready {a0 w K} (h : s_hash_Table_ready a0 w K) : c_hash_Table_ready a0 w K :=
  fn_sound pok Try.func47 (fn := Try.f47) (c := bodyOf Try.f47) (nt := 11) (by kernel_rfl) (by kernel_rfl) (rs := [.tmp 2]) (by kernel_rfl) [.one .bool] K (.seq .leaf (.seq .leaf .leaf)) [(Value.pointer a0)] (by kernel_rfl) w ((e_hash_Table_ready a0 w K).mpr h)

/-- (*goosepond/hash.Table).find -/
def s_hash_Table_find (a0 : Option Addr) (a1 : ByteArray) (w : World) (K : Int → Bool → World → Prop) : Prop :=
 (isOne (Value.pointer a0) = true ∧
 Al w (.cells ⟨[(Value.pointer a0)]⟩ 60) fun a4 w3 =>
 isOne (Value.string a1) = true ∧
 Al w3 (.cells ⟨[(Value.string a1)]⟩ 9) fun a6 w5 =>
 Al w5 (.cells ⟨[(Value.int .i64 0)]⟩ 3) fun a8 w7 =>
 Al w7 (.cells ⟨[(Value.bool false)]⟩ 4) fun a10 w9 =>
 Ld .ptr w9 a4 fun x11 =>
 ∃ a12 : Addr, x11 = some a12 ∧
 Ld .slice w9 a12 fun x13 =>
 (bif ((x13.len : Int) == 0) then
 St w9 a8 (Value.int .i64 0) fun w14 =>
 St w14 a10 (Value.bool false) fun w15 =>
 Ld (.int .i64) w15 a8 fun y16 =>
 Ld .bool w15 a10 fun y17 =>
 K y16 y17 w15
 else
 Ld .ptr w9.drew a4 fun x18 =>
 Ld .str w9.drew a6 fun x19 =>
 Ld .ptr w9.drew a4 fun x20 =>
 ∃ a21 : Addr, x20 = some a21 ∧
 Ld .slice w9.drew a21 fun x22 =>
 c_hash_home x19 (x22.len : Int) w9.drew fun r23 w24 =>
 w24.cell? a4 = some (Value.pointer x18) ∧
 c_hash_Table_walk x18 r23 w24 fun r25 w26 =>
 RngP Try.prog none [.one (.int .i64)] r25 w26 (fun l27 x28 W29 Kb30 =>
 W29.heap[l27]? = W29.heap[l27]? ∧
 Ld .ptr (busyW W29 l27) a4 fun x31 =>
 ∃ a32 : Addr, x31 = some a32 ∧
 Ld .slice (busyW W29 l27) a32 fun x33 =>
 AtIx x33 3 x28.1 fun a34 =>
 Ld .str (busyW W29 l27) (a34.add 0) fun x35 =>
 Ld (.int .i64) (busyW W29 l27) (a34.add 1) fun x36 =>
 Ld .bool (busyW W29 l27) (a34.add 2) fun x37 =>
 Al (busyW W29 l27) (.cells ⟨[(Value.string (bs [])), (Value.int .i64 0), (Value.bool false)]⟩ 100) fun a39 w38 =>
 StN [(Value.string x35), (Value.int .i64 x36), (Value.bool x37)] w38 a39 0 fun w40 =>
 Ld .bool w40 (a39.add 2) fun x41 =>
 (bif (!x41) then
 St w40 a8 (Value.int .i64 x28.1) fun w42 =>
 St w42 a10 (Value.bool false) fun w43 =>
 Kb30 .ret w43
 else
 Ld .str w40 a39 fun x44 =>
 Ld .str w40 a6 fun x45 =>
 (bif (strEq x44 x45) then
 St w40 a8 (Value.int .i64 x28.1) fun w46 =>
 St w46 a10 (Value.bool true) fun w47 =>
 Kb30 .ret w47
 else
 Kb30 .normal w40)))
 (fun w48 =>
 St w48 a8 (Value.int .i64 0) fun w49 =>
 St w49 a10 (Value.bool false) fun w50 =>
 w50.heap[w26.heap.size]? = some (.deferred (some [])) ∧
 Ld (.int .i64) (w50.putObj w26.heap.size (.deferred none)) a8 fun y51 =>
 Ld .bool (w50.putObj w26.heap.size (.deferred none)) a10 fun y52 =>
 K y51 y52 (w50.putObj w26.heap.size (.deferred none)))
 (fun w53 =>
 w53.heap[w26.heap.size]? = some (.deferred (some [])) ∧
 Ld (.int .i64) (w53.putObj w26.heap.size (.deferred none)) a8 fun y54 =>
 Ld .bool (w53.putObj w26.heap.size (.deferred none)) a10 fun y55 =>
 K y54 y55 (w53.putObj w26.heap.size (.deferred none)))
 []))
theorem e_hash_Table_find (a0 : Option Addr) (a1 : ByteArray) (w : World) (K : Int → Bool → World → Prop) : den Try.prog 40 (bodyOf Try.f48) none (.seq .leaf (.seq (.seq .leaf (.cond (.seq .leaf .leaf) .leaf)) (.seq (.seq .leaf (.blk (.rng [.one (.int .i64)] .leaf (.blk (.seq .leaf (.seq (.seq .leaf (.cond (.seq .leaf .leaf) .leaf)) (.seq .leaf (.cond (.seq .leaf .leaf) .leaf)))))))) (.seq .leaf .leaf)))) (argEnv 0 [(Value.pointer a0), (Value.string a1)]) [] w (retK Try.prog [.cell 4 3, .cell 5 4] [.one (.int .i64), .one .bool] K) = s_hash_Table_find a0 a1 w K := by kernel_rfl
theorem ok_hash_Table_find {a0 a1 w K} (h : s_hash_Table_find a0 a1 w K) : c_hash_Table_find a0 a1 w K :=
  fn_sound pok Try.func48 (fn := Try.f48) (c := bodyOf Try.f48) (nt := 40) (by kernel_rfl) (by kernel_rfl) (rs := [.cell 4 3, .cell 5 4]) (by kernel_rfl) [.one (.int .i64), .one .bool] K (.seq .leaf (.seq (.seq .leaf (.cond (.seq .leaf .leaf) .leaf)) (.seq (.seq .leaf (.blk (.rng [.one (.int .i64)] .leaf (.blk (.seq .leaf (.seq (.seq .leaf (.cond (.seq .leaf .leaf) .leaf)) (.seq .leaf (.cond (.seq .leaf .leaf) .leaf)))))))) (.seq .leaf .leaf)))) [(Value.pointer a0), (Value.string a1)] (by kernel_rfl) w ((e_hash_Table_find a0 a1 w K).mpr h)

/-- (*goosepond/hash.Table).grow -/
def s_hash_Table_grow (a0 : Option Addr) (w : World) (K : World → Prop) : Prop :=
 (∃ a2 : Addr, a0 = some a2 ∧
 Ld (.int .i64) w.drew (a2.add 1) fun x3 =>
 ∃ a4 : Addr, a0 = some a4 ∧
 Ld .slice w.drew a4 fun x5 =>
 (bif (decide ((IntKind.i64.wrap (2 * (IntKind.i64.wrap (x3 + 1)))) ≤ (x5.len : Int))) then
 K w.drew
 else
 ∃ a6 : Addr, a0 = some a6 ∧
 Ld .slice w.drew a6 fun x7 =>
 MkSl 100 3 32 [(Value.string (bs [])), (Value.int .i64 0), (Value.bool false)] (if (IntKind.i64.wrap (2 * (x7.len : Int))) > 8 then (IntKind.i64.wrap (2 * (x7.len : Int))) else 8) (if (IntKind.i64.wrap (2 * (x7.len : Int))) > 8 then (IntKind.i64.wrap (2 * (x7.len : Int))) else 8) w.drew fun s8 w9 =>
 ∃ a10 : Addr, a0 = some a10 ∧
 St w9 a10 (Value.slice s8.a s8.len s8.cap) fun w11 =>
 LoopP (S := Int × Unit) (fun s12 w13 next14 =>
 (bif (decide (s12.1 < (x7.len : Int))) then
 let J15 : World → Prop := fun w16 =>
 (next14 ((IntKind.i64.wrap (s12.1 + 1)), ()) w16)
 AtIx x7 3 s12.1 fun a17 =>
 Ld .str w13 (a17.add 0) fun x18 =>
 Ld (.int .i64) w13 (a17.add 1) fun x19 =>
 Ld .bool w13 (a17.add 2) fun x20 =>
 Al w13 (.cells ⟨[(Value.string (bs [])), (Value.int .i64 0), (Value.bool false)]⟩ 100) fun a22 w21 =>
 StN [(Value.string x18), (Value.int .i64 x19), (Value.bool x20)] w21 a22 0 fun w23 =>
 Ld .bool w23 (a22.add 2) fun x24 =>
 (bif x24 then
 Ld .str w23 a22 fun x25 =>
 c_hash_Table_find a0 x25 w23 fun r26 r27 w28 =>
 ∃ a29 : Addr, a0 = some a29 ∧
 Ld .slice w28.drew a29 fun x30 =>
 Ld .str w28.drew (a22.add 0) fun x31 =>
 Ld (.int .i64) w28.drew (a22.add 1) fun x32 =>
 Ld .bool w28.drew (a22.add 2) fun x33 =>
 AtIx x30 3 r26 fun a34 =>
 StN [(Value.string x31), (Value.int .i64 x32), (Value.bool x33)] w28.drew a34 0 fun w35 =>
 J15 w35
 else
 J15 w23)
 else
 K w13)) (0, ()) w11))
theorem e_hash_Table_grow (a0 : Option Addr) (w : World) (K : World → Prop) : den Try.prog 54 (bodyOf Try.f49) none (.seq (.seq .leaf (.cond .leaf .leaf)) (.seq .leaf (.seq .leaf (.seq .leaf (.blk (.loop [(33, (.int .i64))] (.seq .leaf (.seq (.cond .leaf .leaf) (.seq (.blk (.seq .leaf (.seq .leaf (.cond (.seq .leaf .leaf) .leaf)))) .leaf))))))))) (argEnv 0 [(Value.pointer a0)]) [] w (retK Try.prog [] [] K) = s_hash_Table_grow a0 w K := by kernel_rfl
theorem ok_hash_Table_grow {a0 w K} (h : s_hash_Table_grow a0 w K) : c_hash_Table_grow a0 w K :=
  fn_sound pok Try.func49 (fn := Try.f49) (c := bodyOf Try.f49) (nt := 54) (by kernel_rfl) (by kernel_rfl) (rs := []) (by kernel_rfl) [] K (.seq (.seq .leaf (.cond .leaf .leaf)) (.seq .leaf (.seq .leaf (.seq .leaf (.blk (.loop [(33, (.int .i64))] (.seq .leaf (.seq (.cond .leaf .leaf) (.seq (.blk (.seq .leaf (.seq .leaf (.cond (.seq .leaf .leaf) .leaf)))) .leaf))))))))) [(Value.pointer a0)] (by kernel_rfl) w ((e_hash_Table_grow a0 w K).mpr h)

/-- (*goosepond/hash.Table).walk -/
def s_hash_Table_walk (a0 : Option Addr) (a1 : Int) (w : World) (K : Value → World → Prop) : Prop :=
 (isOne (Value.pointer a0) = true ∧
 Al w (.cells ⟨[(Value.pointer a0)]⟩ 60) fun a4 w3 =>
 isOne (Value.int .i64 a1) = true ∧
 Al w3 (.cells ⟨[(Value.int .i64 a1)]⟩ 3) fun a6 w5 =>
 K (Value.func (.func 77) #[] #[(Value.pointer (some a4)), (Value.pointer (some a6))]) w5)
theorem e_hash_Table_walk (a0 : Option Addr) (a1 : Int) (w : World) (K : Value → World → Prop) : den Try.prog 6 (bodyOf Try.f50) none (.seq .leaf (.seq .leaf .leaf)) (argEnv 0 [(Value.pointer a0), (Value.int .i64 a1)]) [] w (retK Try.prog [.tmp 4] [.one .any] K) = s_hash_Table_walk a0 a1 w K := by kernel_rfl
theorem ok_hash_Table_walk {a0 a1 w K} (h : s_hash_Table_walk a0 a1 w K) : c_hash_Table_walk a0 a1 w K :=
  fn_sound pok Try.func50 (fn := Try.f50) (c := bodyOf Try.f50) (nt := 6) (by kernel_rfl) (by kernel_rfl) (rs := [.tmp 4]) (by kernel_rfl) [.one .any] K (.seq .leaf (.seq .leaf .leaf)) [(Value.pointer a0), (Value.int .i64 a1)] (by kernel_rfl) w ((e_hash_Table_walk a0 a1 w K).mpr h)

/-- (*goosepond/hash.Table).All -/
def s_hash_Table_All (a0 : Option Addr) (w : World) (K : Value → World → Prop) : Prop :=
 (isOne (Value.pointer a0) = true ∧
 Al w (.cells ⟨[(Value.pointer a0)]⟩ 60) fun a3 w2 =>
 K (Value.func (.func 78) #[] #[(Value.pointer (some a3))]) w2)
theorem e_hash_Table_All (a0 : Option Addr) (w : World) (K : Value → World → Prop) : den Try.prog 4 (bodyOf Try.f51) none (.seq .leaf (.seq .leaf .leaf)) (argEnv 0 [(Value.pointer a0)]) [] w (retK Try.prog [.tmp 2] [.one .any] K) = s_hash_Table_All a0 w K := by kernel_rfl
theorem ok_hash_Table_All {a0 w K} (h : s_hash_Table_All a0 w K) : c_hash_Table_All a0 w K :=
  fn_sound pok Try.func51 (fn := Try.f51) (c := bodyOf Try.f51) (nt := 4) (by kernel_rfl) (by kernel_rfl) (rs := [.tmp 2]) (by kernel_rfl) [.one .any] K (.seq .leaf (.seq .leaf .leaf)) [(Value.pointer a0)] (by kernel_rfl) w ((e_hash_Table_All a0 w K).mpr h)

/-- goosepond/hash.home -/
def s_hash_home (a0 : ByteArray) (a1 : Int) (w : World) (K : Int → World → Prop) : Prop :=
 (LoopP (S := Int × Int × Unit) (fun s3 w4 next5 =>
 (bif (decide (s3.2.1 < (a0.size : Int))) then
 StrIx a0 s3.2.1 fun x6 =>
 next5 ((IntKind.u32.wrap ((xorI .u32 s3.1 (IntKind.u32.wrap x6)) * 16777619)), (IntKind.i64.wrap (s3.2.1 + 1)), ()) w4
 else
 (IntKind.u32.wrap a1) ≠ 0 ∧
 K (IntKind.i64.wrap (Int.tmod s3.1 (IntKind.u32.wrap a1))) w4)) (2166136261, 0, ()) w)
theorem e_hash_home (a0 : ByteArray) (a1 : Int) (w : World) (K : Int → World → Prop) : den Try.prog 25 (bodyOf Try.f76) none (.seq .leaf (.seq .leaf (.seq (.seq .leaf (.blk (.loop [(5, (.int .u32)), (9, (.int .i64))] (.seq .leaf (.seq (.cond .leaf .leaf) (.seq (.blk (.seq .leaf .leaf)) .leaf)))))) (.seq .leaf .leaf)))) (argEnv 0 [(Value.string a0), (Value.int .i64 a1)]) [] w (retK Try.prog [.tmp 4] [.one (.int .i64)] K) = s_hash_home a0 a1 w K := by kernel_rfl
theorem ok_hash_home {a0 a1 w K} (h : s_hash_home a0 a1 w K) : c_hash_home a0 a1 w K :=
  fn_sound pok Try.func76 (fn := Try.f76) (c := bodyOf Try.f76) (nt := 25) (by kernel_rfl) (by kernel_rfl) (rs := [.tmp 4]) (by kernel_rfl) [.one (.int .i64)] K (.seq .leaf (.seq .leaf (.seq (.seq .leaf (.blk (.loop [(5, (.int .u32)), (9, (.int .i64))] (.seq .leaf (.seq (.cond .leaf .leaf) (.seq (.blk (.seq .leaf .leaf)) .leaf)))))) (.seq .leaf .leaf)))) [(Value.string a0), (Value.int .i64 a1)] (by kernel_rfl) w ((e_hash_home a0 a1 w K).mpr h)

/-- (*goosepond/hash.Table).walk$1 -/
def s_hash_Table_walk_1 (a0 : Value) (f0 : Addr) (f1 : Addr) (w : World) (K : World → Prop) : Prop :=
 (Ld .ptr w f0 fun x2 =>
 ∃ a3 : Addr, x2 = some a3 ∧
 Ld .slice w a3 fun x4 =>
 LoopP (S := Int × Unit) (fun s5 w6 next7 =>
 (bif (decide (s5.1 < (x4.len : Int))) then
 Ld (.int .i64) w6.drew f1 fun x8 =>
 Ld .ptr w6.drew f0 fun x9 =>
 ∃ a10 : Addr, x9 = some a10 ∧
 Ld .slice w6.drew a10 fun x11 =>
 (x11.len : Int) ≠ 0 ∧
 CallV Try.prog [.one .bool] a0 [(Value.int .i64 (Int.tmod (IntKind.i64.wrap (x8 + s5.1)) (x11.len : Int)))] w6.drew fun r12 w13 =>
 ∃ r14 : Bool, r12 = (Value.bool r14) ∧
 (bif (!r14) then
 K w13
 else
 next7 ((IntKind.i64.wrap (s5.1 + 1)), ()) w13)
 else
 K w6)) (0, ()) w)
theorem e_hash_Table_walk_1 (a0 : Value) (f0 : Addr) (f1 : Addr) (w : World) (K : World → Prop) : den Try.prog 26 (bodyOf Try.f77) none (.seq .leaf (.blk (.loop [(10, (.int .i64))] (.seq .leaf (.seq (.cond .leaf .leaf) (.seq (.blk (.seq .leaf (.seq .leaf (.cond .leaf .leaf)))) .leaf)))))) (argEnv 0 [a0, (Value.pointer (some f0)), (Value.pointer (some f1))]) [] w (retK Try.prog [] [] K) = s_hash_Table_walk_1 a0 f0 f1 w K := by kernel_rfl
theorem ok_hash_Table_walk_1 {a0 f0 f1 w K} (h : s_hash_Table_walk_1 a0 f0 f1 w K) : c_hash_Table_walk_1 a0 f0 f1 w K :=
  fn_sound pok Try.func77 (fn := Try.f77) (c := bodyOf Try.f77) (nt := 26) (by kernel_rfl) (by kernel_rfl) (rs := []) (by kernel_rfl) [] K (.seq .leaf (.blk (.loop [(10, (.int .i64))] (.seq .leaf (.seq (.cond .leaf .leaf) (.seq (.blk (.seq .leaf (.seq .leaf (.cond .leaf .leaf)))) .leaf)))))) [a0, (Value.pointer (some f0)), (Value.pointer (some f1))] (by kernel_rfl) w ((e_hash_Table_walk_1 a0 f0 f1 w K).mpr h)

/-- (*goosepond/hash.Table).All$1 -/
def s_hash_Table_All_1 (a0 : Value) (f0 : Addr) (w : World) (K : World → Prop) : Prop :=
 (Ld .ptr w f0 fun x2 =>
 c_hash_Table_ready x2 w fun r3 w4 =>
 (bif (!r3) then
 K w4
 else
 Ld .ptr w4 f0 fun x5 =>
 ∃ a6 : Addr, x5 = some a6 ∧
 Ld .slice w4 a6 fun x7 =>
 c_slices_Clone_hash_entry_hash_entry x7 w4 fun r8 w9 =>
 c_slices_DeleteFunc_hash_entry_hash_entry r8 (Value.func (.func 81) #[] #[]) w9 fun r10 w11 =>
 c_slices_SortFunc_hash_entry_hash_entry r10 (Value.func (.func 83) #[] #[]) w11 fun w12 =>
 LoopP (S := Int × Unit) (fun s13 w14 next15 =>
 (bif (decide (s13.1 < (r10.len : Int))) then
 AtIx r10 3 s13.1 fun a16 =>
 Ld .str w14 (a16.add 0) fun x17 =>
 Ld (.int .i64) w14 (a16.add 1) fun x18 =>
 Ld .bool w14 (a16.add 2) fun x19 =>
 Al w14 (.cells ⟨[(Value.string (bs [])), (Value.int .i64 0), (Value.bool false)]⟩ 100) fun a21 w20 =>
 StN [(Value.string x17), (Value.int .i64 x18), (Value.bool x19)] w20 a21 0 fun w22 =>
 Ld .str w22 a21 fun x23 =>
 Ld (.int .i64) w22 (a21.add 1) fun x24 =>
 CallV Try.prog [.one .bool] a0 [(Value.string x23), (Value.int .i64 x24)] w22 fun r25 w26 =>
 ∃ r27 : Bool, r25 = (Value.bool r27) ∧
 (bif (!r27) then
 K w26
 else
 next15 ((IntKind.i64.wrap (s13.1 + 1)), ()) w26)
 else
 K w14)) (0, ()) w12))
theorem e_hash_Table_All_1 (a0 : Value) (f0 : Addr) (w : World) (K : World → Prop) : den Try.prog 31 (bodyOf Try.f78) none (.seq (.seq .leaf (.cond .leaf .leaf)) (.seq .leaf (.seq .leaf (.seq .leaf (.blk (.loop [(19, (.int .i64))] (.seq .leaf (.seq (.cond .leaf .leaf) (.seq (.blk (.seq .leaf (.seq .leaf (.cond .leaf .leaf)))) .leaf))))))))) (argEnv 0 [a0, (Value.pointer (some f0))]) [] w (retK Try.prog [] [] K) = s_hash_Table_All_1 a0 f0 w K := by kernel_rfl
theorem ok_hash_Table_All_1 {a0 f0 w K} (h : s_hash_Table_All_1 a0 f0 w K) : c_hash_Table_All_1 a0 f0 w K :=
  fn_sound pok Try.func78 (fn := Try.f78) (c := bodyOf Try.f78) (nt := 31) (by kernel_rfl) (by kernel_rfl) (rs := []) (by kernel_rfl) [] K (.seq (.seq .leaf (.cond .leaf .leaf)) (.seq .leaf (.seq .leaf (.seq .leaf (.blk (.loop [(19, (.int .i64))] (.seq .leaf (.seq (.cond .leaf .leaf) (.seq (.blk (.seq .leaf (.seq .leaf (.cond .leaf .leaf)))) .leaf))))))))) [a0, (Value.pointer (some f0))] (by kernel_rfl) w ((e_hash_Table_All_1 a0 f0 w K).mpr h)

/-- slices.DeleteFunc[[]goosepond/hash.entry,goosepond/hash.entry] -/
def s_slices_DeleteFunc_hash_entry_hash_entry (a0 : SliceV) (a1 : Value) (w : World) (K : SliceV → World → Prop) : Prop :=
 (c_slices_IndexFunc_hash_entry_hash_entry a0 a1 w fun r3 w4 =>
 (bif (r3 == (-1)) then
 K a0 w4
 else
 LoopP (S := Int × Int × Unit) (fun s5 w6 next7 =>
 (bif (decide (s5.2.1 < (a0.len : Int))) then
 let J8 : Int → World → Prop := fun j9 w10 =>
 (next7 (j9, (IntKind.i64.wrap (s5.2.1 + 1)), ()) w10)
 AtIx a0 3 s5.2.1 fun a11 =>
 Ld .str w6 (a11.add 0) fun x12 =>
 Ld (.int .i64) w6 (a11.add 1) fun x13 =>
 Ld .bool w6 (a11.add 2) fun x14 =>
 Al w6 (.cells ⟨[(Value.string (bs [])), (Value.int .i64 0), (Value.bool false)]⟩ 100) fun a16 w15 =>
 StN [(Value.string x12), (Value.int .i64 x13), (Value.bool x14)] w15 a16 0 fun w17 =>
 Ld .str w17 (a16.add 0) fun x18 =>
 Ld (.int .i64) w17 (a16.add 1) fun x19 =>
 Ld .bool w17 (a16.add 2) fun x20 =>
 CallV Try.prog [.one .bool] a1 [(Value.agg ⟨[(Value.string x18), (Value.int .i64 x19), (Value.bool x20)]⟩)] w17 fun r21 w22 =>
 ∃ r23 : Bool, r21 = (Value.bool r23) ∧
 (bif (!r23) then
 Ld .str w22 (a16.add 0) fun x24 =>
 Ld (.int .i64) w22 (a16.add 1) fun x25 =>
 Ld .bool w22 (a16.add 2) fun x26 =>
 AtIx a0 3 s5.1 fun a27 =>
 StN [(Value.string x24), (Value.int .i64 x25), (Value.bool x26)] w22 a27 0 fun w28 =>
 J8 (IntKind.i64.wrap (s5.1 + 1)) w28
 else
 J8 s5.1 w22)
 else
 SubSl a0 3 s5.1 (a0.len : Int) fun s29 =>
 ClearSl [(Value.string (bs [])), (Value.int .i64 0), (Value.bool false)] s29 w6 fun w30 =>
 SubSl a0 3 0 s5.1 fun s31 =>
 K s31 w30)) (r3, (IntKind.i64.wrap (r3 + 1)), ()) w4))
theorem e_slices_DeleteFunc_hash_entry_hash_entry (a0 : SliceV) (a1 : Value) (w : World) (K : SliceV → World → Prop) : den Try.prog 42 (bodyOf Try.f79) none (.seq .leaf (.seq .leaf (.seq (.seq .leaf (.cond (.seq .leaf .leaf) .leaf)) (.seq (.seq .leaf (.blk (.loop [(5, (.int .i64)), (6, (.int .i64))] (.seq (.seq .leaf (.cond .leaf .leaf)) (.seq (.blk (.seq .leaf (.seq .leaf (.cond (.seq .leaf .leaf) .leaf)))) .leaf))))) (.seq .leaf (.seq .leaf .leaf)))))) (argEnv 0 [(Value.slice a0.a a0.len a0.cap), a1]) [] w (retK Try.prog [.tmp 4] [.one .slice] K) = s_slices_DeleteFunc_hash_entry_hash_entry a0 a1 w K := by kernel_rfl
theorem ok_slices_DeleteFunc_hash_entry_hash_entry {a0 a1 w K} (h : s_slices_DeleteFunc_hash_entry_hash_entry a0 a1 w K) : c_slices_DeleteFunc_hash_entry_hash_entry a0 a1 w K :=
  fn_sound pok Try.func79 (fn := Try.f79) (c := bodyOf Try.f79) (nt := 42) (by kernel_rfl) (by kernel_rfl) (rs := [.tmp 4]) (by kernel_rfl) [.one .slice] K (.seq .leaf (.seq .leaf (.seq (.seq .leaf (.cond (.seq .leaf .leaf) .leaf)) (.seq (.seq .leaf (.blk (.loop [(5, (.int .i64)), (6, (.int .i64))] (.seq (.seq .leaf (.cond .leaf .leaf)) (.seq (.blk (.seq .leaf (.seq .leaf (.cond (.seq .leaf .leaf) .leaf)))) .leaf))))) (.seq .leaf (.seq .leaf .leaf)))))) [(Value.slice a0.a a0.len a0.cap), a1] (by kernel_rfl) w ((e_slices_DeleteFunc_hash_entry_hash_entry a0 a1 w K).mpr h)

/-- slices.Clone[[]goosepond/hash.entry,goosepond/hash.entry] -/
def s_slices_Clone_hash_entry_hash_entry (a0 : SliceV) (w : World) (K : SliceV → World → Prop) : Prop :=
 ((bif (Option.isNone a0.a) then
 K ⟨none, 0, 0⟩ w
 else
 Al w (.cells ⟨[]⟩ 100) fun a3 w2 =>
 AppSl 100 3 32 [(Value.string (bs [])), (Value.int .i64 0), (Value.bool false)] ⟨(some a3), 0, 0⟩ a0 w2 fun s4 w5 =>
 K s4 w5))
theorem e_slices_Clone_hash_entry_hash_entry (a0 : SliceV) (w : World) (K : SliceV → World → Prop) : den Try.prog 8 (bodyOf Try.f80) none (.seq .leaf (.seq (.seq .leaf (.cond (.seq .leaf .leaf) .leaf)) (.seq .leaf .leaf))) (argEnv 0 [(Value.slice a0.a a0.len a0.cap)]) [] w (retK Try.prog [.tmp 2] [.one .slice] K) = s_slices_Clone_hash_entry_hash_entry a0 w K := by kernel_rfl
theorem ok_slices_Clone_hash_entry_hash_entry {a0 w K} (h : s_slices_Clone_hash_entry_hash_entry a0 w K) : c_slices_Clone_hash_entry_hash_entry a0 w K :=
  fn_sound pok Try.func80 (fn := Try.f80) (c := bodyOf Try.f80) (nt := 8) (by kernel_rfl) (by kernel_rfl) (rs := [.tmp 2]) (by kernel_rfl) [.one .slice] K (.seq .leaf (.seq (.seq .leaf (.cond (.seq .leaf .leaf) .leaf)) (.seq .leaf .leaf))) [(Value.slice a0.a a0.len a0.cap)] (by kernel_rfl) w ((e_slices_Clone_hash_entry_hash_entry a0 w K).mpr h)

/-- (*goosepond/hash.Table).All$1$1 -/
def s_hash_Table_All_1_1 (a0_0 : ByteArray) (a0_1 : Int) (a0_2 : Bool) (w : World) (K : Bool → World → Prop) : Prop :=
 (Al w (.cells ⟨[(Value.string a0_0), (Value.int .i64 a0_1), (Value.bool a0_2)]⟩ 100) fun a3 w2 =>
 Ld .bool w2 (a3.add 2) fun x4 =>
 K (!x4) w2)
theorem e_hash_Table_All_1_1 (a0_0 : ByteArray) (a0_1 : Int) (a0_2 : Bool) (w : World) (K : Bool → World → Prop) : den Try.prog 6 (bodyOf Try.f81) none (.seq .leaf (.seq .leaf .leaf)) (argEnv 0 [(Value.agg ⟨[(Value.string a0_0), (Value.int .i64 a0_1), (Value.bool a0_2)]⟩)]) [] w (retK Try.prog [.tmp 2] [.one .bool] K) = s_hash_Table_All_1_1 a0_0 a0_1 a0_2 w K := by kernel_rfl
theorem ok_hash_Table_All_1_1 {a0_0 a0_1 a0_2 w K} (h : s_hash_Table_All_1_1 a0_0 a0_1 a0_2 w K) : c_hash_Table_All_1_1 a0_0 a0_1 a0_2 w K :=
  fn_sound pok Try.func81 (fn := Try.f81) (c := bodyOf Try.f81) (nt := 6) (by kernel_rfl) (by kernel_rfl) (rs := [.tmp 2]) (by kernel_rfl) [.one .bool] K (.seq .leaf (.seq .leaf .leaf)) [(Value.agg ⟨[(Value.string a0_0), (Value.int .i64 a0_1), (Value.bool a0_2)]⟩)] (by kernel_rfl) w ((e_hash_Table_All_1_1 a0_0 a0_1 a0_2 w K).mpr h)

/-- slices.SortFunc[[]goosepond/hash.entry,goosepond/hash.entry] -/
def s_slices_SortFunc_hash_entry_hash_entry (a0 : SliceV) (a1 : Value) (w : World) (K : World → Prop) : Prop :=
 (c_math_bits_Len (IntKind.u64.wrap (a0.len : Int)) w fun r3 w4 =>
 c_slices_pdqsortCmpFunc_hash_entry a0 0 (a0.len : Int) r3 a1 w4 fun w5 =>
 K w5)
theorem e_slices_SortFunc_hash_entry_hash_entry (a0 : SliceV) (a1 : Value) (w : World) (K : World → Prop) : den Try.prog 14 (bodyOf Try.f82) none (.seq .leaf .leaf) (argEnv 0 [(Value.slice a0.a a0.len a0.cap), a1]) [] w (retK Try.prog [] [] K) = s_slices_SortFunc_hash_entry_hash_entry a0 a1 w K := by kernel_rfl
theorem ok_slices_SortFunc_hash_entry_hash_entry {a0 a1 w K} (h : s_slices_SortFunc_hash_entry_hash_entry a0 a1 w K) : c_slices_SortFunc_hash_entry_hash_entry a0 a1 w K :=
  fn_sound pok Try.func82 (fn := Try.f82) (c := bodyOf Try.f82) (nt := 14) (by kernel_rfl) (by kernel_rfl) (rs := []) (by kernel_rfl) [] K (.seq .leaf .leaf) [(Value.slice a0.a a0.len a0.cap), a1] (by kernel_rfl) w ((e_slices_SortFunc_hash_entry_hash_entry a0 a1 w K).mpr h)

/-- (*goosepond/hash.Table).All$1$2 -/
def s_hash_Table_All_1_2 (a0_0 : ByteArray) (a0_1 : Int) (a0_2 : Bool) (a1_0 : ByteArray) (a1_1 : Int) (a1_2 : Bool) (w : World) (K : Int → World → Prop) : Prop :=
 (Al w (.cells ⟨[(Value.string a0_0), (Value.int .i64 a0_1), (Value.bool a0_2)]⟩ 100) fun a4 w3 =>
 Al w3 (.cells ⟨[(Value.string a1_0), (Value.int .i64 a1_1), (Value.bool a1_2)]⟩ 100) fun a6 w5 =>
 Ld .str w5 a4 fun x7 =>
 Ld .str w5 a6 fun x8 =>
 c_cmp_Compare_string x7 x8 w5 fun r9 w10 =>
 K r9 w10)
theorem e_hash_Table_All_1_2 (a0_0 : ByteArray) (a0_1 : Int) (a0_2 : Bool) (a1_0 : ByteArray) (a1_1 : Int) (a1_2 : Bool) (w : World) (K : Int → World → Prop) : den Try.prog 10 (bodyOf Try.f83) none (.seq .leaf (.seq .leaf .leaf)) (argEnv 0 [(Value.agg ⟨[(Value.string a0_0), (Value.int .i64 a0_1), (Value.bool a0_2)]⟩), (Value.agg ⟨[(Value.string a1_0), (Value.int .i64 a1_1), (Value.bool a1_2)]⟩)]) [] w (retK Try.prog [.tmp 4] [.one (.int .i64)] K) = s_hash_Table_All_1_2 a0_0 a0_1 a0_2 a1_0 a1_1 a1_2 w K := by kernel_rfl
theorem ok_hash_Table_All_1_2 {a0_0 a0_1 a0_2 a1_0 a1_1 a1_2 w K} (h : s_hash_Table_All_1_2 a0_0 a0_1 a0_2 a1_0 a1_1 a1_2 w K) : c_hash_Table_All_1_2 a0_0 a0_1 a0_2 a1_0 a1_1 a1_2 w K :=
  fn_sound pok Try.func83 (fn := Try.f83) (c := bodyOf Try.f83) (nt := 10) (by kernel_rfl) (by kernel_rfl) (rs := [.tmp 4]) (by kernel_rfl) [.one (.int .i64)] K (.seq .leaf (.seq .leaf .leaf)) [(Value.agg ⟨[(Value.string a0_0), (Value.int .i64 a0_1), (Value.bool a0_2)]⟩), (Value.agg ⟨[(Value.string a1_0), (Value.int .i64 a1_1), (Value.bool a1_2)]⟩)] (by kernel_rfl) w ((e_hash_Table_All_1_2 a0_0 a0_1 a0_2 a1_0 a1_1 a1_2 w K).mpr h)

/-- cmp.Compare[string] -/
def s_cmp_Compare_string (a0 : ByteArray) (a1 : ByteArray) (w : World) (K : Int → World → Prop) : Prop :=
 (c_cmp_isNaN_string a0 w fun r3 w4 =>
 c_cmp_isNaN_string a1 w4 fun r5 w6 =>
 (bif r3 then
 (bif r5 then
 K 0 w6
 else
 K (-1) w6)
 else
 (bif r5 then
 K 1 w6
 else
 (bif (strLt a0 a1) then
 K (-1) w6
 else
 (bif (!(strLt a0 a1 || strEq a0 a1)) then
 K 1 w6
 else
 K 0 w6)))))
theorem e_cmp_Compare_string (a0 : ByteArray) (a1 : ByteArray) (w : World) (K : Int → World → Prop) : den Try.prog 20 (bodyOf Try.f84) none (.seq .leaf (.seq .leaf (.seq .leaf (.seq (.seq .leaf (.cond (.seq (.seq .leaf (.cond (.seq .leaf .leaf) .leaf)) (.seq .leaf .leaf)) .leaf)) (.seq (.seq .leaf (.cond (.seq .leaf .leaf) .leaf)) (.seq (.seq .leaf (.cond (.seq .leaf .leaf) .leaf)) (.seq (.seq .leaf (.cond (.seq .leaf .leaf) .leaf)) (.seq .leaf .leaf)))))))) (argEnv 0 [(Value.string a0), (Value.string a1)]) [] w (retK Try.prog [.tmp 4] [.one (.int .i64)] K) = s_cmp_Compare_string a0 a1 w K := by kernel_rfl
theorem ok_cmp_Compare_string {a0 a1 w K} (h : s_cmp_Compare_string a0 a1 w K) : c_cmp_Compare_string a0 a1 w K :=
  fn_sound pok Try.func84 (fn := Try.f84) (c := bodyOf Try.f84) (nt := 20) (by kernel_rfl) (by kernel_rfl) (rs := [.tmp 4]) (by kernel_rfl) [.one (.int .i64)] K (.seq .leaf (.seq .leaf (.seq .leaf (.seq (.seq .leaf (.cond (.seq (.seq .leaf (.cond (.seq .leaf .leaf) .leaf)) (.seq .leaf .leaf)) .leaf)) (.seq (.seq .leaf (.cond (.seq .leaf .leaf) .leaf)) (.seq (.seq .leaf (.cond (.seq .leaf .leaf) .leaf)) (.seq (.seq .leaf (.cond (.seq .leaf .leaf) .leaf)) (.seq .leaf .leaf)))))))) [(Value.string a0), (Value.string a1)] (by kernel_rfl) w ((e_cmp_Compare_string a0 a1 w K).mpr h)

/-- slices.IndexFunc[[]goosepond/hash.entry,goosepond/hash.entry] -/
def s_slices_IndexFunc_hash_entry_hash_entry (a0 : SliceV) (a1 : Value) (w : World) (K : Int → World → Prop) : Prop :=
 (LoopP (S := Int × Unit) (fun s3 w4 next5 =>
 (bif (decide (s3.1 < (a0.len : Int))) then
 AtIx a0 3 s3.1 fun a6 =>
 Ld .str w4 (a6.add 0) fun x7 =>
 Ld (.int .i64) w4 (a6.add 1) fun x8 =>
 Ld .bool w4 (a6.add 2) fun x9 =>
 CallV Try.prog [.one .bool] a1 [(Value.agg ⟨[(Value.string x7), (Value.int .i64 x8), (Value.bool x9)]⟩)] w4 fun r10 w11 =>
 ∃ r12 : Bool, r10 = (Value.bool r12) ∧
 (bif r12 then
 K s3.1 w11
 else
 next5 ((IntKind.i64.wrap (s3.1 + 1)), ()) w11)
 else
 K (-1) w4)) (0, ()) w)
theorem e_slices_IndexFunc_hash_entry_hash_entry (a0 : SliceV) (a1 : Value) (w : World) (K : Int → World → Prop) : den Try.prog 19 (bodyOf Try.f111) none (.seq .leaf (.seq (.seq .leaf (.blk (.loop [(8, (.int .i64))] (.seq .leaf (.seq (.cond .leaf .leaf) (.seq (.blk (.seq .leaf (.seq .leaf (.cond (.seq .leaf .leaf) .leaf)))) .leaf)))))) (.seq .leaf .leaf))) (argEnv 0 [(Value.slice a0.a a0.len a0.cap), a1]) [] w (retK Try.prog [.tmp 4] [.one (.int .i64)] K) = s_slices_IndexFunc_hash_entry_hash_entry a0 a1 w K := by kernel_rfl
theorem ok_slices_IndexFunc_hash_entry_hash_entry {a0 a1 w K} (h : s_slices_IndexFunc_hash_entry_hash_entry a0 a1 w K) : c_slices_IndexFunc_hash_entry_hash_entry a0 a1 w K :=
  fn_sound pok Try.func111 (fn := Try.f111) (c := bodyOf Try.f111) (nt := 19) (by kernel_rfl) (by kernel_rfl) (rs := [.tmp 4]) (by kernel_rfl) [.one (.int .i64)] K (.seq .leaf (.seq (.seq .leaf (.blk (.loop [(8, (.int .i64))] (.seq .leaf (.seq (.cond .leaf .leaf) (.seq (.blk (.seq .leaf (.seq .leaf (.cond (.seq .leaf .leaf) .leaf)))) .leaf)))))) (.seq .leaf .leaf))) [(Value.slice a0.a a0.len a0.cap), a1] (by kernel_rfl) w ((e_slices_IndexFunc_hash_entry_hash_entry a0 a1 w K).mpr h)

/-- slices.pdqsortCmpFunc[goosepond/hash.entry] -/
def s_slices_pdqsortCmpFunc_hash_entry (a0 : SliceV) (a1 : Int) (a2 : Int) (a3 : Int) (a4 : Value) (w : World) (K : World → Prop) : Prop :=
 (LoopP (S := Int × Int × Int × Bool × Bool × Unit) (fun s6 w7 next8 =>
 (bif (decide ((IntKind.i64.wrap (s6.2.1 - s6.1)) ≤ 12)) then
 c_slices_insertionSortCmpFunc_hash_entry a0 s6.1 s6.2.1 a4 w7 fun w9 =>
 K w9
 else
 (bif (s6.2.2.1 == 0) then
 c_slices_heapSortCmpFunc_hash_entry a0 s6.1 s6.2.1 a4 w7 fun w10 =>
 K w10
 else
 let J11 : Int → World → Prop := fun j12 w13 =>
 (c_slices_choosePivotCmpFunc_hash_entry a0 s6.1 s6.2.1 a4 w13 fun r14 r15 w16 =>
 let J17 : Int → Int → World → Prop := fun j18 j19 w20 =>
 (let J21 : World → Prop := fun w22 =>
 (let J23 : Bool → World → Prop := fun j24 w25 =>
 ((bif j24 then
 c_slices_partitionEqualCmpFunc_hash_entry a0 s6.1 s6.2.1 j18 a4 w25 fun r26 w27 =>
 next8 (r26, s6.2.1, j12, s6.2.2.2.1, s6.2.2.2.2.1, ()) w27
 else
 c_slices_partitionCmpFunc_hash_entry a0 s6.1 s6.2.1 j18 a4 w25 fun r28 r29 w30 =>
 (8 : Int) ≠ 0 ∧
 (bif (decide ((IntKind.i64.wrap (r28 - s6.1)) < (IntKind.i64.wrap (s6.2.1 - r28)))) then
 c_slices_pdqsortCmpFunc_hash_entry a0 s6.1 r28 j12 a4 w30 fun w31 =>
 next8 ((IntKind.i64.wrap (r28 + 1)), s6.2.1, j12, (decide ((IntKind.i64.wrap (r28 - s6.1)) ≥ (IntKind.i64.wrap (Int.tdiv (IntKind.i64.wrap (s6.2.1 - s6.1)) 8)))), r29, ()) w31
 else
 c_slices_pdqsortCmpFunc_hash_entry a0 (IntKind.i64.wrap (r28 + 1)) s6.2.1 j12 a4 w30 fun w32 =>
 next8 (s6.1, r28, j12, (decide ((IntKind.i64.wrap (s6.2.1 - r28)) ≥ (IntKind.i64.wrap (Int.tdiv (IntKind.i64.wrap (s6.2.1 - s6.1)) 8)))), r29, ()) w32)))
 (bif (decide (s6.1 > 0)) then
 AtIx a0 3 (IntKind.i64.wrap (s6.1 - 1)) fun a33 =>
 Ld .str w22.drew (a33.add 0) fun x34 =>
 Ld (.int .i64) w22.drew (a33.add 1) fun x35 =>
 Ld .bool w22.drew (a33.add 2) fun x36 =>
 AtIx a0 3 j18 fun a37 =>
 Ld .str w22.drew (a37.add 0) fun x38 =>
 Ld (.int .i64) w22.drew (a37.add 1) fun x39 =>
 Ld .bool w22.drew (a37.add 2) fun x40 =>
 CallV Try.prog [.one (.int .i64)] a4 [(Value.agg ⟨[(Value.string x34), (Value.int .i64 x35), (Value.bool x36)]⟩), (Value.agg ⟨[(Value.string x38), (Value.int .i64 x39), (Value.bool x40)]⟩)] w22.drew fun r41 w42 =>
 ∃ r43 : Int, r41 = (Value.int .i64 r43) ∧
 J23 (!(decide (r43 < 0))) w42
 else
 J23 false w22.drew))
 let J44 : Bool → Prop := fun j45 =>
 ((bif j45 then
 c_slices_partialInsertionSortCmpFunc_hash_entry a0 s6.1 s6.2.1 a4 w20 fun r46 w47 =>
 (bif r46 then
 K w47
 else
 J21 w47)
 else
 J21 w20))
 (bif s6.2.2.2.1 then
 (bif s6.2.2.2.2.1 then
 J44 (j19 == 1)
 else
 J44 false)
 else
 J44 false))
 (bif (r15 == 2) then
 c_slices_reverseRangeCmpFunc_hash_entry a0 s6.1 s6.2.1 a4 w16 fun w48 =>
 J17 (IntKind.i64.wrap ((IntKind.i64.wrap (s6.2.1 - 1)) - (IntKind.i64.wrap (r14 - s6.1)))) 1 w48
 else
 J17 r14 r15 w16))
 (bif (!s6.2.2.2.1) then
 c_slices_breakPatternsCmpFunc_hash_entry a0 s6.1 s6.2.1 a4 w7 fun w49 =>
 J11 (IntKind.i64.wrap (s6.2.2.1 - 1)) w49
 else
 J11 s6.2.2.1 w7)))) (a1, a2, a3, true, true, ()) w)
theorem e_slices_pdqsortCmpFunc_hash_entry (a0 : SliceV) (a1 : Int) (a2 : Int) (a3 : Int) (a4 : Value) (w : World) (K : World → Prop) : den Try.prog 148 (bodyOf Try.f112) none (.seq .leaf (.seq .leaf (.blk (.loop [(1, (.int .i64)), (2, (.int .i64)), (3, (.int .i64)), (10, .bool), (11, .bool)] (.blk (.seq .leaf (.seq (.seq .leaf (.cond (.seq .leaf .leaf) .leaf)) (.seq (.seq .leaf (.cond (.seq .leaf .leaf) .leaf)) (.seq (.seq .leaf (.cond (.seq .leaf .leaf) .leaf)) (.seq .leaf (.seq (.seq .leaf (.cond (.seq .leaf (.seq .leaf .leaf)) .leaf)) (.seq (.seq .leaf (.cond (.seq .leaf (.cond .leaf .leaf)) .leaf)) (.seq (.seq .leaf (.cond (.seq .leaf (.seq .leaf .leaf)) .leaf)) (.seq .leaf (.seq .leaf (.seq .leaf (.seq .leaf (.seq .leaf (.cond (.seq .leaf (.seq .leaf .leaf)) (.seq .leaf (.seq .leaf .leaf))))))))))))))))))))) (argEnv 0 [(Value.slice a0.a a0.len a0.cap), (Value.int .i64 a1), (Value.int .i64 a2), (Value.int .i64 a3), a4]) [] w (retK Try.prog [] [] K) = s_slices_pdqsortCmpFunc_hash_entry a0 a1 a2 a3 a4 w K := by kernel_rfl
theorem ok_slices_pdqsortCmpFunc_hash_entry {a0 a1 a2 a3 a4 w K} (h : s_slices_pdqsortCmpFunc_hash_entry a0 a1 a2 a3 a4 w K) : c_slices_pdqsortCmpFunc_hash_entry a0 a1 a2 a3 a4 w K :=
  fn_sound pok Try.func112 (fn := Try.f112) (c := bodyOf Try.f112) (nt := 148) (by kernel_rfl) (by kernel_rfl) (rs := []) (by kernel_rfl) [] K (.seq .leaf (.seq .leaf (.blk (.loop [(1, (.int .i64)), (2, (.int .i64)), (3, (.int .i64)), (10, .bool), (11, .bool)] (.blk (.seq .leaf (.seq (.seq .leaf (.cond (.seq .leaf .leaf) .leaf)) (.seq (.seq .leaf (.cond (.seq .leaf .leaf) .leaf)) (.seq (.seq .leaf (.cond (.seq .leaf .leaf) .leaf)) (.seq .leaf (.seq (.seq .leaf (.cond (.seq .leaf (.seq .leaf .leaf)) .leaf)) (.seq (.seq .leaf (.cond (.seq .leaf (.cond .leaf .leaf)) .leaf)) (.seq (.seq .leaf (.cond (.seq .leaf (.seq .leaf .leaf)) .leaf)) (.seq .leaf (.seq .leaf (.seq .leaf (.seq .leaf (.seq .leaf (.cond (.seq .leaf (.seq .leaf .leaf)) (.seq .leaf (.seq .leaf .leaf))))))))))))))))))))) [(Value.slice a0.a a0.len a0.cap), (Value.int .i64 a1), (Value.int .i64 a2), (Value.int .i64 a3), a4] (by kernel_rfl) w ((e_slices_pdqsortCmpFunc_hash_entry a0 a1 a2 a3 a4 w K).mpr h)

/-- math/bits.Len -/
def s_math_bits_Len (a0 : Int) (w : World) (K : Int → World → Prop) : Prop :=
 (c_math_bits_Len64 a0 w fun r2 w3 =>
 K r2 w3)
theorem e_math_bits_Len (a0 : Int) (w : World) (K : Int → World → Prop) : den Try.prog 8 (bodyOf Try.f113) none (.seq .leaf (.seq (.cond .leaf .leaf) (.seq .leaf .leaf))) (argEnv 0 [(Value.int .u64 a0)]) [] w (retK Try.prog [.tmp 2] [.one (.int .i64)] K) = s_math_bits_Len a0 w K := by kernel_rfl
theorem ok_math_bits_Len {a0 w K} (h : s_math_bits_Len a0 w K) : c_math_bits_Len a0 w K :=
  fn_sound pok Try.func113 (fn := Try.f113) (c := bodyOf Try.f113) (nt := 8) (by kernel_rfl) (by kernel_rfl) (rs := [.tmp 2]) (by kernel_rfl) [.one (.int .i64)] K (.seq .leaf (.seq (.cond .leaf .leaf) (.seq .leaf .leaf))) [(Value.int .u64 a0)] (by kernel_rfl) w ((e_math_bits_Len a0 w K).mpr h)

/-- cmp.isNaN[string] -/
def s_cmp_isNaN_string (a0 : ByteArray) (w : World) (K : Bool → World → Prop) : Prop :=
 (K (!strEq a0 a0) w)
theorem e_cmp_isNaN_string (a0 : ByteArray) (w : World) (K : Bool → World → Prop) : den Try.prog 6 (bodyOf Try.f114) none (.seq .leaf (.seq .leaf .leaf)) (argEnv 0 [(Value.string a0)]) [] w (retK Try.prog [.tmp 2] [.one .bool] K) = s_cmp_isNaN_string a0 w K := by kernel_rfl
theorem ok_cmp_isNaN_string {a0 w K} (h : s_cmp_isNaN_string a0 w K) : c_cmp_isNaN_string a0 w K :=
  fn_sound pok Try.func114 (fn := Try.f114) (c := bodyOf Try.f114) (nt := 6) (by kernel_rfl) (by kernel_rfl) (rs := [.tmp 2]) (by kernel_rfl) [.one .bool] K (.seq .leaf (.seq .leaf .leaf)) [(Value.string a0)] (by kernel_rfl) w ((e_cmp_isNaN_string a0 w K).mpr h)

/-- slices.insertionSortCmpFunc[goosepond/hash.entry] -/
def s_slices_insertionSortCmpFunc_hash_entry (a0 : SliceV) (a1 : Int) (a2 : Int) (a3 : Value) (w : World) (K : World → Prop) : Prop :=
 (LoopP (S := Int × Unit) (fun s5 w6 next7 =>
 (bif (decide (s5.1 < a2)) then
 LoopP (S := Int × Unit) (fun s8 w9 next10 =>
 let J11 : Bool → World → Prop := fun j12 w13 =>
 ((bif j12 then
 AtIx a0 3 (IntKind.i64.wrap (s8.1 - 1)) fun a14 =>
 Ld .str w13.drew (a14.add 0) fun x15 =>
 Ld (.int .i64) w13.drew (a14.add 1) fun x16 =>
 Ld .bool w13.drew (a14.add 2) fun x17 =>
 AtIx a0 3 s8.1 fun a18 =>
 Ld .str w13.drew (a18.add 0) fun x19 =>
 Ld (.int .i64) w13.drew (a18.add 1) fun x20 =>
 Ld .bool w13.drew (a18.add 2) fun x21 =>
 AtIx a0 3 s8.1 fun a22 =>
 StN [(Value.string x15), (Value.int .i64 x16), (Value.bool x17)] w13.drew a22 0 fun w23 =>
 AtIx a0 3 (IntKind.i64.wrap (s8.1 - 1)) fun a24 =>
 StN [(Value.string x19), (Value.int .i64 x20), (Value.bool x21)] w23 a24 0 fun w25 =>
 next10 ((IntKind.i64.wrap (s8.1 - 1)), ()) w25
 else
 next7 ((IntKind.i64.wrap (s5.1 + 1)), ()) w13))
 (bif (decide (s8.1 > a1)) then
 AtIx a0 3 s8.1 fun a26 =>
 Ld .str w9.drew (a26.add 0) fun x27 =>
 Ld (.int .i64) w9.drew (a26.add 1) fun x28 =>
 Ld .bool w9.drew (a26.add 2) fun x29 =>
 AtIx a0 3 (IntKind.i64.wrap (s8.1 - 1)) fun a30 =>
 Ld .str w9.drew (a30.add 0) fun x31 =>
 Ld (.int .i64) w9.drew (a30.add 1) fun x32 =>
 Ld .bool w9.drew (a30.add 2) fun x33 =>
 CallV Try.prog [.one (.int .i64)] a3 [(Value.agg ⟨[(Value.string x27), (Value.int .i64 x28), (Value.bool x29)]⟩), (Value.agg ⟨[(Value.string x31), (Value.int .i64 x32), (Value.bool x33)]⟩)] w9.drew fun r34 w35 =>
 ∃ r36 : Int, r34 = (Value.int .i64 r36) ∧
 J11 (decide (r36 < 0)) w35
 else
 J11 false w9.drew)) (s5.1, ()) w6
 else
 K w6)) ((IntKind.i64.wrap (a1 + 1)), ()) w)
theorem e_slices_insertionSortCmpFunc_hash_entry (a0 : SliceV) (a1 : Int) (a2 : Int) (a3 : Value) (w : World) (K : World → Prop) : den Try.prog 53 (bodyOf Try.f124) none (.seq .leaf (.blk (.loop [(8, (.int .i64))] (.seq (.seq .leaf (.cond .leaf .leaf)) (.seq (.blk (.seq .leaf (.blk (.loop [(9, (.int .i64))] (.seq (.seq .leaf (.cond .leaf .leaf)) (.seq (.blk .leaf) .leaf)))))) .leaf))))) (argEnv 0 [(Value.slice a0.a a0.len a0.cap), (Value.int .i64 a1), (Value.int .i64 a2), a3]) [] w (retK Try.prog [] [] K) = s_slices_insertionSortCmpFunc_hash_entry a0 a1 a2 a3 w K := by kernel_rfl
theorem ok_slices_insertionSortCmpFunc_hash_entry {a0 a1 a2 a3 w K} (h : s_slices_insertionSortCmpFunc_hash_entry a0 a1 a2 a3 w K) : c_slices_insertionSortCmpFunc_hash_entry a0 a1 a2 a3 w K :=
  fn_sound pok Try.func124 (fn := Try.f124) (c := bodyOf Try.f124) (nt := 53) (by kernel_rfl) (by kernel_rfl) (rs := []) (by kernel_rfl) [] K (.seq .leaf (.blk (.loop [(8, (.int .i64))] (.seq (.seq .leaf (.cond .leaf .leaf)) (.seq (.blk (.seq .leaf (.blk (.loop [(9, (.int .i64))] (.seq (.seq .leaf (.cond .leaf .leaf)) (.seq (.blk .leaf) .leaf)))))) .leaf))))) [(Value.slice a0.a a0.len a0.cap), (Value.int .i64 a1), (Value.int .i64 a2), a3] (by kernel_rfl) w ((e_slices_insertionSortCmpFunc_hash_entry a0 a1 a2 a3 w K).mpr h)

/-- slices.heapSortCmpFunc[goosepond/hash.entry] -/
def s_slices_heapSortCmpFunc_hash_entry (a0 : SliceV) (a1 : Int) (a2 : Int) (a3 : Value) (w : World) (K : World → Prop) : Prop :=
 ((2 : Int) ≠ 0 ∧
 LoopP (S := Int × Unit) (fun s5 w6 next7 =>
 (bif (decide (s5.1 ≥ 0)) then
 c_slices_siftDownCmpFunc_hash_entry a0 s5.1 (IntKind.i64.wrap (a2 - a1)) a1 a3 w6 fun w8 =>
 next7 ((IntKind.i64.wrap (s5.1 - 1)), ()) w8
 else
 LoopP (S := Int × Unit) (fun s9 w10 next11 =>
 (bif (decide (s9.1 ≥ 0)) then
 AtIx a0 3 (IntKind.i64.wrap (a1 + s9.1)) fun a12 =>
 Ld .str w10.drew (a12.add 0) fun x13 =>
 Ld (.int .i64) w10.drew (a12.add 1) fun x14 =>
 Ld .bool w10.drew (a12.add 2) fun x15 =>
 AtIx a0 3 a1 fun a16 =>
 Ld .str w10.drew (a16.add 0) fun x17 =>
 Ld (.int .i64) w10.drew (a16.add 1) fun x18 =>
 Ld .bool w10.drew (a16.add 2) fun x19 =>
 AtIx a0 3 a1 fun a20 =>
 StN [(Value.string x13), (Value.int .i64 x14), (Value.bool x15)] w10.drew a20 0 fun w21 =>
 AtIx a0 3 (IntKind.i64.wrap (a1 + s9.1)) fun a22 =>
 StN [(Value.string x17), (Value.int .i64 x18), (Value.bool x19)] w21 a22 0 fun w23 =>
 c_slices_siftDownCmpFunc_hash_entry a0 0 s9.1 a1 a3 w23 fun w24 =>
 next11 ((IntKind.i64.wrap (s9.1 - 1)), ()) w24
 else
 K w10)) ((IntKind.i64.wrap ((IntKind.i64.wrap (a2 - a1)) - 1)), ()) w6)) ((IntKind.i64.wrap (Int.tdiv (IntKind.i64.wrap ((IntKind.i64.wrap (a2 - a1)) - 1)) 2)), ()) w)
theorem e_slices_heapSortCmpFunc_hash_entry (a0 : SliceV) (a1 : Int) (a2 : Int) (a3 : Value) (w : World) (K : World → Prop) : den Try.prog 60 (bodyOf Try.f125) none (.seq .leaf (.seq .leaf (.seq .leaf (.seq (.seq .leaf (.blk (.loop [(11, (.int .i64))] (.seq (.seq .leaf (.cond .leaf .leaf)) (.seq (.blk .leaf) .leaf))))) (.seq .leaf (.blk (.loop [(12, (.int .i64))] (.seq (.seq .leaf (.cond .leaf .leaf)) (.seq (.blk (.seq .leaf .leaf)) .leaf))))))))) (argEnv 0 [(Value.slice a0.a a0.len a0.cap), (Value.int .i64 a1), (Value.int .i64 a2), a3]) [] w (retK Try.prog [] [] K) = s_slices_heapSortCmpFunc_hash_entry a0 a1 a2 a3 w K := by kernel_rfl
theorem ok_slices_heapSortCmpFunc_hash_entry {a0 a1 a2 a3 w K} (h : s_slices_heapSortCmpFunc_hash_entry a0 a1 a2 a3 w K) : c_slices_heapSortCmpFunc_hash_entry a0 a1 a2 a3 w K :=
  fn_sound pok Try.func125 (fn := Try.f125) (c := bodyOf Try.f125) (nt := 60) (by kernel_rfl) (by kernel_rfl) (rs := []) (by kernel_rfl) [] K (.seq .leaf (.seq .leaf (.seq .leaf (.seq (.seq .leaf (.blk (.loop [(11, (.int .i64))] (.seq (.seq .leaf (.cond .leaf .leaf)) (.seq (.blk .leaf) .leaf))))) (.seq .leaf (.blk (.loop [(12, (.int .i64))] (.seq (.seq .leaf (.cond .leaf .leaf)) (.seq (.blk (.seq .leaf .leaf)) .leaf))))))))) [(Value.slice a0.a a0.len a0.cap), (Value.int .i64 a1), (Value.int .i64 a2), a3] (by kernel_rfl) w ((e_slices_heapSortCmpFunc_hash_entry a0 a1 a2 a3 w K).mpr h)

/-- slices.breakPatternsCmpFunc[goosepond/hash.entry] -/
def s_slices_breakPatternsCmpFunc_hash_entry (a0 : SliceV) (a1 : Int) (a2 : Int) (a3 : Value) (w : World) (K : World → Prop) : Prop :=
 ((bif (decide ((IntKind.i64.wrap (a2 - a1)) ≥ 8)) then
 Al w (.cells ⟨[(Value.int .u64 0)]⟩ 182) fun a6 w5 =>
 St w5 a6 (Value.int .u64 (IntKind.u64.wrap (IntKind.i64.wrap (a2 - a1)))) fun w7 =>
 c_slices_nextPowerOfTwo (IntKind.i64.wrap (a2 - a1)) w7 fun r8 w9 =>
 (4 : Int) ≠ 0 ∧
 LoopP (S := Int × Unit) (fun s10 w11 next12 =>
 (4 : Int) ≠ 0 ∧
 (bif (decide (s10.1 ≤ (IntKind.i64.wrap ((IntKind.i64.wrap (a1 + (IntKind.i64.wrap ((IntKind.i64.wrap (Int.tdiv (IntKind.i64.wrap (a2 - a1)) 4)) * 2)))) + 1)))) then
 c_slices_xorshift_Next (some a6) w11 fun r13 w14 =>
 let J15 : Int → Prop := fun j16 =>
 (AtIx a0 3 (IntKind.i64.wrap (a1 + j16)) fun a17 =>
 Ld .str w14.drew (a17.add 0) fun x18 =>
 Ld (.int .i64) w14.drew (a17.add 1) fun x19 =>
 Ld .bool w14.drew (a17.add 2) fun x20 =>
 AtIx a0 3 s10.1 fun a21 =>
 Ld .str w14.drew (a21.add 0) fun x22 =>
 Ld (.int .i64) w14.drew (a21.add 1) fun x23 =>
 Ld .bool w14.drew (a21.add 2) fun x24 =>
 AtIx a0 3 s10.1 fun a25 =>
 StN [(Value.string x18), (Value.int .i64 x19), (Value.bool x20)] w14.drew a25 0 fun w26 =>
 AtIx a0 3 (IntKind.i64.wrap (a1 + j16)) fun a27 =>
 StN [(Value.string x22), (Value.int .i64 x23), (Value.bool x24)] w26 a27 0 fun w28 =>
 next12 ((IntKind.i64.wrap (s10.1 + 1)), ()) w28)
 (bif (decide ((IntKind.i64.wrap (andI .u64 r13 (IntKind.u64.wrap (r8 - 1)))) ≥ (IntKind.i64.wrap (a2 - a1)))) then
 J15 (IntKind.i64.wrap ((IntKind.i64.wrap (andI .u64 r13 (IntKind.u64.wrap (r8 - 1)))) - (IntKind.i64.wrap (a2 - a1))))
 else
 J15 (IntKind.i64.wrap (andI .u64 r13 (IntKind.u64.wrap (r8 - 1)))))
 else
 K w11)) ((IntKind.i64.wrap ((IntKind.i64.wrap (a1 + (IntKind.i64.wrap ((IntKind.i64.wrap (Int.tdiv (IntKind.i64.wrap (a2 - a1)) 4)) * 2)))) - 1)), ()) w9
 else
 K w))
theorem e_slices_breakPatternsCmpFunc_hash_entry (a0 : SliceV) (a1 : Int) (a2 : Int) (a3 : Value) (w : World) (K : World → Prop) : den Try.prog 67 (bodyOf Try.f126) none (.seq .leaf (.seq .leaf (.cond (.seq .leaf (.seq .leaf (.seq .leaf (.blk (.loop [(11, (.int .i64))] (.seq (.seq .leaf (.cond .leaf .leaf)) (.seq (.blk (.seq .leaf (.seq (.seq .leaf (.cond .leaf .leaf)) .leaf))) .leaf))))))) .leaf))) (argEnv 0 [(Value.slice a0.a a0.len a0.cap), (Value.int .i64 a1), (Value.int .i64 a2), a3]) [] w (retK Try.prog [] [] K) = s_slices_breakPatternsCmpFunc_hash_entry a0 a1 a2 a3 w K := by kernel_rfl
theorem ok_slices_breakPatternsCmpFunc_hash_entry {a0 a1 a2 a3 w K} (h : s_slices_breakPatternsCmpFunc_hash_entry a0 a1 a2 a3 w K) : c_slices_breakPatternsCmpFunc_hash_entry a0 a1 a2 a3 w K :=
  fn_sound pok Try.func126 (fn := Try.f126) (c := bodyOf Try.f126) (nt := 67) (by kernel_rfl) (by kernel_rfl) (rs := []) (by kernel_rfl) [] K (.seq .leaf (.seq .leaf (.cond (.seq .leaf (.seq .leaf (.seq .leaf (.blk (.loop [(11, (.int .i64))] (.seq (.seq .leaf (.cond .leaf .leaf)) (.seq (.blk (.seq .leaf (.seq (.seq .leaf (.cond .leaf .leaf)) .leaf))) .leaf))))))) .leaf))) [(Value.slice a0.a a0.len a0.cap), (Value.int .i64 a1), (Value.int .i64 a2), a3] (by kernel_rfl) w ((e_slices_breakPatternsCmpFunc_hash_entry a0 a1 a2 a3 w K).mpr h)

/-- slices.choosePivotCmpFunc[goosepond/hash.entry] -/
def s_slices_choosePivotCmpFunc_hash_entry (a0 : SliceV) (a1 : Int) (a2 : Int) (a3 : Value) (w : World) (K : Int → Int → World → Prop) : Prop :=
 (Al w (.cells ⟨[(Value.int .i64 0)]⟩ 3) fun a6 w5 =>
 (4 : Int) ≠ 0 ∧
 (4 : Int) ≠ 0 ∧
 (4 : Int) ≠ 0 ∧
 let J7 : Int → World → Prop := fun j8 w9 =>
 (Ld (.int .i64) w9 a6 fun x10 =>
 (bif (x10 == 0) then
 K j8 1 w9
 else
 (bif (x10 == 12) then
 K j8 2 w9
 else
 K j8 0 w9)))
 (bif (decide ((IntKind.i64.wrap (a2 - a1)) ≥ 8)) then
 let J11 : Int → Int → Int → World → Prop := fun j12 j13 j14 w15 =>
 (c_slices_medianCmpFunc_hash_entry a0 j12 j13 j14 (some a6) a3 w15 fun r16 w17 =>
 J7 r16 w17)
 (bif (decide ((IntKind.i64.wrap (a2 - a1)) ≥ 50)) then
 c_slices_medianAdjacentCmpFunc_hash_entry a0 (IntKind.i64.wrap (a1 + (IntKind.i64.wrap ((IntKind.i64.wrap (Int.tdiv (IntKind.i64.wrap (a2 - a1)) 4)) * 1)))) (some a6) a3 w5 fun r18 w19 =>
 c_slices_medianAdjacentCmpFunc_hash_entry a0 (IntKind.i64.wrap (a1 + (IntKind.i64.wrap ((IntKind.i64.wrap (Int.tdiv (IntKind.i64.wrap (a2 - a1)) 4)) * 2)))) (some a6) a3 w19 fun r20 w21 =>
 c_slices_medianAdjacentCmpFunc_hash_entry a0 (IntKind.i64.wrap (a1 + (IntKind.i64.wrap ((IntKind.i64.wrap (Int.tdiv (IntKind.i64.wrap (a2 - a1)) 4)) * 3)))) (some a6) a3 w21 fun r22 w23 =>
 J11 r18 r20 r22 w23
 else
 J11 (IntKind.i64.wrap (a1 + (IntKind.i64.wrap ((IntKind.i64.wrap (Int.tdiv (IntKind.i64.wrap (a2 - a1)) 4)) * 1)))) (IntKind.i64.wrap (a1 + (IntKind.i64.wrap ((IntKind.i64.wrap (Int.tdiv (IntKind.i64.wrap (a2 - a1)) 4)) * 2)))) (IntKind.i64.wrap (a1 + (IntKind.i64.wrap ((IntKind.i64.wrap (Int.tdiv (IntKind.i64.wrap (a2 - a1)) 4)) * 3)))) w5)
 else
 J7 (IntKind.i64.wrap (a1 + (IntKind.i64.wrap ((IntKind.i64.wrap (Int.tdiv (IntKind.i64.wrap (a2 - a1)) 4)) * 2)))) w5))
theorem e_slices_choosePivotCmpFunc_hash_entry (a0 : SliceV) (a1 : Int) (a2 : Int) (a3 : Value) (w : World) (K : Int → Int → World → Prop) : den Try.prog 63 (bodyOf Try.f127) none (.seq .leaf (.seq .leaf (.seq .leaf (.seq .leaf (.seq .leaf (.seq .leaf (.seq (.seq .leaf (.cond (.seq (.seq .leaf (.cond (.seq .leaf (.seq .leaf .leaf)) .leaf)) .leaf) .leaf)) (.seq .leaf (.blk (.seq .leaf (.cond (.seq .leaf .leaf) (.seq .leaf (.cond (.seq .leaf .leaf) (.seq .leaf .leaf)))))))))))))) (argEnv 0 [(Value.slice a0.a a0.len a0.cap), (Value.int .i64 a1), (Value.int .i64 a2), a3]) [] w (retK Try.prog [.tmp 8, .tmp 9] [.one (.int .i64), .one (.int .i64)] K) = s_slices_choosePivotCmpFunc_hash_entry a0 a1 a2 a3 w K := by kernel_rfl
theorem ok_slices_choosePivotCmpFunc_hash_entry {a0 a1 a2 a3 w K} (h : s_slices_choosePivotCmpFunc_hash_entry a0 a1 a2 a3 w K) : c_slices_choosePivotCmpFunc_hash_entry a0 a1 a2 a3 w K :=
  fn_sound pok Try.func127 (fn := Try.f127) (c := bodyOf Try.f127) (nt := 63) (by kernel_rfl) (by kernel_rfl) (rs := [.tmp 8, .tmp 9]) (by kernel_rfl) [.one (.int .i64), .one (.int .i64)] K (.seq .leaf (.seq .leaf (.seq .leaf (.seq .leaf (.seq .leaf (.seq .leaf (.seq (.seq .leaf (.cond (.seq (.seq .leaf (.cond (.seq .leaf (.seq .leaf .leaf)) .leaf)) .leaf) .leaf)) (.seq .leaf (.blk (.seq .leaf (.cond (.seq .leaf .leaf) (.seq .leaf (.cond (.seq .leaf .leaf) (.seq .leaf .leaf)))))))))))))) [(Value.slice a0.a a0.len a0.cap), (Value.int .i64 a1), (Value.int .i64 a2), a3] (by kernel_rfl) w ((e_slices_choosePivotCmpFunc_hash_entry a0 a1 a2 a3 w K).mpr h)

/-- slices.reverseRangeCmpFunc[goosepond/hash.entry] -/
def s_slices_reverseRangeCmpFunc_hash_entry (a0 : SliceV) (a1 : Int) (a2 : Int) (a3 : Value) (w : World) (K : World → Prop) : Prop :=
 (LoopP (S := Int × Int × Unit) (fun s5 w6 next7 =>
 (bif (decide (s5.1 < s5.2.1)) then
 AtIx a0 3 s5.2.1 fun a8 =>
 Ld .str w6.drew (a8.add 0) fun x9 =>
 Ld (.int .i64) w6.drew (a8.add 1) fun x10 =>
 Ld .bool w6.drew (a8.add 2) fun x11 =>
 AtIx a0 3 s5.1 fun a12 =>
 Ld .str w6.drew (a12.add 0) fun x13 =>
 Ld (.int .i64) w6.drew (a12.add 1) fun x14 =>
 Ld .bool w6.drew (a12.add 2) fun x15 =>
 AtIx a0 3 s5.1 fun a16 =>
 StN [(Value.string x9), (Value.int .i64 x10), (Value.bool x11)] w6.drew a16 0 fun w17 =>
 AtIx a0 3 s5.2.1 fun a18 =>
 StN [(Value.string x13), (Value.int .i64 x14), (Value.bool x15)] w17 a18 0 fun w19 =>
 next7 ((IntKind.i64.wrap (s5.1 + 1)), (IntKind.i64.wrap (s5.2.1 - 1)), ()) w19
 else
 K w6)) (a1, (IntKind.i64.wrap (a2 - 1)), ()) w)
theorem e_slices_reverseRangeCmpFunc_hash_entry (a0 : SliceV) (a1 : Int) (a2 : Int) (a3 : Value) (w : World) (K : World → Prop) : den Try.prog 34 (bodyOf Try.f128) none (.seq .leaf (.seq .leaf (.blk (.loop [(8, (.int .i64)), (9, (.int .i64))] (.seq (.seq .leaf (.cond .leaf .leaf)) (.blk (.seq .leaf (.seq .leaf .leaf)))))))) (argEnv 0 [(Value.slice a0.a a0.len a0.cap), (Value.int .i64 a1), (Value.int .i64 a2), a3]) [] w (retK Try.prog [] [] K) = s_slices_reverseRangeCmpFunc_hash_entry a0 a1 a2 a3 w K := by kernel_rfl
theorem ok_slices_reverseRangeCmpFunc_hash_entry {a0 a1 a2 a3 w K} (h : s_slices_reverseRangeCmpFunc_hash_entry a0 a1 a2 a3 w K) : c_slices_reverseRangeCmpFunc_hash_entry a0 a1 a2 a3 w K :=
  fn_sound pok Try.func128 (fn := Try.f128) (c := bodyOf Try.f128) (nt := 34) (by kernel_rfl) (by kernel_rfl) (rs := []) (by kernel_rfl) [] K (.seq .leaf (.seq .leaf (.blk (.loop [(8, (.int .i64)), (9, (.int .i64))] (.seq (.seq .leaf (.cond .leaf .leaf)) (.blk (.seq .leaf (.seq .leaf .leaf)))))))) [(Value.slice a0.a a0.len a0.cap), (Value.int .i64 a1), (Value.int .i64 a2), a3] (by kernel_rfl) w ((e_slices_reverseRangeCmpFunc_hash_entry a0 a1 a2 a3 w K).mpr h)

/-- slices.partialInsertionSortCmpFunc[goosepond/hash.entry] -/
def s_slices_partialInsertionSortCmpFunc_hash_entry (a0 : SliceV) (a1 : Int) (a2 : Int) (a3 : Value) (w : World) (K : Bool → World → Prop) : Prop :=
 (LoopP (S := Int × Int × Unit) (fun s5 w6 next7 =>
 (bif (decide (s5.2.1 < 5)) then
 let J8 : Int → World → Prop := fun j9 w10 =>
 (next7 (j9, (IntKind.i64.wrap (s5.2.1 + 1)), ()) w10)
 LoopP (S := Int × Unit) (fun s11 w12 next13 =>
 let J14 : Bool → World → Prop := fun j15 w16 =>
 ((bif j15 then
 next13 ((IntKind.i64.wrap (s11.1 + 1)), ()) w16
 else
 (bif (s11.1 == a2) then
 K true w16
 else
 (bif (decide ((IntKind.i64.wrap (a2 - a1)) < 50)) then
 K false w16
 else
 AtIx a0 3 (IntKind.i64.wrap (s11.1 - 1)) fun a17 =>
 Ld .str w16.drew (a17.add 0) fun x18 =>
 Ld (.int .i64) w16.drew (a17.add 1) fun x19 =>
 Ld .bool w16.drew (a17.add 2) fun x20 =>
 AtIx a0 3 s11.1 fun a21 =>
 Ld .str w16.drew (a21.add 0) fun x22 =>
 Ld (.int .i64) w16.drew (a21.add 1) fun x23 =>
 Ld .bool w16.drew (a21.add 2) fun x24 =>
 AtIx a0 3 s11.1 fun a25 =>
 StN [(Value.string x18), (Value.int .i64 x19), (Value.bool x20)] w16.drew a25 0 fun w26 =>
 AtIx a0 3 (IntKind.i64.wrap (s11.1 - 1)) fun a27 =>
 StN [(Value.string x22), (Value.int .i64 x23), (Value.bool x24)] w26 a27 0 fun w28 =>
 let J29 : World → Prop := fun w30 =>
 ((bif (decide ((IntKind.i64.wrap (a2 - s11.1)) ≥ 2)) then
 LoopP (S := Int × Unit) (fun s31 w32 next33 =>
 (bif (decide (s31.1 < a2)) then
 AtIx a0 3 s31.1 fun a34 =>
 Ld .str w32.drew (a34.add 0) fun x35 =>
 Ld (.int .i64) w32.drew (a34.add 1) fun x36 =>
 Ld .bool w32.drew (a34.add 2) fun x37 =>
 AtIx a0 3 (IntKind.i64.wrap (s31.1 - 1)) fun a38 =>
 Ld .str w32.drew (a38.add 0) fun x39 =>
 Ld (.int .i64) w32.drew (a38.add 1) fun x40 =>
 Ld .bool w32.drew (a38.add 2) fun x41 =>
 CallV Try.prog [.one (.int .i64)] a3 [(Value.agg ⟨[(Value.string x35), (Value.int .i64 x36), (Value.bool x37)]⟩), (Value.agg ⟨[(Value.string x39), (Value.int .i64 x40), (Value.bool x41)]⟩)] w32.drew fun r42 w43 =>
 ∃ r44 : Int, r42 = (Value.int .i64 r44) ∧
 (bif (!(decide (r44 < 0))) then
 J8 s11.1 w43
 else
 AtIx a0 3 (IntKind.i64.wrap (s31.1 - 1)) fun a45 =>
 Ld .str w43.drew (a45.add 0) fun x46 =>
 Ld (.int .i64) w43.drew (a45.add 1) fun x47 =>
 Ld .bool w43.drew (a45.add 2) fun x48 =>
 AtIx a0 3 s31.1 fun a49 =>
 Ld .str w43.drew (a49.add 0) fun x50 =>
 Ld (.int .i64) w43.drew (a49.add 1) fun x51 =>
 Ld .bool w43.drew (a49.add 2) fun x52 =>
 AtIx a0 3 s31.1 fun a53 =>
 StN [(Value.string x46), (Value.int .i64 x47), (Value.bool x48)] w43.drew a53 0 fun w54 =>
 AtIx a0 3 (IntKind.i64.wrap (s31.1 - 1)) fun a55 =>
 StN [(Value.string x50), (Value.int .i64 x51), (Value.bool x52)] w54 a55 0 fun w56 =>
 next33 ((IntKind.i64.wrap (s31.1 + 1)), ()) w56)
 else
 J8 s11.1 w32)) ((IntKind.i64.wrap (s11.1 + 1)), ()) w30
 else
 J8 s11.1 w30))
 (bif (decide ((IntKind.i64.wrap (s11.1 - a1)) ≥ 2)) then
 LoopP (S := Int × Unit) (fun s57 w58 next59 =>
 (bif (decide (s57.1 ≥ 1)) then
 AtIx a0 3 s57.1 fun a60 =>
 Ld .str w58.drew (a60.add 0) fun x61 =>
 Ld (.int .i64) w58.drew (a60.add 1) fun x62 =>
 Ld .bool w58.drew (a60.add 2) fun x63 =>
 AtIx a0 3 (IntKind.i64.wrap (s57.1 - 1)) fun a64 =>
 Ld .str w58.drew (a64.add 0) fun x65 =>
 Ld (.int .i64) w58.drew (a64.add 1) fun x66 =>
 Ld .bool w58.drew (a64.add 2) fun x67 =>
 CallV Try.prog [.one (.int .i64)] a3 [(Value.agg ⟨[(Value.string x61), (Value.int .i64 x62), (Value.bool x63)]⟩), (Value.agg ⟨[(Value.string x65), (Value.int .i64 x66), (Value.bool x67)]⟩)] w58.drew fun r68 w69 =>
 ∃ r70 : Int, r68 = (Value.int .i64 r70) ∧
 (bif (!(decide (r70 < 0))) then
 J29 w69
 else
 AtIx a0 3 (IntKind.i64.wrap (s57.1 - 1)) fun a71 =>
 Ld .str w69.drew (a71.add 0) fun x72 =>
 Ld (.int .i64) w69.drew (a71.add 1) fun x73 =>
 Ld .bool w69.drew (a71.add 2) fun x74 =>
 AtIx a0 3 s57.1 fun a75 =>
 Ld .str w69.drew (a75.add 0) fun x76 =>
 Ld (.int .i64) w69.drew (a75.add 1) fun x77 =>
 Ld .bool w69.drew (a75.add 2) fun x78 =>
 AtIx a0 3 s57.1 fun a79 =>
 StN [(Value.string x72), (Value.int .i64 x73), (Value.bool x74)] w69.drew a79 0 fun w80 =>
 AtIx a0 3 (IntKind.i64.wrap (s57.1 - 1)) fun a81 =>
 StN [(Value.string x76), (Value.int .i64 x77), (Value.bool x78)] w80 a81 0 fun w82 =>
 next59 ((IntKind.i64.wrap (s57.1 - 1)), ()) w82)
 else
 J29 w58)) ((IntKind.i64.wrap (s11.1 - 1)), ()) w28
 else
 J29 w28)))))
 (bif (decide (s11.1 < a2)) then
 AtIx a0 3 s11.1 fun a83 =>
 Ld .str w12.drew (a83.add 0) fun x84 =>
 Ld (.int .i64) w12.drew (a83.add 1) fun x85 =>
 Ld .bool w12.drew (a83.add 2) fun x86 =>
 AtIx a0 3 (IntKind.i64.wrap (s11.1 - 1)) fun a87 =>
 Ld .str w12.drew (a87.add 0) fun x88 =>
 Ld (.int .i64) w12.drew (a87.add 1) fun x89 =>
 Ld .bool w12.drew (a87.add 2) fun x90 =>
 CallV Try.prog [.one (.int .i64)] a3 [(Value.agg ⟨[(Value.string x84), (Value.int .i64 x85), (Value.bool x86)]⟩), (Value.agg ⟨[(Value.string x88), (Value.int .i64 x89), (Value.bool x90)]⟩)] w12.drew fun r91 w92 =>
 ∃ r93 : Int, r91 = (Value.int .i64 r93) ∧
 J14 (!(decide (r93 < 0))) w92
 else
 J14 false w12.drew)) (s5.1, ()) w6
 else
 K false w6)) ((IntKind.i64.wrap (a1 + 1)), 0, ()) w)
theorem e_slices_partialInsertionSortCmpFunc_hash_entry (a0 : SliceV) (a1 : Int) (a2 : Int) (a3 : Value) (w : World) (K : Bool → World → Prop) : den Try.prog 141 (bodyOf Try.f129) none (.seq .leaf (.seq .leaf (.seq (.seq .leaf (.blk (.loop [(9, (.int .i64)), (10, (.int .i64))] (.seq (.seq .leaf (.cond .leaf .leaf)) (.seq (.blk (.seq (.blk (.loop [(9, (.int .i64))] (.seq (.seq .leaf (.cond .leaf .leaf)) (.blk .leaf)))) (.seq (.seq .leaf (.cond (.seq .leaf .leaf) .leaf)) (.seq (.seq .leaf (.cond (.seq .leaf .leaf) .leaf)) (.seq .leaf (.seq (.seq .leaf (.cond (.seq .leaf (.blk (.loop [(11, (.int .i64))] (.seq (.seq .leaf (.cond .leaf .leaf)) (.seq (.blk (.seq (.seq .leaf (.cond .leaf .leaf)) .leaf)) .leaf))))) .leaf)) (.seq .leaf (.cond (.seq .leaf (.blk (.loop [(12, (.int .i64))] (.seq (.seq .leaf (.cond .leaf .leaf)) (.seq (.blk (.seq (.seq .leaf (.cond .leaf .leaf)) .leaf)) .leaf))))) .leaf)))))))) .leaf))))) (.seq .leaf .leaf)))) (argEnv 0 [(Value.slice a0.a a0.len a0.cap), (Value.int .i64 a1), (Value.int .i64 a2), a3]) [] w (retK Try.prog [.tmp 8] [.one .bool] K) = s_slices_partialInsertionSortCmpFunc_hash_entry a0 a1 a2 a3 w K := by kernel_rfl
theorem ok_slices_partialInsertionSortCmpFunc_hash_entry {a0 a1 a2 a3 w K} (h : s_slices_partialInsertionSortCmpFunc_hash_entry a0 a1 a2 a3 w K) : c_slices_partialInsertionSortCmpFunc_hash_entry a0 a1 a2 a3 w K :=
  fn_sound pok Try.func129 (fn := Try.f129) (c := bodyOf Try.f129) (nt := 141) (by kernel_rfl) (by kernel_rfl) (rs := [.tmp 8]) (by kernel_rfl) [.one .bool] K (.seq .leaf (.seq .leaf (.seq (.seq .leaf (.blk (.loop [(9, (.int .i64)), (10, (.int .i64))] (.seq (.seq .leaf (.cond .leaf .leaf)) (.seq (.blk (.seq (.blk (.loop [(9, (.int .i64))] (.seq (.seq .leaf (.cond .leaf .leaf)) (.blk .leaf)))) (.seq (.seq .leaf (.cond (.seq .leaf .leaf) .leaf)) (.seq (.seq .leaf (.cond (.seq .leaf .leaf) .leaf)) (.seq .leaf (.seq (.seq .leaf (.cond (.seq .leaf (.blk (.loop [(11, (.int .i64))] (.seq (.seq .leaf (.cond .leaf .leaf)) (.seq (.blk (.seq (.seq .leaf (.cond .leaf .leaf)) .leaf)) .leaf))))) .leaf)) (.seq .leaf (.cond (.seq .leaf (.blk (.loop [(12, (.int .i64))] (.seq (.seq .leaf (.cond .leaf .leaf)) (.seq (.blk (.seq (.seq .leaf (.cond .leaf .leaf)) .leaf)) .leaf))))) .leaf)))))))) .leaf))))) (.seq .leaf .leaf)))) [(Value.slice a0.a a0.len a0.cap), (Value.int .i64 a1), (Value.int .i64 a2), a3] (by kernel_rfl) w ((e_slices_partialInsertionSortCmpFunc_hash_entry a0 a1 a2 a3 w K).mpr h)

/-- slices.partitionEqualCmpFunc[goosepond/hash.entry] -/
def s_slices_partitionEqualCmpFunc_hash_entry (a0 : SliceV) (a1 : Int) (a2 : Int) (a3 : Int) (a4 : Value) (w : World) (K : Int → World → Prop) : Prop :=
 (AtIx a0 3 a3 fun a6 =>
 Ld .str w.drew (a6.add 0) fun x7 =>
 Ld (.int .i64) w.drew (a6.add 1) fun x8 =>
 Ld .bool w.drew (a6.add 2) fun x9 =>
 AtIx a0 3 a1 fun a10 =>
 Ld .str w.drew (a10.add 0) fun x11 =>
 Ld (.int .i64) w.drew (a10.add 1) fun x12 =>
 Ld .bool w.drew (a10.add 2) fun x13 =>
 AtIx a0 3 a1 fun a14 =>
 StN [(Value.string x7), (Value.int .i64 x8), (Value.bool x9)] w.drew a14 0 fun w15 =>
 AtIx a0 3 a3 fun a16 =>
 StN [(Value.string x11), (Value.int .i64 x12), (Value.bool x13)] w15 a16 0 fun w17 =>
 LoopP (S := Int × Int × Unit) (fun s18 w19 next20 =>
 LoopP (S := Int × Unit) (fun s21 w22 next23 =>
 let J24 : Bool → World → Prop := fun j25 w26 =>
 ((bif j25 then
 next23 ((IntKind.i64.wrap (s21.1 + 1)), ()) w26
 else
 LoopP (S := Int × Unit) (fun s27 w28 next29 =>
 let J30 : Bool → World → Prop := fun j31 w32 =>
 ((bif j31 then
 next29 ((IntKind.i64.wrap (s27.1 - 1)), ()) w32
 else
 (bif (decide (s21.1 > s27.1)) then
 K s21.1 w32
 else
 AtIx a0 3 s27.1 fun a33 =>
 Ld .str w32.drew (a33.add 0) fun x34 =>
 Ld (.int .i64) w32.drew (a33.add 1) fun x35 =>
 Ld .bool w32.drew (a33.add 2) fun x36 =>
 AtIx a0 3 s21.1 fun a37 =>
 Ld .str w32.drew (a37.add 0) fun x38 =>
 Ld (.int .i64) w32.drew (a37.add 1) fun x39 =>
 Ld .bool w32.drew (a37.add 2) fun x40 =>
 AtIx a0 3 s21.1 fun a41 =>
 StN [(Value.string x34), (Value.int .i64 x35), (Value.bool x36)] w32.drew a41 0 fun w42 =>
 AtIx a0 3 s27.1 fun a43 =>
 StN [(Value.string x38), (Value.int .i64 x39), (Value.bool x40)] w42 a43 0 fun w44 =>
 next20 ((IntKind.i64.wrap (s21.1 + 1)), (IntKind.i64.wrap (s27.1 - 1)), ()) w44)))
 (bif (decide (s21.1 ≤ s27.1)) then
 AtIx a0 3 a1 fun a45 =>
 Ld .str w28.drew (a45.add 0) fun x46 =>
 Ld (.int .i64) w28.drew (a45.add 1) fun x47 =>
 Ld .bool w28.drew (a45.add 2) fun x48 =>
 AtIx a0 3 s27.1 fun a49 =>
 Ld .str w28.drew (a49.add 0) fun x50 =>
 Ld (.int .i64) w28.drew (a49.add 1) fun x51 =>
 Ld .bool w28.drew (a49.add 2) fun x52 =>
 CallV Try.prog [.one (.int .i64)] a4 [(Value.agg ⟨[(Value.string x46), (Value.int .i64 x47), (Value.bool x48)]⟩), (Value.agg ⟨[(Value.string x50), (Value.int .i64 x51), (Value.bool x52)]⟩)] w28.drew fun r53 w54 =>
 ∃ r55 : Int, r53 = (Value.int .i64 r55) ∧
 J30 (decide (r55 < 0)) w54
 else
 J30 false w28.drew)) (s18.2.1, ()) w26))
 (bif (decide (s21.1 ≤ s18.2.1)) then
 AtIx a0 3 a1 fun a56 =>
 Ld .str w22.drew (a56.add 0) fun x57 =>
 Ld (.int .i64) w22.drew (a56.add 1) fun x58 =>
 Ld .bool w22.drew (a56.add 2) fun x59 =>
 AtIx a0 3 s21.1 fun a60 =>
 Ld .str w22.drew (a60.add 0) fun x61 =>
 Ld (.int .i64) w22.drew (a60.add 1) fun x62 =>
 Ld .bool w22.drew (a60.add 2) fun x63 =>
 CallV Try.prog [.one (.int .i64)] a4 [(Value.agg ⟨[(Value.string x57), (Value.int .i64 x58), (Value.bool x59)]⟩), (Value.agg ⟨[(Value.string x61), (Value.int .i64 x62), (Value.bool x63)]⟩)] w22.drew fun r64 w65 =>
 ∃ r66 : Int, r64 = (Value.int .i64 r66) ∧
 J24 (!(decide (r66 < 0))) w65
 else
 J24 false w22.drew)) (s18.1, ()) w19) ((IntKind.i64.wrap (a1 + 1)), (IntKind.i64.wrap (a2 - 1)), ()) w17)
theorem e_slices_partitionEqualCmpFunc_hash_entry (a0 : SliceV) (a1 : Int) (a2 : Int) (a3 : Int) (a4 : Value) (w : World) (K : Int → World → Prop) : den Try.prog 90 (bodyOf Try.f130) none (.seq .leaf (.seq .leaf (.seq .leaf (.seq (.blk (.loop [(11, (.int .i64)), (12, (.int .i64))] (.blk (.seq (.blk (.loop [(11, (.int .i64))] (.seq (.seq .leaf (.cond .leaf .leaf)) (.blk .leaf)))) (.seq (.blk (.loop [(12, (.int .i64))] (.seq (.seq .leaf (.cond .leaf .leaf)) (.blk .leaf)))) (.seq (.seq .leaf (.cond .leaf .leaf)) (.seq .leaf (.seq .leaf .leaf)))))))) (.seq .leaf .leaf))))) (argEnv 0 [(Value.slice a0.a a0.len a0.cap), (Value.int .i64 a1), (Value.int .i64 a2), (Value.int .i64 a3), a4]) [] w (retK Try.prog [.tmp 10] [.one (.int .i64)] K) = s_slices_partitionEqualCmpFunc_hash_entry a0 a1 a2 a3 a4 w K := by kernel_rfl
theorem ok_slices_partitionEqualCmpFunc_hash_entry {a0 a1 a2 a3 a4 w K} (h : s_slices_partitionEqualCmpFunc_hash_entry a0 a1 a2 a3 a4 w K) : c_slices_partitionEqualCmpFunc_hash_entry a0 a1 a2 a3 a4 w K :=
  fn_sound pok Try.func130 (fn := Try.f130) (c := bodyOf Try.f130) (nt := 90) (by kernel_rfl) (by kernel_rfl) (rs := [.tmp 10]) (by kernel_rfl) [.one (.int .i64)] K (.seq .leaf (.seq .leaf (.seq .leaf (.seq (.blk (.loop [(11, (.int .i64)), (12, (.int .i64))] (.blk (.seq (.blk (.loop [(11, (.int .i64))] (.seq (.seq .leaf (.cond .leaf .leaf)) (.blk .leaf)))) (.seq (.blk (.loop [(12, (.int .i64))] (.seq (.seq .leaf (.cond .leaf .leaf)) (.blk .leaf)))) (.seq (.seq .leaf (.cond .leaf .leaf)) (.seq .leaf (.seq .leaf .leaf)))))))) (.seq .leaf .leaf))))) [(Value.slice a0.a a0.len a0.cap), (Value.int .i64 a1), (Value.int .i64 a2), (Value.int .i64 a3), a4] (by kernel_rfl) w ((e_slices_partitionEqualCmpFunc_hash_entry a0 a1 a2 a3 a4 w K).mpr h)

/-- slices.partitionCmpFunc[goosepond/hash.entry] -/
def s_slices_partitionCmpFunc_hash_entry (a0 : SliceV) (a1 : Int) (a2 : Int) (a3 : Int) (a4 : Value) (w : World) (K : Int → Bool → World → Prop) : Prop :=
 (AtIx a0 3 a3 fun a6 =>
 Ld .str w.drew (a6.add 0) fun x7 =>
 Ld (.int .i64) w.drew (a6.add 1) fun x8 =>
 Ld .bool w.drew (a6.add 2) fun x9 =>
 AtIx a0 3 a1 fun a10 =>
 Ld .str w.drew (a10.add 0) fun x11 =>
 Ld (.int .i64) w.drew (a10.add 1) fun x12 =>
 Ld .bool w.drew (a10.add 2) fun x13 =>
 AtIx a0 3 a1 fun a14 =>
 StN [(Value.string x7), (Value.int .i64 x8), (Value.bool x9)] w.drew a14 0 fun w15 =>
 AtIx a0 3 a3 fun a16 =>
 StN [(Value.string x11), (Value.int .i64 x12), (Value.bool x13)] w15 a16 0 fun w17 =>
 LoopP (S := Int × Unit) (fun s18 w19 next20 =>
 let J21 : Bool → World → Prop := fun j22 w23 =>
 ((bif j22 then
 next20 ((IntKind.i64.wrap (s18.1 + 1)), ()) w23
 else
 LoopP (S := Int × Unit) (fun s24 w25 next26 =>
 let J27 : Bool → World → Prop := fun j28 w29 =>
 ((bif j28 then
 next26 ((IntKind.i64.wrap (s24.1 - 1)), ()) w29
 else
 (bif (decide (s18.1 > s24.1)) then
 AtIx a0 3 a1 fun a30 =>
 Ld .str w29.drew (a30.add 0) fun x31 =>
 Ld (.int .i64) w29.drew (a30.add 1) fun x32 =>
 Ld .bool w29.drew (a30.add 2) fun x33 =>
 AtIx a0 3 s24.1 fun a34 =>
 Ld .str w29.drew (a34.add 0) fun x35 =>
 Ld (.int .i64) w29.drew (a34.add 1) fun x36 =>
 Ld .bool w29.drew (a34.add 2) fun x37 =>
 AtIx a0 3 s24.1 fun a38 =>
 StN [(Value.string x31), (Value.int .i64 x32), (Value.bool x33)] w29.drew a38 0 fun w39 =>
 AtIx a0 3 a1 fun a40 =>
 StN [(Value.string x35), (Value.int .i64 x36), (Value.bool x37)] w39 a40 0 fun w41 =>
 K s24.1 true w41
 else
 AtIx a0 3 s24.1 fun a42 =>
 Ld .str w29.drew (a42.add 0) fun x43 =>
 Ld (.int .i64) w29.drew (a42.add 1) fun x44 =>
 Ld .bool w29.drew (a42.add 2) fun x45 =>
 AtIx a0 3 s18.1 fun a46 =>
 Ld .str w29.drew (a46.add 0) fun x47 =>
 Ld (.int .i64) w29.drew (a46.add 1) fun x48 =>
 Ld .bool w29.drew (a46.add 2) fun x49 =>
 AtIx a0 3 s18.1 fun a50 =>
 StN [(Value.string x43), (Value.int .i64 x44), (Value.bool x45)] w29.drew a50 0 fun w51 =>
 AtIx a0 3 s24.1 fun a52 =>
 StN [(Value.string x47), (Value.int .i64 x48), (Value.bool x49)] w51 a52 0 fun w53 =>
 LoopP (S := Int × Int × Unit) (fun s54 w55 next56 =>
 LoopP (S := Int × Unit) (fun s57 w58 next59 =>
 let J60 : Bool → World → Prop := fun j61 w62 =>
 ((bif j61 then
 next59 ((IntKind.i64.wrap (s57.1 + 1)), ()) w62
 else
 LoopP (S := Int × Unit) (fun s63 w64 next65 =>
 let J66 : Bool → World → Prop := fun j67 w68 =>
 ((bif j67 then
 next65 ((IntKind.i64.wrap (s63.1 - 1)), ()) w68
 else
 (bif (decide (s57.1 > s63.1)) then
 AtIx a0 3 a1 fun a69 =>
 Ld .str w68.drew (a69.add 0) fun x70 =>
 Ld (.int .i64) w68.drew (a69.add 1) fun x71 =>
 Ld .bool w68.drew (a69.add 2) fun x72 =>
 AtIx a0 3 s63.1 fun a73 =>
 Ld .str w68.drew (a73.add 0) fun x74 =>
 Ld (.int .i64) w68.drew (a73.add 1) fun x75 =>
 Ld .bool w68.drew (a73.add 2) fun x76 =>
 AtIx a0 3 s63.1 fun a77 =>
 StN [(Value.string x70), (Value.int .i64 x71), (Value.bool x72)] w68.drew a77 0 fun w78 =>
 AtIx a0 3 a1 fun a79 =>
 StN [(Value.string x74), (Value.int .i64 x75), (Value.bool x76)] w78 a79 0 fun w80 =>
 K s63.1 false w80
 else
 AtIx a0 3 s63.1 fun a81 =>
 Ld .str w68.drew (a81.add 0) fun x82 =>
 Ld (.int .i64) w68.drew (a81.add 1) fun x83 =>
 Ld .bool w68.drew (a81.add 2) fun x84 =>
 AtIx a0 3 s57.1 fun a85 =>
 Ld .str w68.drew (a85.add 0) fun x86 =>
 Ld (.int .i64) w68.drew (a85.add 1) fun x87 =>
 Ld .bool w68.drew (a85.add 2) fun x88 =>
 AtIx a0 3 s57.1 fun a89 =>
 StN [(Value.string x82), (Value.int .i64 x83), (Value.bool x84)] w68.drew a89 0 fun w90 =>
 AtIx a0 3 s63.1 fun a91 =>
 StN [(Value.string x86), (Value.int .i64 x87), (Value.bool x88)] w90 a91 0 fun w92 =>
 next56 ((IntKind.i64.wrap (s57.1 + 1)), (IntKind.i64.wrap (s63.1 - 1)), ()) w92)))
 (bif (decide (s57.1 ≤ s63.1)) then
 AtIx a0 3 s63.1 fun a93 =>
 Ld .str w64.drew (a93.add 0) fun x94 =>
 Ld (.int .i64) w64.drew (a93.add 1) fun x95 =>
 Ld .bool w64.drew (a93.add 2) fun x96 =>
 AtIx a0 3 a1 fun a97 =>
 Ld .str w64.drew (a97.add 0) fun x98 =>
 Ld (.int .i64) w64.drew (a97.add 1) fun x99 =>
 Ld .bool w64.drew (a97.add 2) fun x100 =>
 CallV Try.prog [.one (.int .i64)] a4 [(Value.agg ⟨[(Value.string x94), (Value.int .i64 x95), (Value.bool x96)]⟩), (Value.agg ⟨[(Value.string x98), (Value.int .i64 x99), (Value.bool x100)]⟩)] w64.drew fun r101 w102 =>
 ∃ r103 : Int, r101 = (Value.int .i64 r103) ∧
 J66 (!(decide (r103 < 0))) w102
 else
 J66 false w64.drew)) (s54.2.1, ()) w62))
 (bif (decide (s57.1 ≤ s54.2.1)) then
 AtIx a0 3 s57.1 fun a104 =>
 Ld .str w58.drew (a104.add 0) fun x105 =>
 Ld (.int .i64) w58.drew (a104.add 1) fun x106 =>
 Ld .bool w58.drew (a104.add 2) fun x107 =>
 AtIx a0 3 a1 fun a108 =>
 Ld .str w58.drew (a108.add 0) fun x109 =>
 Ld (.int .i64) w58.drew (a108.add 1) fun x110 =>
 Ld .bool w58.drew (a108.add 2) fun x111 =>
 CallV Try.prog [.one (.int .i64)] a4 [(Value.agg ⟨[(Value.string x105), (Value.int .i64 x106), (Value.bool x107)]⟩), (Value.agg ⟨[(Value.string x109), (Value.int .i64 x110), (Value.bool x111)]⟩)] w58.drew fun r112 w113 =>
 ∃ r114 : Int, r112 = (Value.int .i64 r114) ∧
 J60 (decide (r114 < 0)) w113
 else
 J60 false w58.drew)) (s54.1, ()) w55) ((IntKind.i64.wrap (s18.1 + 1)), (IntKind.i64.wrap (s24.1 - 1)), ()) w53)))
 (bif (decide (s18.1 ≤ s24.1)) then
 AtIx a0 3 s24.1 fun a115 =>
 Ld .str w25.drew (a115.add 0) fun x116 =>
 Ld (.int .i64) w25.drew (a115.add 1) fun x117 =>
 Ld .bool w25.drew (a115.add 2) fun x118 =>
 AtIx a0 3 a1 fun a119 =>
 Ld .str w25.drew (a119.add 0) fun x120 =>
 Ld (.int .i64) w25.drew (a119.add 1) fun x121 =>
 Ld .bool w25.drew (a119.add 2) fun x122 =>
 CallV Try.prog [.one (.int .i64)] a4 [(Value.agg ⟨[(Value.string x116), (Value.int .i64 x117), (Value.bool x118)]⟩), (Value.agg ⟨[(Value.string x120), (Value.int .i64 x121), (Value.bool x122)]⟩)] w25.drew fun r123 w124 =>
 ∃ r125 : Int, r123 = (Value.int .i64 r125) ∧
 J27 (!(decide (r125 < 0))) w124
 else
 J27 false w25.drew)) ((IntKind.i64.wrap (a2 - 1)), ()) w23))
 (bif (decide (s18.1 ≤ (IntKind.i64.wrap (a2 - 1)))) then
 AtIx a0 3 s18.1 fun a126 =>
 Ld .str w19.drew (a126.add 0) fun x127 =>
 Ld (.int .i64) w19.drew (a126.add 1) fun x128 =>
 Ld .bool w19.drew (a126.add 2) fun x129 =>
 AtIx a0 3 a1 fun a130 =>
 Ld .str w19.drew (a130.add 0) fun x131 =>
 Ld (.int .i64) w19.drew (a130.add 1) fun x132 =>
 Ld .bool w19.drew (a130.add 2) fun x133 =>
 CallV Try.prog [.one (.int .i64)] a4 [(Value.agg ⟨[(Value.string x127), (Value.int .i64 x128), (Value.bool x129)]⟩), (Value.agg ⟨[(Value.string x131), (Value.int .i64 x132), (Value.bool x133)]⟩)] w19.drew fun r134 w135 =>
 ∃ r136 : Int, r134 = (Value.int .i64 r136) ∧
 J21 (decide (r136 < 0)) w135
 else
 J21 false w19.drew)) ((IntKind.i64.wrap (a1 + 1)), ()) w17)
theorem e_slices_partitionCmpFunc_hash_entry (a0 : SliceV) (a1 : Int) (a2 : Int) (a3 : Int) (a4 : Value) (w : World) (K : Int → Bool → World → Prop) : den Try.prog 178 (bodyOf Try.f131) none (.seq .leaf (.seq .leaf (.seq .leaf (.seq (.blk (.loop [(12, (.int .i64))] (.seq (.seq .leaf (.cond .leaf .leaf)) (.blk .leaf)))) (.seq (.blk (.loop [(13, (.int .i64))] (.seq (.seq .leaf (.cond .leaf .leaf)) (.blk .leaf)))) (.seq (.seq .leaf (.cond (.seq .leaf (.seq .leaf .leaf)) .leaf)) (.seq .leaf (.seq .leaf (.seq .leaf (.seq (.blk (.loop [(12, (.int .i64)), (13, (.int .i64))] (.blk (.seq (.blk (.loop [(12, (.int .i64))] (.seq (.seq .leaf (.cond .leaf .leaf)) (.blk .leaf)))) (.seq (.blk (.loop [(13, (.int .i64))] (.seq (.seq .leaf (.cond .leaf .leaf)) (.blk .leaf)))) (.seq (.seq .leaf (.cond .leaf .leaf)) (.seq .leaf (.seq .leaf .leaf)))))))) (.seq .leaf (.seq .leaf .leaf)))))))))))) (argEnv 0 [(Value.slice a0.a a0.len a0.cap), (Value.int .i64 a1), (Value.int .i64 a2), (Value.int .i64 a3), a4]) [] w (retK Try.prog [.tmp 10, .tmp 11] [.one (.int .i64), .one .bool] K) = s_slices_partitionCmpFunc_hash_entry a0 a1 a2 a3 a4 w K := by kernel_rfl
theorem ok_slices_partitionCmpFunc_hash_entry {a0 a1 a2 a3 a4 w K} (h : s_slices_partitionCmpFunc_hash_entry a0 a1 a2 a3 a4 w K) : c_slices_partitionCmpFunc_hash_entry a0 a1 a2 a3 a4 w K :=
  fn_sound pok Try.func131 (fn := Try.f131) (c := bodyOf Try.f131) (nt := 178) (by kernel_rfl) (by kernel_rfl) (rs := [.tmp 10, .tmp 11]) (by kernel_rfl) [.one (.int .i64), .one .bool] K (.seq .leaf (.seq .leaf (.seq .leaf (.seq (.blk (.loop [(12, (.int .i64))] (.seq (.seq .leaf (.cond .leaf .leaf)) (.blk .leaf)))) (.seq (.blk (.loop [(13, (.int .i64))] (.seq (.seq .leaf (.cond .leaf .leaf)) (.blk .leaf)))) (.seq (.seq .leaf (.cond (.seq .leaf (.seq .leaf .leaf)) .leaf)) (.seq .leaf (.seq .leaf (.seq .leaf (.seq (.blk (.loop [(12, (.int .i64)), (13, (.int .i64))] (.blk (.seq (.blk (.loop [(12, (.int .i64))] (.seq (.seq .leaf (.cond .leaf .leaf)) (.blk .leaf)))) (.seq (.blk (.loop [(13, (.int .i64))] (.seq (.seq .leaf (.cond .leaf .leaf)) (.blk .leaf)))) (.seq (.seq .leaf (.cond .leaf .leaf)) (.seq .leaf (.seq .leaf .leaf)))))))) (.seq .leaf (.seq .leaf .leaf)))))))))))) [(Value.slice a0.a a0.len a0.cap), (Value.int .i64 a1), (Value.int .i64 a2), (Value.int .i64 a3), a4] (by kernel_rfl) w ((e_slices_partitionCmpFunc_hash_entry a0 a1 a2 a3 a4 w K).mpr h)

/-- math/bits.Len64 -/
def s_math_bits_Len64 (a0 : Int) (w : World) (K : Int → World → Prop) : Prop :=
 (let J2 : Int → Int → Prop := fun j3 j4 =>
 (let J5 : Int → Int → Prop := fun j6 j7 =>
 (let J8 : Int → Int → Prop := fun j9 j10 =>
 (StrIx (bs [0, 1, 2, 2, 3, 3, 3, 3, 4, 4, 4, 4, 4, 4, 4, 4, 5, 5, 5, 5, 5, 5, 5, 5, 5, 5, 5, 5, 5, 5, 5, 5, 6, 6, 6, 6, 6, 6, 6, 6, 6, 6, 6, 6, 6, 6, 6, 6, 6, 6, 6, 6, 6, 6, 6, 6, 6, 6, 6, 6, 6, 6, 6, 6, 7, 7, 7, 7, 7, 7, 7, 7, 7, 7, 7, 7, 7, 7, 7, 7, 7, 7, 7, 7, 7, 7, 7, 7, 7, 7, 7, 7, 7, 7, 7, 7, 7, 7, 7, 7, 7, 7, 7, 7, 7, 7, 7, 7, 7, 7, 7, 7, 7, 7, 7, 7, 7, 7, 7, 7, 7, 7, 7, 7, 7, 7, 7, 7, 8, 8, 8, 8, 8, 8, 8, 8, 8, 8, 8, 8, 8, 8, 8, 8, 8, 8, 8, 8, 8, 8, 8, 8, 8, 8, 8, 8, 8, 8, 8, 8, 8, 8, 8, 8, 8, 8, 8, 8, 8, 8, 8, 8, 8, 8, 8, 8, 8, 8, 8, 8, 8, 8, 8, 8, 8, 8, 8, 8, 8, 8, 8, 8, 8, 8, 8, 8, 8, 8, 8, 8, 8, 8, 8, 8, 8, 8, 8, 8, 8, 8, 8, 8, 8, 8, 8, 8, 8, 8, 8, 8, 8, 8, 8, 8, 8, 8, 8, 8, 8, 8, 8, 8, 8, 8, 8, 8, 8, 8, 8, 8, 8, 8, 8, 8, 8, 8, 8, 8, 8, 8, 8, 8, 8, 8, 8, 8]) (IntKind.u8.wrap j9) fun x11 =>
 K (IntKind.i64.wrap (j10 + (IntKind.i64.wrap x11))) w)
 (bif (decide (j6 ≥ 256)) then
 0 ≤ (8 : Int) ∧
 J8 (shrI .u64 j6 8) (IntKind.i64.wrap (j7 + 8))
 else
 J8 j6 j7))
 (bif (decide (j3 ≥ 65536)) then
 0 ≤ (16 : Int) ∧
 J5 (shrI .u64 j3 16) (IntKind.i64.wrap (j4 + 16))
 else
 J5 j3 j4))
 (bif (decide (a0 ≥ 4294967296)) then
 0 ≤ (32 : Int) ∧
 J2 (shrI .u64 a0 32) 32
 else
 J2 a0 0))
theorem e_math_bits_Len64 (a0 : Int) (w : World) (K : Int → World → Prop) : den Try.prog 25 (bodyOf Try.f133) none (.seq .leaf (.seq (.seq .leaf (.cond (.seq .leaf .leaf) .leaf)) (.seq (.seq .leaf (.cond (.seq .leaf .leaf) .leaf)) (.seq (.seq .leaf (.cond (.seq .leaf .leaf) .leaf)) (.seq .leaf .leaf))))) (argEnv 0 [(Value.int .u64 a0)]) [] w (retK Try.prog [.tmp 2] [.one (.int .i64)] K) = s_math_bits_Len64 a0 w K := by kernel_rfl
theorem ok_math_bits_Len64 {a0 w K} (h : s_math_bits_Len64 a0 w K) : c_math_bits_Len64 a0 w K :=
  fn_sound pok Try.func133 (fn := Try.f133) (c := bodyOf Try.f133) (nt := 25) (by kernel_rfl) (by kernel_rfl) (rs := [.tmp 2]) (by kernel_rfl) [.one (.int .i64)] K (.seq .leaf (.seq (.seq .leaf (.cond (.seq .leaf .leaf) .leaf)) (.seq (.seq .leaf (.cond (.seq .leaf .leaf) .leaf)) (.seq (.seq .leaf (.cond (.seq .leaf .leaf) .leaf)) (.seq .leaf .leaf))))) [(Value.int .u64 a0)] (by kernel_rfl) w ((e_math_bits_Len64 a0 w K).mpr h)

/-- slices.siftDownCmpFunc[goosepond/hash.entry] -/
def s_slices_siftDownCmpFunc_hash_entry (a0 : SliceV) (a1 : Int) (a2 : Int) (a3 : Int) (a4 : Value) (w : World) (K : World → Prop) : Prop :=
 (LoopP (S := Int × Unit) (fun s6 w7 next8 =>
 (bif (decide ((IntKind.i64.wrap ((IntKind.i64.wrap (2 * s6.1)) + 1)) ≥ a2)) then
 K w7
 else
 let J9 : Int → World → Prop := fun j10 w11 =>
 (AtIx a0 3 (IntKind.i64.wrap (a3 + s6.1)) fun a12 =>
 Ld .str w11.drew (a12.add 0) fun x13 =>
 Ld (.int .i64) w11.drew (a12.add 1) fun x14 =>
 Ld .bool w11.drew (a12.add 2) fun x15 =>
 AtIx a0 3 (IntKind.i64.wrap (a3 + j10)) fun a16 =>
 Ld .str w11.drew (a16.add 0) fun x17 =>
 Ld (.int .i64) w11.drew (a16.add 1) fun x18 =>
 Ld .bool w11.drew (a16.add 2) fun x19 =>
 CallV Try.prog [.one (.int .i64)] a4 [(Value.agg ⟨[(Value.string x13), (Value.int .i64 x14), (Value.bool x15)]⟩), (Value.agg ⟨[(Value.string x17), (Value.int .i64 x18), (Value.bool x19)]⟩)] w11.drew fun r20 w21 =>
 ∃ r22 : Int, r20 = (Value.int .i64 r22) ∧
 (bif (!(decide (r22 < 0))) then
 K w21
 else
 AtIx a0 3 (IntKind.i64.wrap (a3 + j10)) fun a23 =>
 Ld .str w21.drew (a23.add 0) fun x24 =>
 Ld (.int .i64) w21.drew (a23.add 1) fun x25 =>
 Ld .bool w21.drew (a23.add 2) fun x26 =>
 AtIx a0 3 (IntKind.i64.wrap (a3 + s6.1)) fun a27 =>
 Ld .str w21.drew (a27.add 0) fun x28 =>
 Ld (.int .i64) w21.drew (a27.add 1) fun x29 =>
 Ld .bool w21.drew (a27.add 2) fun x30 =>
 AtIx a0 3 (IntKind.i64.wrap (a3 + s6.1)) fun a31 =>
 StN [(Value.string x24), (Value.int .i64 x25), (Value.bool x26)] w21.drew a31 0 fun w32 =>
 AtIx a0 3 (IntKind.i64.wrap (a3 + j10)) fun a33 =>
 StN [(Value.string x28), (Value.int .i64 x29), (Value.bool x30)] w32 a33 0 fun w34 =>
 next8 (j10, ()) w34))
 let J35 : Bool → World → Prop := fun j36 w37 =>
 ((bif j36 then
 J9 (IntKind.i64.wrap ((IntKind.i64.wrap ((IntKind.i64.wrap (2 * s6.1)) + 1)) + 1)) w37
 else
 J9 (IntKind.i64.wrap ((IntKind.i64.wrap (2 * s6.1)) + 1)) w37))
 (bif (decide ((IntKind.i64.wrap ((IntKind.i64.wrap ((IntKind.i64.wrap (2 * s6.1)) + 1)) + 1)) < a2)) then
 AtIx a0 3 (IntKind.i64.wrap (a3 + (IntKind.i64.wrap ((IntKind.i64.wrap (2 * s6.1)) + 1)))) fun a38 =>
 Ld .str w7.drew (a38.add 0) fun x39 =>
 Ld (.int .i64) w7.drew (a38.add 1) fun x40 =>
 Ld .bool w7.drew (a38.add 2) fun x41 =>
 AtIx a0 3 (IntKind.i64.wrap ((IntKind.i64.wrap (a3 + (IntKind.i64.wrap ((IntKind.i64.wrap (2 * s6.1)) + 1)))) + 1)) fun a42 =>
 Ld .str w7.drew (a42.add 0) fun x43 =>
 Ld (.int .i64) w7.drew (a42.add 1) fun x44 =>
 Ld .bool w7.drew (a42.add 2) fun x45 =>
 CallV Try.prog [.one (.int .i64)] a4 [(Value.agg ⟨[(Value.string x39), (Value.int .i64 x40), (Value.bool x41)]⟩), (Value.agg ⟨[(Value.string x43), (Value.int .i64 x44), (Value.bool x45)]⟩)] w7.drew fun r46 w47 =>
 ∃ r48 : Int, r46 = (Value.int .i64 r48) ∧
 J35 (decide (r48 < 0)) w47
 else
 J35 false w7.drew))) (a1, ()) w)
theorem e_slices_siftDownCmpFunc_hash_entry (a0 : SliceV) (a1 : Int) (a2 : Int) (a3 : Int) (a4 : Value) (w : World) (K : World → Prop) : den Try.prog 82 (bodyOf Try.f139) none (.seq .leaf (.blk (.loop [(10, (.int .i64))] (.blk (.seq .leaf (.seq (.seq .leaf (.cond .leaf .leaf)) (.seq (.seq .leaf (.cond .leaf .leaf)) (.seq (.seq .leaf (.cond .leaf .leaf)) (.seq .leaf .leaf))))))))) (argEnv 0 [(Value.slice a0.a a0.len a0.cap), (Value.int .i64 a1), (Value.int .i64 a2), (Value.int .i64 a3), a4]) [] w (retK Try.prog [] [] K) = s_slices_siftDownCmpFunc_hash_entry a0 a1 a2 a3 a4 w K := by kernel_rfl
theorem ok_slices_siftDownCmpFunc_hash_entry {a0 a1 a2 a3 a4 w K} (h : s_slices_siftDownCmpFunc_hash_entry a0 a1 a2 a3 a4 w K) : c_slices_siftDownCmpFunc_hash_entry a0 a1 a2 a3 a4 w K :=
  fn_sound pok Try.func139 (fn := Try.f139) (c := bodyOf Try.f139) (nt := 82) (by kernel_rfl) (by kernel_rfl) (rs := []) (by kernel_rfl) [] K (.seq .leaf (.blk (.loop [(10, (.int .i64))] (.blk (.seq .leaf (.seq (.seq .leaf (.cond .leaf .leaf)) (.seq (.seq .leaf (.cond .leaf .leaf)) (.seq (.seq .leaf (.cond .leaf .leaf)) (.seq .leaf .leaf))))))))) [(Value.slice a0.a a0.len a0.cap), (Value.int .i64 a1), (Value.int .i64 a2), (Value.int .i64 a3), a4] (by kernel_rfl) w ((e_slices_siftDownCmpFunc_hash_entry a0 a1 a2 a3 a4 w K).mpr h)

/-- slices.nextPowerOfTwo -/
def s_slices_nextPowerOfTwo (a0 : Int) (w : World) (K : Int → World → Prop) : Prop :=
 (c_math_bits_Len (IntKind.u64.wrap a0) w fun r2 w3 =>
 0 ≤ r2 ∧
 K (shlI .u64 1 r2) w3)
theorem e_slices_nextPowerOfTwo (a0 : Int) (w : World) (K : Int → World → Prop) : den Try.prog 7 (bodyOf Try.f140) none (.seq .leaf (.seq .leaf .leaf)) (argEnv 0 [(Value.int .i64 a0)]) [] w (retK Try.prog [.tmp 2] [.one (.int .u64)] K) = s_slices_nextPowerOfTwo a0 w K := by kernel_rfl
theorem ok_slices_nextPowerOfTwo {a0 w K} (h : s_slices_nextPowerOfTwo a0 w K) : c_slices_nextPowerOfTwo a0 w K :=
  fn_sound pok Try.func140 (fn := Try.f140) (c := bodyOf Try.f140) (nt := 7) (by kernel_rfl) (by kernel_rfl) (rs := [.tmp 2]) (by kernel_rfl) [.one (.int .u64)] K (.seq .leaf (.seq .leaf .leaf)) [(Value.int .i64 a0)] (by kernel_rfl) w ((e_slices_nextPowerOfTwo a0 w K).mpr h)

/-- (*slices.xorshift).Next -/
def s_slices_xorshift_Next (a0 : Option Addr) (w : World) (K : Int → World → Prop) : Prop :=
 (∃ a2 : Addr, a0 = some a2 ∧
 Ld (.int .u64) w.drew a2 fun x3 =>
 ∃ a4 : Addr, a0 = some a4 ∧
 Ld (.int .u64) w.drew a4 fun x5 =>
 0 ≤ (13 : Int) ∧
 ∃ a6 : Addr, a0 = some a6 ∧
 St w.drew a6 (Value.int .u64 (xorI .u64 x3 (shlI .u64 x5 13))) fun w7 =>
 ∃ a8 : Addr, a0 = some a8 ∧
 Ld (.int .u64) w7.drew a8 fun x9 =>
 ∃ a10 : Addr, a0 = some a10 ∧
 Ld (.int .u64) w7.drew a10 fun x11 =>
 0 ≤ (7 : Int) ∧
 ∃ a12 : Addr, a0 = some a12 ∧
 St w7.drew a12 (Value.int .u64 (xorI .u64 x9 (shrI .u64 x11 7))) fun w13 =>
 ∃ a14 : Addr, a0 = some a14 ∧
 Ld (.int .u64) w13.drew a14 fun x15 =>
 ∃ a16 : Addr, a0 = some a16 ∧
 Ld (.int .u64) w13.drew a16 fun x17 =>
 0 ≤ (17 : Int) ∧
 ∃ a18 : Addr, a0 = some a18 ∧
 St w13.drew a18 (Value.int .u64 (xorI .u64 x15 (shlI .u64 x17 17))) fun w19 =>
 ∃ a20 : Addr, a0 = some a20 ∧
 Ld (.int .u64) w19 a20 fun x21 =>
 K x21 w19)
theorem e_slices_xorshift_Next (a0 : Option Addr) (w : World) (K : Int → World → Prop) : den Try.prog 33 (bodyOf Try.f141) none (.seq .leaf (.seq .leaf (.seq .leaf (.seq .leaf (.seq .leaf .leaf))))) (argEnv 0 [(Value.pointer a0)]) [] w (retK Try.prog [.tmp 2] [.one (.int .u64)] K) = s_slices_xorshift_Next a0 w K := by kernel_rfl
theorem ok_slices_xorshift_Next {a0 w K} (h : s_slices_xorshift_Next a0 w K) : c_slices_xorshift_Next a0 w K :=
  fn_sound pok Try.func141 (fn := Try.f141) (c := bodyOf Try.f141) (nt := 33) (by kernel_rfl) (by kernel_rfl) (rs := [.tmp 2]) (by kernel_rfl) [.one (.int .u64)] K (.seq .leaf (.seq .leaf (.seq .leaf (.seq .leaf (.seq .leaf .leaf))))) [(Value.pointer a0)] (by kernel_rfl) w ((e_slices_xorshift_Next a0 w K).mpr h)

/-- slices.medianAdjacentCmpFunc[goosepond/hash.entry] -/
def s_slices_medianAdjacentCmpFunc_hash_entry (a0 : SliceV) (a1 : Int) (a2 : Option Addr) (a3 : Value) (w : World) (K : Int → World → Prop) : Prop :=
 (c_slices_medianCmpFunc_hash_entry a0 (IntKind.i64.wrap (a1 - 1)) a1 (IntKind.i64.wrap (a1 + 1)) a2 a3 w fun r5 w6 =>
 K r5 w6)
theorem e_slices_medianAdjacentCmpFunc_hash_entry (a0 : SliceV) (a1 : Int) (a2 : Option Addr) (a3 : Value) (w : World) (K : Int → World → Prop) : den Try.prog 18 (bodyOf Try.f142) none (.seq .leaf (.seq .leaf .leaf)) (argEnv 0 [(Value.slice a0.a a0.len a0.cap), (Value.int .i64 a1), (Value.pointer a2), a3]) [] w (retK Try.prog [.tmp 8] [.one (.int .i64)] K) = s_slices_medianAdjacentCmpFunc_hash_entry a0 a1 a2 a3 w K := by kernel_rfl
theorem ok_slices_medianAdjacentCmpFunc_hash_entry {a0 a1 a2 a3 w K} (h : s_slices_medianAdjacentCmpFunc_hash_entry a0 a1 a2 a3 w K) : c_slices_medianAdjacentCmpFunc_hash_entry a0 a1 a2 a3 w K :=
  fn_sound pok Try.func142 (fn := Try.f142) (c := bodyOf Try.f142) (nt := 18) (by kernel_rfl) (by kernel_rfl) (rs := [.tmp 8]) (by kernel_rfl) [.one (.int .i64)] K (.seq .leaf (.seq .leaf .leaf)) [(Value.slice a0.a a0.len a0.cap), (Value.int .i64 a1), (Value.pointer a2), a3] (by kernel_rfl) w ((e_slices_medianAdjacentCmpFunc_hash_entry a0 a1 a2 a3 w K).mpr h)

/-- slices.medianCmpFunc[goosepond/hash.entry] -/
def s_slices_medianCmpFunc_hash_entry (a0 : SliceV) (a1 : Int) (a2 : Int) (a3 : Int) (a4 : Option Addr) (a5 : Value) (w : World) (K : Int → World → Prop) : Prop :=
 (c_slices_order2CmpFunc_hash_entry a0 a1 a2 a4 a5 w fun r7 r8 w9 =>
 c_slices_order2CmpFunc_hash_entry a0 r8 a3 a4 a5 w9 fun r10 r11 w12 =>
 c_slices_order2CmpFunc_hash_entry a0 r7 r10 a4 a5 w12 fun r13 r14 w15 =>
 K r14 w15)
theorem e_slices_medianCmpFunc_hash_entry (a0 : SliceV) (a1 : Int) (a2 : Int) (a3 : Int) (a4 : Option Addr) (a5 : Value) (w : World) (K : Int → World → Prop) : den Try.prog 41 (bodyOf Try.f143) none (.seq .leaf (.seq .leaf (.seq .leaf (.seq .leaf (.seq .leaf .leaf))))) (argEnv 0 [(Value.slice a0.a a0.len a0.cap), (Value.int .i64 a1), (Value.int .i64 a2), (Value.int .i64 a3), (Value.pointer a4), a5]) [] w (retK Try.prog [.tmp 12] [.one (.int .i64)] K) = s_slices_medianCmpFunc_hash_entry a0 a1 a2 a3 a4 a5 w K := by kernel_rfl
theorem ok_slices_medianCmpFunc_hash_entry {a0 a1 a2 a3 a4 a5 w K} (h : s_slices_medianCmpFunc_hash_entry a0 a1 a2 a3 a4 a5 w K) : c_slices_medianCmpFunc_hash_entry a0 a1 a2 a3 a4 a5 w K :=
  fn_sound pok Try.func143 (fn := Try.f143) (c := bodyOf Try.f143) (nt := 41) (by kernel_rfl) (by kernel_rfl) (rs := [.tmp 12]) (by kernel_rfl) [.one (.int .i64)] K (.seq .leaf (.seq .leaf (.seq .leaf (.seq .leaf (.seq .leaf .leaf))))) [(Value.slice a0.a a0.len a0.cap), (Value.int .i64 a1), (Value.int .i64 a2), (Value.int .i64 a3), (Value.pointer a4), a5] (by kernel_rfl) w ((e_slices_medianCmpFunc_hash_entry a0 a1 a2 a3 a4 a5 w K).mpr h)

/-- slices.order2CmpFunc[goosepond/hash.entry] -/
def s_slices_order2CmpFunc_hash_entry (a0 : SliceV) (a1 : Int) (a2 : Int) (a3 : Option Addr) (a4 : Value) (w : World) (K : Int → Int → World → Prop) : Prop :=
 (AtIx a0 3 a2 fun a6 =>
 Ld .str w.drew (a6.add 0) fun x7 =>
 Ld (.int .i64) w.drew (a6.add 1) fun x8 =>
 Ld .bool w.drew (a6.add 2) fun x9 =>
 AtIx a0 3 a1 fun a10 =>
 Ld .str w.drew (a10.add 0) fun x11 =>
 Ld (.int .i64) w.drew (a10.add 1) fun x12 =>
 Ld .bool w.drew (a10.add 2) fun x13 =>
 CallV Try.prog [.one (.int .i64)] a4 [(Value.agg ⟨[(Value.string x7), (Value.int .i64 x8), (Value.bool x9)]⟩), (Value.agg ⟨[(Value.string x11), (Value.int .i64 x12), (Value.bool x13)]⟩)] w.drew fun r14 w15 =>
 ∃ r16 : Int, r14 = (Value.int .i64 r16) ∧
 (bif (decide (r16 < 0)) then
 ∃ a17 : Addr, a3 = some a17 ∧
 Ld (.int .i64) w15 a17 fun x18 =>
 ∃ a19 : Addr, a3 = some a19 ∧
 St w15 a19 (Value.int .i64 (IntKind.i64.wrap (x18 + 1))) fun w20 =>
 K a2 a1 w20
 else
 K a1 a2 w15))
theorem e_slices_order2CmpFunc_hash_entry (a0 : SliceV) (a1 : Int) (a2 : Int) (a3 : Option Addr) (a4 : Value) (w : World) (K : Int → Int → World → Prop) : den Try.prog 32 (bodyOf Try.f146) none (.seq .leaf (.seq (.seq .leaf (.cond (.seq .leaf (.seq .leaf .leaf)) .leaf)) (.seq .leaf .leaf))) (argEnv 0 [(Value.slice a0.a a0.len a0.cap), (Value.int .i64 a1), (Value.int .i64 a2), (Value.pointer a3), a4]) [] w (retK Try.prog [.tmp 10, .tmp 11] [.one (.int .i64), .one (.int .i64)] K) = s_slices_order2CmpFunc_hash_entry a0 a1 a2 a3 a4 w K := by kernel_rfl
theorem ok_slices_order2CmpFunc_hash_entry {a0 a1 a2 a3 a4 w K} (h : s_slices_order2CmpFunc_hash_entry a0 a1 a2 a3 a4 w K) : c_slices_order2CmpFunc_hash_entry a0 a1 a2 a3 a4 w K :=
  fn_sound pok Try.func146 (fn := Try.f146) (c := bodyOf Try.f146) (nt := 32) (by kernel_rfl) (by kernel_rfl) (rs := [.tmp 10, .tmp 11]) (by kernel_rfl) [.one (.int .i64), .one (.int .i64)] K (.seq .leaf (.seq (.seq .leaf (.cond (.seq .leaf (.seq .leaf .leaf)) .leaf)) (.seq .leaf .leaf))) [(Value.slice a0.a a0.len a0.cap), (Value.int .i64 a1), (Value.int .i64 a2), (Value.pointer a3), a4] (by kernel_rfl) w ((e_slices_order2CmpFunc_hash_entry a0 a1 a2 a3 a4 w K).mpr h)

end Go.Proofs
