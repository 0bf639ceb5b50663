import Derived.Test.YtfldbmdomfhmpaaFn
import Derived.Test.YtfldbmdomfhmpaaProg
import Derived.KernelRfl
namespace Go.Proofs
open Gp
set_option maxRecDepth 100000
theorem pok : POk Try.prog := POk.of_all (by kernel_rfl) (by kernel_rfl)

/-- goosepond/goosepondlaw18.HashKeeps -/
abbrev n_law18_HashKeeps : FuncId := 3
def c_law18_HashKeeps (a0 : SliceV) (a1 : ByteArray) (w : World) (K : Bool → World → Prop) : Prop :=
  Calls Try.prog 3 ⟨[(Value.slice a0.a a0.len a0.cap), (Value.string a1)]⟩ w fun e w' => ∃ y53 : Bool, e = .returned (Value.bool y53) ∧ K y53 w'
theorem cm_law18_HashKeeps {a0 a1 w K K'} (h : c_law18_HashKeeps a0 a1 w K) (hk : ∀ x0 w', K x0 w' → K' x0 w') : c_law18_HashKeeps a0 a1 w K' :=
  Calls.mono h fun e w' hh => by obtain ⟨x0, he, hx⟩ := hh; exact ⟨x0, he, hk _ _ hx⟩

/-- goosepond/goosepondlaw18.HashMany -/
abbrev n_law18_HashMany : FuncId := 4
def c_law18_HashMany (a0 : Int) (w : World) (K : Bool → World → Prop) : Prop :=
  Calls Try.prog 4 ⟨[(Value.int .u16 a0)]⟩ w fun e w' => ∃ y52 : Bool, e = .returned (Value.bool y52) ∧ K y52 w'
theorem cm_law18_HashMany {a0 w K K'} (h : c_law18_HashMany a0 w K) (hk : ∀ x0 w', K x0 w' → K' x0 w') : c_law18_HashMany a0 w K' :=
  Calls.mono h fun e w' hh => by obtain ⟨x0, he, hx⟩ := hh; exact ⟨x0, he, hk _ _ hx⟩

/-- goosepond/goosepondlaw18.HashNobody -/
abbrev n_law18_HashNobody : FuncId := 6
def c_law18_HashNobody (a0 : ByteArray) (a1 : Int) (w : World) (K : Bool → World → Prop) : Prop :=
  Calls Try.prog 6 ⟨[(Value.string a0), (Value.int .i64 a1)]⟩ w fun e w' => ∃ y44 : Bool, e = .returned (Value.bool y44) ∧ K y44 w'
theorem cm_law18_HashNobody {a0 a1 w K K'} (h : c_law18_HashNobody a0 a1 w K) (hk : ∀ x0 w', K x0 w' → K' x0 w') : c_law18_HashNobody a0 a1 w K' :=
  Calls.mono h fun e w' hh => by obtain ⟨x0, he, hx⟩ := hh; exact ⟨x0, he, hk _ _ hx⟩

/-- goosepond/goosepondlaw18.awake -/
abbrev n_law18_awake : FuncId := 7
def c_law18_awake  (w : World) (K : Bool → World → Prop) : Prop :=
  Calls Try.prog 7 ⟨[]⟩ w fun e w' => ∃ y21 : Bool, e = .returned (Value.bool y21) ∧ K y21 w'
theorem cm_law18_awake { w K K'} (h : c_law18_awake  w K) (hk : ∀ x0 w', K x0 w' → K' x0 w') : c_law18_awake  w K' :=
  Calls.mono h fun e w' hh => by obtain ⟨x0, he, hx⟩ := hh; exact ⟨x0, he, hk _ _ hx⟩

/-- goosepond/hash.New -/
abbrev n_hash_New : FuncId := 8
def c_hash_New (a0 : Int) (w : World) (K : (Option Addr) → Int → World → Prop) : Prop :=
  Calls Try.prog 8 ⟨[(Value.int .i64 a0)]⟩ w fun e w' => ∃ y5 : Option Addr, ∃ y6 : Int, e = .returned (Value.tuple ⟨[(Value.pointer y5), (Value.int .i64 y6)]⟩) ∧ K y5 y6 w'
theorem cm_hash_New {a0 w K K'} (h : c_hash_New a0 w K) (hk : ∀ x0 x1 w', K x0 x1 w' → K' x0 x1 w') : c_hash_New a0 w K' :=
  Calls.mono h fun e w' hh => by obtain ⟨x0, x1, he, hx⟩ := hh; exact ⟨x0, x1, he, hk _ _ _ hx⟩

/-- (*goosepond/hash.Table).Put -/
abbrev n_hash_Table_Put : FuncId := 9
def c_hash_Table_Put (a0 : Option Addr) (a1 : ByteArray) (a2 : Int) (w : World) (K : Int → World → Prop) : Prop :=
  Calls Try.prog 9 ⟨[(Value.pointer a0), (Value.string a1), (Value.int .i64 a2)]⟩ w fun e w' => ∃ y28 : Int, e = .returned (Value.int .i64 y28) ∧ K y28 w'
theorem cm_hash_Table_Put {a0 a1 a2 w K K'} (h : c_hash_Table_Put a0 a1 a2 w K) (hk : ∀ x0 w', K x0 w' → K' x0 w') : c_hash_Table_Put a0 a1 a2 w K' :=
  Calls.mono h fun e w' hh => by obtain ⟨x0, he, hx⟩ := hh; exact ⟨x0, he, hk _ _ hx⟩

/-- (*goosepond/hash.Table).Delete -/
abbrev n_hash_Table_Delete : FuncId := 10
def c_hash_Table_Delete (a0 : Option Addr) (a1 : ByteArray) (w : World) (K : Bool → World → Prop) : Prop :=
  Calls Try.prog 10 ⟨[(Value.pointer a0), (Value.string a1)]⟩ w fun e w' => ∃ y74 : Bool, e = .returned (Value.bool y74) ∧ K y74 w'
theorem cm_hash_Table_Delete {a0 a1 w K K'} (h : c_hash_Table_Delete a0 a1 w K) (hk : ∀ x0 w', K x0 w' → K' x0 w') : c_hash_Table_Delete a0 a1 w K' :=
  Calls.mono h fun e w' hh => by obtain ⟨x0, he, hx⟩ := hh; exact ⟨x0, he, hk _ _ hx⟩

/-- (*goosepond/hash.Table).Get -/
abbrev n_hash_Table_Get : FuncId := 11
def c_hash_Table_Get (a0 : Option Addr) (a1 : ByteArray) (w : World) (K : Int → Bool → World → Prop) : Prop :=
  Calls Try.prog 11 ⟨[(Value.pointer a0), (Value.string a1)]⟩ w fun e w' => ∃ y10 : Int, ∃ y11 : Bool, e = .returned (Value.tuple ⟨[(Value.int .i64 y10), (Value.bool y11)]⟩) ∧ K y10 y11 w'
theorem cm_hash_Table_Get {a0 a1 w K K'} (h : c_hash_Table_Get a0 a1 w K) (hk : ∀ x0 x1 w', K x0 x1 w' → K' x0 x1 w') : c_hash_Table_Get a0 a1 w K' :=
  Calls.mono h fun e w' hh => by obtain ⟨x0, x1, he, hx⟩ := hh; exact ⟨x0, x1, he, hk _ _ _ hx⟩

/-- goosepond/goosepondlaw18.HashMany$1 -/
abbrev n_law18_HashMany_1 : FuncId := 12
def c_law18_HashMany_1 (a0 : Int) (w : World) (K : ByteArray → World → Prop) : Prop :=
  Calls Try.prog 12 ⟨[(Value.int .i64 a0)]⟩ w fun e w' => ∃ y4 : ByteArray, e = .returned (Value.string y4) ∧ K y4 w'
theorem cm_law18_HashMany_1 {a0 w K K'} (h : c_law18_HashMany_1 a0 w K) (hk : ∀ x0 w', K x0 w' → K' x0 w') : c_law18_HashMany_1 a0 w K' :=
  Calls.mono h fun e w' hh => by obtain ⟨x0, he, hx⟩ := hh; exact ⟨x0, he, hk _ _ hx⟩

/-- (*goosepond/hash.Table).Len -/
abbrev n_hash_Table_Len : FuncId := 13
def c_hash_Table_Len (a0 : Option Addr) (w : World) (K : Int → World → Prop) : Prop :=
  Calls Try.prog 13 ⟨[(Value.pointer a0)]⟩ w fun e w' => ∃ y5 : Int, e = .returned (Value.int .i64 y5) ∧ K y5 w'
theorem cm_hash_Table_Len {a0 w K K'} (h : c_hash_Table_Len a0 w K) (hk : ∀ x0 w', K x0 w' → K' x0 w') : c_hash_Table_Len a0 w K' :=
  Calls.mono h fun e w' hh => by obtain ⟨x0, he, hx⟩ := hh; exact ⟨x0, he, hk _ _ hx⟩

/-- (*goosepond/hash.Table).All -/
abbrev n_hash_Table_All : FuncId := 19
def c_hash_Table_All (a0 : Option Addr) (w : World) (K : Value → World → Prop) : Prop :=
  Calls Try.prog 19 ⟨[(Value.pointer a0)]⟩ w fun e w' => ∃ y3 : Value, e = .returned y3 ∧ K y3 w'
theorem cm_hash_Table_All {a0 w K K'} (h : c_hash_Table_All a0 w K) (hk : ∀ x0 w', K x0 w' → K' x0 w') : c_hash_Table_All a0 w K' :=
  Calls.mono h fun e w' hh => by obtain ⟨x0, he, hx⟩ := hh; exact ⟨x0, he, hk _ _ hx⟩

/-- (*goosepond/hash.Table).ready -/
abbrev n_hash_Table_ready : FuncId := 20
def c_hash_Table_ready (a0 : Option Addr) (w : World) (K : Bool → World → Prop) : Prop :=
  Calls Try.prog 20 ⟨[(Value.pointer a0)]⟩ w fun e w' => ∃ y5 : Bool, e = .returned (Value.bool y5) ∧ K y5 w'
theorem cm_hash_Table_ready {a0 w K K'} (h : c_hash_Table_ready a0 w K) (hk : ∀ x0 w', K x0 w' → K' x0 w') : c_hash_Table_ready a0 w K' :=
  Calls.mono h fun e w' hh => by obtain ⟨x0, he, hx⟩ := hh; exact ⟨x0, he, hk _ _ hx⟩

/-- (*goosepond/hash.Table).find -/
abbrev n_hash_Table_find : FuncId := 21
def c_hash_Table_find (a0 : Option Addr) (a1 : ByteArray) (w : World) (K : Int → Bool → World → Prop) : Prop :=
  Calls Try.prog 21 ⟨[(Value.pointer a0), (Value.string a1)]⟩ w fun e w' => ∃ y56 : Int, ∃ y57 : Bool, e = .returned (Value.tuple ⟨[(Value.int .i64 y56), (Value.bool y57)]⟩) ∧ K y56 y57 w'
theorem cm_hash_Table_find {a0 a1 w K K'} (h : c_hash_Table_find a0 a1 w K) (hk : ∀ x0 x1 w', K x0 x1 w' → K' x0 x1 w') : c_hash_Table_find a0 a1 w K' :=
  Calls.mono h fun e w' hh => by obtain ⟨x0, x1, he, hx⟩ := hh; exact ⟨x0, x1, he, hk _ _ _ hx⟩

/-- (*goosepond/hash.Table).grow -/
abbrev n_hash_Table_grow : FuncId := 22
def c_hash_Table_grow (a0 : Option Addr) (w : World) (K : World → Prop) : Prop :=
  Calls Try.prog 22 ⟨[(Value.pointer a0)]⟩ w fun e w' => e = .returned (Value.tuple ⟨[]⟩) ∧ K w'
theorem cm_hash_Table_grow {a0 w K K'} (h : c_hash_Table_grow a0 w K) (hk : ∀  w', K  w' → K'  w') : c_hash_Table_grow a0 w K' :=
  Calls.mono h fun e w' hh => by obtain ⟨he, hx⟩ := hh; exact ⟨he, hk  _ hx⟩

/-- (*goosepond/hash.Table).walk -/
abbrev n_hash_Table_walk : FuncId := 23
def c_hash_Table_walk (a0 : Option Addr) (a1 : Int) (w : World) (K : Value → World → Prop) : Prop :=
  Calls Try.prog 23 ⟨[(Value.pointer a0), (Value.int .i64 a1)]⟩ w fun e w' => ∃ y5 : Value, e = .returned y5 ∧ K y5 w'
theorem cm_hash_Table_walk {a0 a1 w K K'} (h : c_hash_Table_walk a0 a1 w K) (hk : ∀ x0 w', K x0 w' → K' x0 w') : c_hash_Table_walk a0 a1 w K' :=
  Calls.mono h fun e w' hh => by obtain ⟨x0, he, hx⟩ := hh; exact ⟨x0, he, hk _ _ hx⟩

/-- (*goosepond/hash.Table).All$1 -/
abbrev n_hash_Table_All_1 : FuncId := 24
def c_hash_Table_All_1 (a0 : Value) (f0 : Addr) (w : World) (K : World → Prop) : Prop :=
  Calls Try.prog 24 ⟨[a0, (Value.pointer (some f0))]⟩ w fun e w' => e = .returned (Value.tuple ⟨[]⟩) ∧ K w'
theorem cm_hash_Table_All_1 {a0 f0 w K K'} (h : c_hash_Table_All_1 a0 f0 w K) (hk : ∀  w', K  w' → K'  w') : c_hash_Table_All_1 a0 f0 w K' :=
  Calls.mono h fun e w' hh => by obtain ⟨he, hx⟩ := hh; exact ⟨he, hk  _ hx⟩

/-- slices.DeleteFunc[[]goosepond/hash.entry,goosepond/hash.entry] -/
abbrev n_slices_DeleteFunc_hash_entry_hash_entry : FuncId := 25
def c_slices_DeleteFunc_hash_entry_hash_entry (a0 : SliceV) (a1 : Value) (w : World) (K : SliceV → World → Prop) : Prop :=
  Calls Try.prog 25 ⟨[(Value.slice a0.a a0.len a0.cap), a1]⟩ w fun e w' => ∃ y32 : SliceV, e = .returned (Value.slice y32.a y32.len y32.cap) ∧ K y32 w'
theorem cm_slices_DeleteFunc_hash_entry_hash_entry {a0 a1 w K K'} (h : c_slices_DeleteFunc_hash_entry_hash_entry a0 a1 w K) (hk : ∀ x0 w', K x0 w' → K' x0 w') : c_slices_DeleteFunc_hash_entry_hash_entry a0 a1 w K' :=
  Calls.mono h fun e w' hh => by obtain ⟨x0, he, hx⟩ := hh; exact ⟨x0, he, hk _ _ hx⟩

/-- slices.Clone[[]goosepond/hash.entry,goosepond/hash.entry] -/
abbrev n_slices_Clone_hash_entry_hash_entry : FuncId := 26
def c_slices_Clone_hash_entry_hash_entry (a0 : SliceV) (w : World) (K : SliceV → World → Prop) : Prop :=
  Calls Try.prog 26 ⟨[(Value.slice a0.a a0.len a0.cap)]⟩ w fun e w' => ∃ y5 : SliceV, e = .returned (Value.slice y5.a y5.len y5.cap) ∧ K y5 w'
theorem cm_slices_Clone_hash_entry_hash_entry {a0 w K K'} (h : c_slices_Clone_hash_entry_hash_entry a0 w K) (hk : ∀ x0 w', K x0 w' → K' x0 w') : c_slices_Clone_hash_entry_hash_entry a0 w K' :=
  Calls.mono h fun e w' hh => by obtain ⟨x0, he, hx⟩ := hh; exact ⟨x0, he, hk _ _ hx⟩

/-- (*goosepond/hash.Table).All$1$1 -/
abbrev n_hash_Table_All_1_1 : FuncId := 27
def c_hash_Table_All_1_1 (a0_0 : ByteArray) (a0_1 : Int) (a0_2 : Bool) (w : World) (K : Bool → World → Prop) : Prop :=
  Calls Try.prog 27 ⟨[(Value.agg ⟨[(Value.string a0_0), (Value.int .i64 a0_1), (Value.bool a0_2)]⟩)]⟩ w fun e w' => ∃ y4 : Bool, e = .returned (Value.bool y4) ∧ K y4 w'
theorem cm_hash_Table_All_1_1 {a0_0 a0_1 a0_2 w K K'} (h : c_hash_Table_All_1_1 a0_0 a0_1 a0_2 w K) (hk : ∀ x0 w', K x0 w' → K' x0 w') : c_hash_Table_All_1_1 a0_0 a0_1 a0_2 w K' :=
  Calls.mono h fun e w' hh => by obtain ⟨x0, he, hx⟩ := hh; exact ⟨x0, he, hk _ _ hx⟩

/-- slices.SortFunc[[]goosepond/hash.entry,goosepond/hash.entry] -/
abbrev n_slices_SortFunc_hash_entry_hash_entry : FuncId := 28
def c_slices_SortFunc_hash_entry_hash_entry (a0 : SliceV) (a1 : Value) (w : World) (K : World → Prop) : Prop :=
  Calls Try.prog 28 ⟨[(Value.slice a0.a a0.len a0.cap), a1]⟩ w fun e w' => e = .returned (Value.tuple ⟨[]⟩) ∧ K w'
theorem cm_slices_SortFunc_hash_entry_hash_entry {a0 a1 w K K'} (h : c_slices_SortFunc_hash_entry_hash_entry a0 a1 w K) (hk : ∀  w', K  w' → K'  w') : c_slices_SortFunc_hash_entry_hash_entry a0 a1 w K' :=
  Calls.mono h fun e w' hh => by obtain ⟨he, hx⟩ := hh; exact ⟨he, hk  _ hx⟩

/-- (*goosepond/hash.Table).All$1$2 -/
abbrev n_hash_Table_All_1_2 : FuncId := 29
def c_hash_Table_All_1_2 (a0_0 : ByteArray) (a0_1 : Int) (a0_2 : Bool) (a1_0 : ByteArray) (a1_1 : Int) (a1_2 : Bool) (w : World) (K : Int → World → Prop) : Prop :=
  Calls Try.prog 29 ⟨[(Value.agg ⟨[(Value.string a0_0), (Value.int .i64 a0_1), (Value.bool a0_2)]⟩), (Value.agg ⟨[(Value.string a1_0), (Value.int .i64 a1_1), (Value.bool a1_2)]⟩)]⟩ w fun e w' => ∃ y9 : Int, e = .returned (Value.int .i64 y9) ∧ K y9 w'
theorem cm_hash_Table_All_1_2 {a0_0 a0_1 a0_2 a1_0 a1_1 a1_2 w K K'} (h : c_hash_Table_All_1_2 a0_0 a0_1 a0_2 a1_0 a1_1 a1_2 w K) (hk : ∀ x0 w', K x0 w' → K' x0 w') : c_hash_Table_All_1_2 a0_0 a0_1 a0_2 a1_0 a1_1 a1_2 w K' :=
  Calls.mono h fun e w' hh => by obtain ⟨x0, he, hx⟩ := hh; exact ⟨x0, he, hk _ _ hx⟩

/-- cmp.Compare[string] -/
abbrev n_cmp_Compare_string : FuncId := 30
def c_cmp_Compare_string (a0 : ByteArray) (a1 : ByteArray) (w : World) (K : Int → World → Prop) : Prop :=
  Calls Try.prog 30 ⟨[(Value.string a0), (Value.string a1)]⟩ w fun e w' => ∃ y5 : Int, e = .returned (Value.int .i64 y5) ∧ K y5 w'
theorem cm_cmp_Compare_string {a0 a1 w K K'} (h : c_cmp_Compare_string a0 a1 w K) (hk : ∀ x0 w', K x0 w' → K' x0 w') : c_cmp_Compare_string a0 a1 w K' :=
  Calls.mono h fun e w' hh => by obtain ⟨x0, he, hx⟩ := hh; exact ⟨x0, he, hk _ _ hx⟩

/-- goosepond/hash.home -/
abbrev n_hash_home : FuncId := 31
def c_hash_home (a0 : ByteArray) (a1 : Int) (w : World) (K : Int → World → Prop) : Prop :=
  Calls Try.prog 31 ⟨[(Value.string a0), (Value.int .i64 a1)]⟩ w fun e w' => ∃ y5 : Int, e = .returned (Value.int .i64 y5) ∧ K y5 w'
theorem cm_hash_home {a0 a1 w K K'} (h : c_hash_home a0 a1 w K) (hk : ∀ x0 w', K x0 w' → K' x0 w') : c_hash_home a0 a1 w K' :=
  Calls.mono h fun e w' hh => by obtain ⟨x0, he, hx⟩ := hh; exact ⟨x0, he, hk _ _ hx⟩

/-- (*goosepond/hash.Table).walk$1 -/
abbrev n_hash_Table_walk_1 : FuncId := 32
def c_hash_Table_walk_1 (a0 : Value) (f0 : Addr) (f1 : Addr) (w : World) (K : World → Prop) : Prop :=
  Calls Try.prog 32 ⟨[a0, (Value.pointer (some f0)), (Value.pointer (some f1))]⟩ w fun e w' => e = .returned (Value.tuple ⟨[]⟩) ∧ K w'
theorem cm_hash_Table_walk_1 {a0 f0 f1 w K K'} (h : c_hash_Table_walk_1 a0 f0 f1 w K) (hk : ∀  w', K  w' → K'  w') : c_hash_Table_walk_1 a0 f0 f1 w K' :=
  Calls.mono h fun e w' hh => by obtain ⟨he, hx⟩ := hh; exact ⟨he, hk  _ hx⟩

/-- cmp.isNaN[string] -/
abbrev n_cmp_isNaN_string : FuncId := 36
def c_cmp_isNaN_string (a0 : ByteArray) (w : World) (K : Bool → World → Prop) : Prop :=
  Calls Try.prog 36 ⟨[(Value.string a0)]⟩ w fun e w' => ∃ y1 : Bool, e = .returned (Value.bool y1) ∧ K y1 w'
theorem cm_cmp_isNaN_string {a0 w K K'} (h : c_cmp_isNaN_string a0 w K) (hk : ∀ x0 w', K x0 w' → K' x0 w') : c_cmp_isNaN_string a0 w K' :=
  Calls.mono h fun e w' hh => by obtain ⟨x0, he, hx⟩ := hh; exact ⟨x0, he, hk _ _ hx⟩

/-- goosepond/goosepondlaw18.HashKeeps -/
def s_law18_HashKeeps (a0 : SliceV) (a1 : ByteArray) (w : World) (K : Bool → World → Prop) : Prop :=
 c_law18_awake  w fun r1 w2 =>
 (bif (!r1) then
 K false w2
 else
 let J3 : Bool → Prop := fun j4 =>
 ((bif j4 then
 c_law18_awake  w2 fun r5 w6 =>
 K r5 w6
 else
 c_hash_New 200 w2 fun r7 r8 w9 =>
 let J10 : Bool → World → Prop := fun j11 w12 =>
 ((bif j11 then
 K false w12
 else
 LoopP (S := Int × Unit) (fun s13 w14 next15 =>
 (bif (decide (s13.1 < (a0.len : Int))) then
 let J16 : World → Prop := fun w17 =>
 (next15 ((IntKind.i64.wrap (s13.1 + 1)), ()) w17)
 AtIx a0 3 s13.1 fun a18 =>
 Ld (.int .i64) w14 (a18.add 0) fun x19 =>
 Ld .str w14 (a18.add 1) fun x20 =>
 Ld (.int .i64) w14 (a18.add 2) fun x21 =>
 Al w14 (.cells ⟨[(Value.int .i64 0), (Value.string (bs [])), (Value.int .i64 0)]⟩ 30) fun a23 w22 =>
 St w22 (a23.add 0) (Value.int .i64 x19) fun w24 =>
 St w24 (a23.add 1) (Value.string x20) fun w25 =>
 St w25 (a23.add 2) (Value.int .i64 x21) fun w26 =>
 let J27 : Bool → Prop := fun j28 =>
 ((bif j28 then
 J16 w26
 else
 Ld (.int .i64) w26 a23 fun x29 =>
 (bif (x29 == 3) then
 Ld .str w26 (a23.add 1) fun x30 =>
 c_hash_Table_Delete r7 x30 w26 fun r31 w32 =>
 J16 w32
 else
 Ld .str w26 (a23.add 1) fun x33 =>
 Ld (.int .i64) w26 (a23.add 2) fun x34 =>
 c_hash_Table_Put r7 x33 x34 w26 fun r35 w36 =>
 (bif (r35 != 0) then
 K false w36
 else
 J16 w36))))
 Ld .str w26 (a23.add 1) fun x37 =>
 (bif (strEq x37 a1) then
 J27 true
 else
 Ld .str w26 (a23.add 1) fun x38 =>
 J27 (decide ((x38.size : Int) > 200)))
 else
 c_hash_Table_Get r7 a1 w14 fun r39 r40 w41 =>
 let J42 : Bool → World → Prop := fun j43 w44 =>
 (K j43 w44)
 (bif r40 then
 (bif (r39 == 77) then
 c_hash_Table_Delete r7 a1 w41 fun r45 w46 =>
 (bif r45 then
 c_hash_Table_Delete r7 a1 w46 fun r47 w48 =>
 (bif (!r47) then
 c_law18_awake  w48 fun r49 w50 =>
 J42 r49 w50
 else
 J42 false w48)
 else
 J42 false w46)
 else
 J42 false w41)
 else
 J42 false w41))) (0, ()) w12))
 (bif (Option.isNone r7) then
 J10 true w9
 else
 (bif (r8 != 0) then
 J10 true w9
 else
 c_hash_Table_Put r7 a1 77 w9 fun r51 w52 =>
 J10 (r51 != 0) w52))))
 (bif (decide ((a0.len : Int) > 100)) then
 J3 true
 else
 J3 (decide ((a1.size : Int) > 200))))
theorem e_law18_HashKeeps (a0 : SliceV) (a1 : ByteArray) (w : World) (K : Bool → World → Prop) : den Try.prog 94 (bodyOf Try.f3) none (.seq .leaf (.seq (.seq .leaf (.cond (.seq .leaf .leaf) .leaf)) (.seq (.seq .leaf (.cond (.seq .leaf .leaf) .leaf)) (.seq .leaf (.seq (.seq .leaf (.cond (.seq .leaf .leaf) .leaf)) (.seq (.seq .leaf (.blk (.loop [(40, (.int .i64))] (.seq .leaf (.seq (.cond .leaf .leaf) (.seq (.blk (.seq .leaf (.seq (.seq .leaf (.cond .leaf .leaf)) (.seq .leaf (.cond .leaf (.seq .leaf (.cond (.seq .leaf .leaf) .leaf))))))) .leaf)))))) (.seq .leaf (.seq .leaf .leaf)))))))) (argEnv 0 [(Value.slice a0.a a0.len a0.cap), (Value.string a1)]) [] w (retK Try.prog [.tmp 4] [.one .bool] K) = s_law18_HashKeeps a0 a1 w K := by kernel_rfl
theorem ok_law18_HashKeeps {a0 a1 w K} (h : s_law18_HashKeeps a0 a1 w K) : c_law18_HashKeeps a0 a1 w K :=
  fn_sound pok Try.func3 (fn := Try.f3) (c := bodyOf Try.f3) (nt := 94) (by kernel_rfl) (by kernel_rfl) (rs := [.tmp 4]) (by kernel_rfl) [.one .bool] K (.seq .leaf (.seq (.seq .leaf (.cond (.seq .leaf .leaf) .leaf)) (.seq (.seq .leaf (.cond (.seq .leaf .leaf) .leaf)) (.seq .leaf (.seq (.seq .leaf (.cond (.seq .leaf .leaf) .leaf)) (.seq (.seq .leaf (.blk (.loop [(40, (.int .i64))] (.seq .leaf (.seq (.cond .leaf .leaf) (.seq (.blk (.seq .leaf (.seq (.seq .leaf (.cond .leaf .leaf)) (.seq .leaf (.cond .leaf (.seq .leaf (.cond (.seq .leaf .leaf) .leaf))))))) .leaf)))))) (.seq .leaf (.seq .leaf .leaf)))))))) [(Value.slice a0.a a0.len a0.cap), (Value.string a1)] (by kernel_rfl) w ((e_law18_HashKeeps a0 a1 w K).mpr h)

/-- goosepond/goosepondlaw18.HashMany -/
def s_law18_HashMany (a0 : Int) (w : World) (K : Bool → World → Prop) : Prop :=
 c_law18_awake  w fun r1 w2 =>
 (bif (!r1) then
 K false w2
 else
 (700 : Int) ≠ 0 ∧
 c_hash_New (IntKind.i64.wrap (Int.tmod a0 700)) w2 fun r3 r4 w5 =>
 let J6 : Bool → Prop := fun j7 =>
 ((bif j7 then
 K false w5
 else
 LoopP (S := Int × Unit) (fun s8 w9 next10 =>
 (bif (decide (s8.1 < (IntKind.i64.wrap (Int.tmod a0 700)))) then
 CallV Try.prog [.one .str] (Value.func (.func 12) #[] #[]) [(Value.int .i64 s8.1)] w9 fun r11 w12 =>
 ∃ r13 : ByteArray, r11 = (Value.string r13) ∧
 c_hash_Table_Put r3 r13 s8.1 w12 fun r14 w15 =>
 (bif (r14 != 0) then
 K false w15
 else
 next10 ((IntKind.i64.wrap (s8.1 + 1)), ()) w15)
 else
 LoopP (S := Int × Unit) (fun s16 w17 next18 =>
 (bif (decide (s16.1 < (IntKind.i64.wrap (Int.tmod a0 700)))) then
 let J19 : Bool → World → Prop := fun j20 w21 =>
 ((bif j20 then
 K false w21
 else
 next18 ((IntKind.i64.wrap (s16.1 + 3)), ()) w21))
 CallV Try.prog [.one .str] (Value.func (.func 12) #[] #[]) [(Value.int .i64 s16.1)] w17 fun r22 w23 =>
 ∃ r24 : ByteArray, r22 = (Value.string r24) ∧
 c_hash_Table_Delete r3 r24 w23 fun r25 w26 =>
 (bif (!r25) then
 J19 true w26
 else
 CallV Try.prog [.one .str] (Value.func (.func 12) #[] #[]) [(Value.int .i64 s16.1)] w26 fun r27 w28 =>
 ∃ r29 : ByteArray, r27 = (Value.string r29) ∧
 c_hash_Table_Put r3 r29 (IntKind.i64.wrap (0 - s16.1)) w28 fun r30 w31 =>
 J19 (r30 != 0) w31)
 else
 LoopP (S := Int × Unit) (fun s32 w33 next34 =>
 (bif (decide (s32.1 < (IntKind.i64.wrap (Int.tmod a0 700)))) then
 CallV Try.prog [.one .str] (Value.func (.func 12) #[] #[]) [(Value.int .i64 s32.1)] w33 fun r35 w36 =>
 ∃ r37 : ByteArray, r35 = (Value.string r37) ∧
 c_hash_Table_Get r3 r37 w36 fun r38 r39 w40 =>
 let J41 : Bool → Prop := fun j42 =>
 ((bif j42 then
 K false w40
 else
 next34 ((IntKind.i64.wrap (s32.1 + 1)), ()) w40))
 (bif (!r39) then
 J41 true
 else
 (3 : Int) ≠ 0 ∧
 (bif ((Int.tmod s32.1 3) == 0) then
 (bif (r38 != (IntKind.i64.wrap (0 - s32.1))) then
 J41 true
 else
 (3 : Int) ≠ 0 ∧
 (bif ((Int.tmod s32.1 3) != 0) then
 J41 (r38 != s32.1)
 else
 J41 false))
 else
 (3 : Int) ≠ 0 ∧
 (bif ((Int.tmod s32.1 3) != 0) then
 J41 (r38 != s32.1)
 else
 J41 false)))
 else
 let J43 : Bool → World → Prop := fun j44 w45 =>
 (K j44 w45)
 c_hash_Table_Len r3 w33 fun r46 w47 =>
 (bif (r46 == (IntKind.i64.wrap (Int.tmod a0 700))) then
 c_hash_Table_Put r3 (bs [110, 101, 119]) 1 w47 fun r48 w49 =>
 (bif (r48 == 7) then
 c_law18_awake  w49 fun r50 w51 =>
 J43 r50 w51
 else
 J43 false w49)
 else
 J43 false w47))) (0, ()) w17)) (0, ()) w9)) (0, ()) w5))
 (bif (Option.isNone r3) then
 J6 true
 else
 J6 (r4 != 0)))
theorem e_law18_HashMany (a0 : Int) (w : World) (K : Bool → World → Prop) : den Try.prog 109 (bodyOf Try.f4) none (.seq .leaf (.seq (.seq .leaf (.cond (.seq .leaf .leaf) .leaf)) (.seq .leaf (.seq .leaf (.seq (.seq .leaf (.cond (.seq .leaf .leaf) .leaf)) (.seq .leaf (.seq (.seq .leaf (.blk (.loop [(29, (.int .i64))] (.seq .leaf (.seq (.cond .leaf .leaf) (.seq (.blk (.seq .leaf (.seq .leaf (.cond (.seq .leaf .leaf) .leaf)))) .leaf)))))) (.seq (.seq .leaf (.blk (.loop [(8, (.int .i64))] (.seq (.seq .leaf (.cond .leaf .leaf)) (.seq (.blk (.seq .leaf (.cond (.seq .leaf .leaf) .leaf))) .leaf))))) (.seq (.seq .leaf (.blk (.loop [(62, (.int .i64))] (.seq .leaf (.seq (.cond .leaf .leaf) (.seq (.blk (.seq .leaf (.seq .leaf (.seq .leaf (.cond (.seq .leaf .leaf) .leaf))))) .leaf)))))) (.seq .leaf .leaf)))))))))) (argEnv 0 [(Value.int .u16 a0)]) [] w (retK Try.prog [.tmp 2] [.one .bool] K) = s_law18_HashMany a0 w K := by kernel_rfl
theorem ok_law18_HashMany {a0 w K} (h : s_law18_HashMany a0 w K) : c_law18_HashMany a0 w K :=
  fn_sound pok Try.func4 (fn := Try.f4) (c := bodyOf Try.f4) (nt := 109) (by kernel_rfl) (by kernel_rfl) (rs := [.tmp 2]) (by kernel_rfl) [.one .bool] K (.seq .leaf (.seq (.seq .leaf (.cond (.seq .leaf .leaf) .leaf)) (.seq .leaf (.seq .leaf (.seq (.seq .leaf (.cond (.seq .leaf .leaf) .leaf)) (.seq .leaf (.seq (.seq .leaf (.blk (.loop [(29, (.int .i64))] (.seq .leaf (.seq (.cond .leaf .leaf) (.seq (.blk (.seq .leaf (.seq .leaf (.cond (.seq .leaf .leaf) .leaf)))) .leaf)))))) (.seq (.seq .leaf (.blk (.loop [(8, (.int .i64))] (.seq (.seq .leaf (.cond .leaf .leaf)) (.seq (.blk (.seq .leaf (.cond (.seq .leaf .leaf) .leaf))) .leaf))))) (.seq (.seq .leaf (.blk (.loop [(62, (.int .i64))] (.seq .leaf (.seq (.cond .leaf .leaf) (.seq (.blk (.seq .leaf (.seq .leaf (.seq .leaf (.cond (.seq .leaf .leaf) .leaf))))) .leaf)))))) (.seq .leaf .leaf)))))))))) [(Value.int .u16 a0)] (by kernel_rfl) w ((e_law18_HashMany a0 w K).mpr h)

/-- goosepond/goosepondlaw18.HashNobody -/
def s_law18_HashNobody (a0 : ByteArray) (a1 : Int) (w : World) (K : Bool → World → Prop) : Prop :=
 Al w (.cells ⟨[(Value.bool false)]⟩ 4) fun a2 w1 =>
 c_law18_awake  w1 fun r3 w4 =>
 (bif (!r3) then
 St w4 a2 (Value.bool false) fun w5 =>
 Ld .bool w5 a2 fun y6 =>
 K y6 w5
 else
 Al w4 (.cells ⟨[(Value.slice none 0 0), (Value.int .i64 0), (Value.int .i64 0), (Value.bool false)]⟩ 48) fun a8 w7 =>
 c_hash_Table_All none w7 fun r9 w10 =>
 RngP Try.prog none [.str, (.int .i64)] r9 w10 (fun l11 x12 W13 Kb14 =>
 W13.heap[l11]? = W13.heap[l11]? ∧
 St (busyW W13 l11) a2 (Value.bool false) fun w15 =>
 Kb14 .ret w15)
 (fun w16 =>
 c_hash_Table_Get (some a8) a0 w16 fun r17 r18 w19 =>
 let J20 : World → Prop := fun w21 =>
 (w21.heap[w10.heap.size]? = some (.deferred (some [])) ∧
 Ld .bool (w21.putObj w10.heap.size (.deferred none)) a2 fun y22 =>
 K y22 (w21.putObj w10.heap.size (.deferred none)))
 c_hash_Table_Put none a0 a1 w19 fun r23 w24 =>
 (bif (r23 == 2) then
 c_hash_Table_Put (some a8) a0 a1 w24 fun r25 w26 =>
 (bif (r25 == 2) then
 c_hash_Table_Delete none a0 w26 fun r27 w28 =>
 (bif (!r27) then
 (bif (!r18) then
 c_hash_Table_Len none w28 fun r29 w30 =>
 (bif (r29 == 0) then
 c_hash_Table_Len (some a8) w30 fun r31 w32 =>
 (bif (r31 == 0) then
 c_law18_awake  w32 fun r33 w34 =>
 St w34 a2 (Value.bool r33) fun w35 =>
 J20 w35
 else
 St w32 a2 (Value.bool false) fun w36 =>
 J20 w36)
 else
 St w30 a2 (Value.bool false) fun w37 =>
 J20 w37)
 else
 St w28 a2 (Value.bool false) fun w38 =>
 J20 w38)
 else
 St w28 a2 (Value.bool false) fun w39 =>
 J20 w39)
 else
 St w26 a2 (Value.bool false) fun w40 =>
 J20 w40)
 else
 St w24 a2 (Value.bool false) fun w41 =>
 J20 w41))
 (fun w42 =>
 w42.heap[w10.heap.size]? = some (.deferred (some [])) ∧
 Ld .bool (w42.putObj w10.heap.size (.deferred none)) a2 fun y43 =>
 K y43 (w42.putObj w10.heap.size (.deferred none)))
 [])
theorem e_law18_HashNobody (a0 : ByteArray) (a1 : Int) (w : World) (K : Bool → World → Prop) : den Try.prog 53 (bodyOf Try.f6) none (.seq .leaf (.seq (.seq .leaf (.cond (.seq .leaf .leaf) .leaf)) (.seq .leaf (.seq .leaf (.seq (.seq .leaf (.blk (.rng [.str, (.int .i64)] .leaf (.blk (.seq .leaf .leaf))))) (.seq .leaf (.seq .leaf .leaf))))))) (argEnv 0 [(Value.string a0), (Value.int .i64 a1)]) [] w (retK Try.prog [.cell 4 4] [.one .bool] K) = s_law18_HashNobody a0 a1 w K := by kernel_rfl
theorem ok_law18_HashNobody {a0 a1 w K} (h : s_law18_HashNobody a0 a1 w K) : c_law18_HashNobody a0 a1 w K :=
  fn_sound pok Try.func6 (fn := Try.f6) (c := bodyOf Try.f6) (nt := 53) (by kernel_rfl) (by kernel_rfl) (rs := [.cell 4 4]) (by kernel_rfl) [.one .bool] K (.seq .leaf (.seq (.seq .leaf (.cond (.seq .leaf .leaf) .leaf)) (.seq .leaf (.seq .leaf (.seq (.seq .leaf (.blk (.rng [.str, (.int .i64)] .leaf (.blk (.seq .leaf .leaf))))) (.seq .leaf (.seq .leaf .leaf))))))) [(Value.string a0), (Value.int .i64 a1)] (by kernel_rfl) w ((e_law18_HashNobody a0 a1 w K).mpr h)

/-- goosepond/goosepondlaw18.awake -/
def s_law18_awake  (w : World) (K : Bool → World → Prop) : Prop :=
 c_hash_New 1 w fun r1 r2 w3 =>
 let J4 : Bool → World → Prop := fun j5 w6 =>
 ((bif j5 then
 K false w6
 else
 c_hash_Table_Get r1 (bs [97]) w6 fun r7 r8 w9 =>
 let J10 : Bool → World → Prop := fun j11 w12 =>
 (K j11 w12)
 (bif r8 then
 (bif (r7 == 1) then
 c_hash_Table_Delete r1 (bs [97]) w9 fun r13 w14 =>
 (bif r13 then
 c_hash_Table_Len r1 w14 fun r15 w16 =>
 J10 (r15 == 0) w16
 else
 J10 false w14)
 else
 J10 false w9)
 else
 J10 false w9)))
 (bif (Option.isNone r1) then
 J4 true w3
 else
 (bif (r2 != 0) then
 J4 true w3
 else
 c_hash_Table_Put r1 (bs [97]) 1 w3 fun r17 w18 =>
 (bif (r17 != 0) then
 J4 true w18
 else
 c_hash_Table_Put r1 (bs [98]) 2 w18 fun r19 w20 =>
 J4 (r19 != 7) w20)))
theorem e_law18_awake  (w : World) (K : Bool → World → Prop) : den Try.prog 44 (bodyOf Try.f7) none (.seq .leaf (.seq .leaf (.seq (.seq .leaf (.cond (.seq .leaf .leaf) .leaf)) (.seq .leaf (.seq .leaf .leaf))))) (argEnv 0 []) [] w (retK Try.prog [.tmp 0] [.one .bool] K) = s_law18_awake  w K := by kernel_rfl
theorem ok_law18_awake { w K} (h : s_law18_awake  w K) : c_law18_awake  w K :=
  fn_sound pok Try.func7 (fn := Try.f7) (c := bodyOf Try.f7) (nt := 44) (by kernel_rfl) (by kernel_rfl) (rs := [.tmp 0]) (by kernel_rfl) [.one .bool] K (.seq .leaf (.seq .leaf (.seq (.seq .leaf (.cond (.seq .leaf .leaf) .leaf)) (.seq .leaf (.seq .leaf .leaf))))) [] (by kernel_rfl) w ((e_law18_awake  w K).mpr h)

/-- goosepond/hash.New -/
def s_hash_New (a0 : Int) (w : World) (K : (Option Addr) → Int → World → Prop) : Prop :=
 let J1 : Bool → Prop := fun j2 =>
 ((bif j2 then
 K none 1 w
 else
 Al w (.cells ⟨[(Value.slice none 0 0), (Value.int .i64 0), (Value.int .i64 a0), (Value.bool true)]⟩ 48) fun a4 w3 =>
 K (some a4) 0 w3))
 (bif (decide (a0 < 0)) then
 J1 true
 else
 J1 (decide (a0 > 65536)))
theorem e_hash_New (a0 : Int) (w : World) (K : (Option Addr) → Int → World → Prop) : den Try.prog 13 (bodyOf Try.f8) none (.seq .leaf (.seq (.seq .leaf (.cond (.seq .leaf .leaf) .leaf)) (.seq .leaf .leaf))) (argEnv 0 [(Value.int .i64 a0)]) [] w (retK Try.prog [.tmp 2, .tmp 3] [.one .ptr, .one (.int .i64)] K) = s_hash_New a0 w K := by kernel_rfl
theorem ok_hash_New {a0 w K} (h : s_hash_New a0 w K) : c_hash_New a0 w K :=
  fn_sound pok Try.func8 (fn := Try.f8) (c := bodyOf Try.f8) (nt := 13) (by kernel_rfl) (by kernel_rfl) (rs := [.tmp 2, .tmp 3]) (by kernel_rfl) [.one .ptr, .one (.int .i64)] K (.seq .leaf (.seq (.seq .leaf (.cond (.seq .leaf .leaf) .leaf)) (.seq .leaf .leaf))) [(Value.int .i64 a0)] (by kernel_rfl) w ((e_hash_New a0 w K).mpr h)

/-- (*goosepond/hash.Table).Put -/
def s_hash_Table_Put (a0 : Option Addr) (a1 : ByteArray) (a2 : Int) (w : World) (K : Int → World → Prop) : Prop :=
 c_hash_Table_ready a0 w fun r1 w2 =>
 (bif (!r1) then
 K 2 w2
 else
 c_hash_Table_find a0 a1 w2 fun r3 r4 w5 =>
 (bif r4 then
 ∃ a6 : Addr, a0 = some a6 ∧
 Ld .slice w5 a6 fun x7 =>
 AtIx x7 3 r3 fun a8 =>
 St w5 (a8.add 1) (Value.int .i64 a2) fun w9 =>
 K 0 w9
 else
 ∃ a10 : Addr, a0 = some a10 ∧
 Ld (.int .i64) w5.drew (a10.add 1) fun x11 =>
 ∃ a12 : Addr, a0 = some a12 ∧
 Ld (.int .i64) w5.drew (a12.add 2) fun x13 =>
 (bif (decide (x11 ≥ x13)) then
 K 7 w5.drew
 else
 c_hash_Table_grow a0 w5.drew fun w14 =>
 c_hash_Table_find a0 a1 w14 fun r15 r16 w17 =>
 ∃ a18 : Addr, a0 = some a18 ∧
 Ld .slice w17 a18 fun x19 =>
 AtIx x19 3 r15 fun a20 =>
 St w17 (a20.add 0) (Value.string a1) fun w21 =>
 St w21 (a20.add 1) (Value.int .i64 a2) fun w22 =>
 St w22 (a20.add 2) (Value.bool true) fun w23 =>
 ∃ a24 : Addr, a0 = some a24 ∧
 Ld (.int .i64) w23 (a24.add 1) fun x25 =>
 ∃ a26 : Addr, a0 = some a26 ∧
 St w23 (a26.add 1) (Value.int .i64 (IntKind.i64.wrap (x25 + 1))) fun w27 =>
 K 0 w27)))
theorem e_hash_Table_Put (a0 : Option Addr) (a1 : ByteArray) (a2 : Int) (w : World) (K : Int → World → Prop) : den Try.prog 60 (bodyOf Try.f9) none (.seq .leaf (.seq (.seq .leaf (.cond (.seq .leaf .leaf) .leaf)) (.seq .leaf (.seq (.seq .leaf (.cond (.seq .leaf (.seq .leaf .leaf)) .leaf)) (.seq (.seq .leaf (.cond (.seq .leaf .leaf) .leaf)) (.seq .leaf (.seq .leaf (.seq .leaf (.seq .leaf (.seq .leaf .leaf)))))))))) (argEnv 0 [(Value.pointer a0), (Value.string a1), (Value.int .i64 a2)]) [] w (retK Try.prog [.tmp 6] [.one (.int .i64)] K) = s_hash_Table_Put a0 a1 a2 w K := by kernel_rfl
theorem ok_hash_Table_Put {a0 a1 a2 w K} (h : s_hash_Table_Put a0 a1 a2 w K) : c_hash_Table_Put a0 a1 a2 w K :=
  fn_sound pok Try.func9 (fn := Try.f9) (c := bodyOf Try.f9) (nt := 60) (by kernel_rfl) (by kernel_rfl) (rs := [.tmp 6]) (by kernel_rfl) [.one (.int .i64)] K (.seq .leaf (.seq (.seq .leaf (.cond (.seq .leaf .leaf) .leaf)) (.seq .leaf (.seq (.seq .leaf (.cond (.seq .leaf (.seq .leaf .leaf)) .leaf)) (.seq (.seq .leaf (.cond (.seq .leaf .leaf) .leaf)) (.seq .leaf (.seq .leaf (.seq .leaf (.seq .leaf (.seq .leaf .leaf)))))))))) [(Value.pointer a0), (Value.string a1), (Value.int .i64 a2)] (by kernel_rfl) w ((e_hash_Table_Put a0 a1 a2 w K).mpr h)

/-- (*goosepond/hash.Table).Delete -/
def s_hash_Table_Delete (a0 : Option Addr) (a1 : ByteArray) (w : World) (K : Bool → World → Prop) : Prop :=
 isOne (Value.pointer a0) = true ∧
 Al w (.cells ⟨[(Value.pointer a0)]⟩ 24) fun a2 w1 =>
 Ld .ptr w1 a2 fun x3 =>
 c_hash_Table_ready x3 w1 fun r4 w5 =>
 (bif (!r4) then
 K false w5
 else
 Ld .ptr w5 a2 fun x6 =>
 c_hash_Table_find x6 a1 w5 fun r7 r8 w9 =>
 (bif (!r8) then
 K false w9
 else
 Ld .ptr w9 a2 fun x10 =>
 ∃ a11 : Addr, x10 = some a11 ∧
 Ld .slice w9 a11 fun x12 =>
 AtIx x12 3 r7 fun a13 =>
 St w9 (a13.add 0) (Value.string (bs [])) fun w14 =>
 St w14 (a13.add 1) (Value.int .i64 0) fun w15 =>
 St w15 (a13.add 2) (Value.bool false) fun w16 =>
 Ld .ptr w16 a2 fun x17 =>
 ∃ a18 : Addr, x17 = some a18 ∧
 Ld (.int .i64) w16 (a18.add 1) fun x19 =>
 ∃ a20 : Addr, x17 = some a20 ∧
 St w16 (a20.add 1) (Value.int .i64 (IntKind.i64.wrap (x19 - 1))) fun w21 =>
 let J22 : List Nat → World → Prop := fun d23 w24 =>
 (CloseP d23 w24 fun w25 =>
 K true w25)
 Ld .ptr w21.drew a2 fun x26 =>
 Ld .ptr w21.drew a2 fun x27 =>
 ∃ a28 : Addr, x27 = some a28 ∧
 Ld .slice w21.drew a28 fun x29 =>
 (x29.len : Int) ≠ 0 ∧
 c_hash_Table_walk x26 (Int.tmod (IntKind.i64.wrap (r7 + 1)) (x29.len : Int)) w21.drew fun r30 w31 =>
 RngP Try.prog none [(.int .i64)] r30 w31 (fun l32 x33 W34 Kb35 =>
 W34.heap[l32]? = W34.heap[l32]? ∧
 Ld .ptr (busyW W34 l32) a2 fun x36 =>
 ∃ a37 : Addr, x36 = some a37 ∧
 Ld .slice (busyW W34 l32) a37 fun x38 =>
 AtIx x38 3 x33.1 fun a39 =>
 Ld .str (busyW W34 l32) (a39.add 0) fun x40 =>
 Ld (.int .i64) (busyW W34 l32) (a39.add 1) fun x41 =>
 Ld .bool (busyW W34 l32) (a39.add 2) fun x42 =>
 Al (busyW W34 l32) (.cells ⟨[(Value.string (bs [])), (Value.int .i64 0), (Value.bool false)]⟩ 54) fun a44 w43 =>
 St w43 (a44.add 0) (Value.string x40) fun w45 =>
 St w45 (a44.add 1) (Value.int .i64 x41) fun w46 =>
 St w46 (a44.add 2) (Value.bool x42) fun w47 =>
 Ld .bool w47 (a44.add 2) fun x48 =>
 (bif (!x48) then
 Kb35 (.exit 0) w47
 else
 Ld .ptr w47 a2 fun x49 =>
 ∃ a50 : Addr, x49 = some a50 ∧
 Ld .slice w47 a50 fun x51 =>
 AtIx x51 3 x33.1 fun a52 =>
 St w47 (a52.add 0) (Value.string (bs [])) fun w53 =>
 St w53 (a52.add 1) (Value.int .i64 0) fun w54 =>
 St w54 (a52.add 2) (Value.bool false) fun w55 =>
 Ld .ptr w55 a2 fun x56 =>
 Ld .str w55 a44 fun x57 =>
 c_hash_Table_find x56 x57 w55 fun r58 r59 w60 =>
 Ld .ptr w60.drew a2 fun x61 =>
 ∃ a62 : Addr, x61 = some a62 ∧
 Ld .slice w60.drew a62 fun x63 =>
 Ld .str w60.drew (a44.add 0) fun x64 =>
 Ld (.int .i64) w60.drew (a44.add 1) fun x65 =>
 Ld .bool w60.drew (a44.add 2) fun x66 =>
 AtIx x63 3 r58 fun a67 =>
 St w60.drew (a67.add 0) (Value.string x64) fun w68 =>
 St w68 (a67.add 1) (Value.int .i64 x65) fun w69 =>
 St w69 (a67.add 2) (Value.bool x66) fun w70 =>
 Kb35 .normal w70))
 (fun w72 =>
 J22 (w31.heap.size :: []) w72)
 (fun w73 =>
 w73.heap[w31.heap.size]? = some (.deferred (some [])) ∧
 K false (w73.putObj w31.heap.size (.deferred none)))
 [(0, (fun w71 =>
 J22 (w31.heap.size :: []) w71))]))
theorem e_hash_Table_Delete (a0 : Option Addr) (a1 : ByteArray) (w : World) (K : Bool → World → Prop) : den Try.prog 78 (bodyOf Try.f10) none (.seq .leaf (.seq (.seq .leaf (.cond (.seq .leaf .leaf) .leaf)) (.seq .leaf (.seq (.seq .leaf (.cond (.seq .leaf .leaf) .leaf)) (.seq .leaf (.seq .leaf (.seq .leaf (.seq (.seq .leaf (.blk (.rng [(.int .i64)] .leaf (.blk (.seq .leaf (.seq (.seq .leaf (.cond .leaf .leaf)) (.seq .leaf (.seq .leaf .leaf)))))))) (.seq .leaf .leaf))))))))) (argEnv 0 [(Value.pointer a0), (Value.string a1)]) [] w (retK Try.prog [.tmp 4] [.one .bool] K) = s_hash_Table_Delete a0 a1 w K := by kernel_rfl
theorem ok_hash_Table_Delete {a0 a1 w K} (h : s_hash_Table_Delete a0 a1 w K) : c_hash_Table_Delete a0 a1 w K :=
  fn_sound pok Try.func10 (fn := Try.f10) (c := bodyOf Try.f10) (nt := 78) (by kernel_rfl) (by kernel_rfl) (rs := [.tmp 4]) (by kernel_rfl) [.one .bool] K (.seq .leaf (.seq (.seq .leaf (.cond (.seq .leaf .leaf) .leaf)) (.seq .leaf (.seq (.seq .leaf (.cond (.seq .leaf .leaf) .leaf)) (.seq .leaf (.seq .leaf (.seq .leaf (.seq (.seq .leaf (.blk (.rng [(.int .i64)] .leaf (.blk (.seq .leaf (.seq (.seq .leaf (.cond .leaf .leaf)) (.seq .leaf (.seq .leaf .leaf)))))))) (.seq .leaf .leaf))))))))) [(Value.pointer a0), (Value.string a1)] (by kernel_rfl) w ((e_hash_Table_Delete a0 a1 w K).mpr h)

/-- (*goosepond/hash.Table).Get -/
def s_hash_Table_Get (a0 : Option Addr) (a1 : ByteArray) (w : World) (K : Int → Bool → World → Prop) : Prop :=
 c_hash_Table_ready a0 w fun r1 w2 =>
 (bif (!r1) then
 K 0 false w2
 else
 c_hash_Table_find a0 a1 w2 fun r3 r4 w5 =>
 (bif (!r4) then
 K 0 false w5
 else
 ∃ a6 : Addr, a0 = some a6 ∧
 Ld .slice w5 a6 fun x7 =>
 AtIx x7 3 r3 fun a8 =>
 Ld (.int .i64) w5 (a8.add 1) fun x9 =>
 K x9 true w5))
theorem e_hash_Table_Get (a0 : Option Addr) (a1 : ByteArray) (w : World) (K : Int → Bool → World → Prop) : den Try.prog 27 (bodyOf Try.f11) none (.seq .leaf (.seq (.seq .leaf (.cond (.seq .leaf .leaf) .leaf)) (.seq .leaf (.seq (.seq .leaf (.cond (.seq .leaf .leaf) .leaf)) (.seq .leaf .leaf))))) (argEnv 0 [(Value.pointer a0), (Value.string a1)]) [] w (retK Try.prog [.tmp 4, .tmp 5] [.one (.int .i64), .one .bool] K) = s_hash_Table_Get a0 a1 w K := by kernel_rfl
theorem ok_hash_Table_Get {a0 a1 w K} (h : s_hash_Table_Get a0 a1 w K) : c_hash_Table_Get a0 a1 w K :=
  fn_sound pok Try.func11 (fn := Try.f11) (c := bodyOf Try.f11) (nt := 27) (by kernel_rfl) (by kernel_rfl) (rs := [.tmp 4, .tmp 5]) (by kernel_rfl) [.one (.int .i64), .one .bool] K (.seq .leaf (.seq (.seq .leaf (.cond (.seq .leaf .leaf) .leaf)) (.seq .leaf (.seq (.seq .leaf (.cond (.seq .leaf .leaf) .leaf)) (.seq .leaf .leaf))))) [(Value.pointer a0), (Value.string a1)] (by kernel_rfl) w ((e_hash_Table_Get a0 a1 w K).mpr h)

/-- goosepond/goosepondlaw18.HashMany$1 -/
def s_law18_HashMany_1 (a0 : Int) (w : World) (K : ByteArray → World → Prop) : Prop :=
 0 ≤ (8 : Int) ∧
 Al w (.cells ⟨[(Value.int .u8 (IntKind.u8.wrap a0)), (Value.int .u8 (IntKind.u8.wrap (shrI .i64 a0 8)))]⟩ 5) fun a2 w1 =>
 BytesStr w1 ⟨(some a2), 2, 2⟩ fun b3 =>
 K b3 w1
theorem e_law18_HashMany_1 (a0 : Int) (w : World) (K : ByteArray → World → Prop) : den Try.prog 10 (bodyOf Try.f12) none (.seq .leaf (.seq .leaf .leaf)) (argEnv 0 [(Value.int .i64 a0)]) [] w (retK Try.prog [.tmp 2] [.one .str] K) = s_law18_HashMany_1 a0 w K := by kernel_rfl
theorem ok_law18_HashMany_1 {a0 w K} (h : s_law18_HashMany_1 a0 w K) : c_law18_HashMany_1 a0 w K :=
  fn_sound pok Try.func12 (fn := Try.f12) (c := bodyOf Try.f12) (nt := 10) (by kernel_rfl) (by kernel_rfl) (rs := [.tmp 2]) (by kernel_rfl) [.one .str] K (.seq .leaf (.seq .leaf .leaf)) [(Value.int .i64 a0)] (by kernel_rfl) w ((e_law18_HashMany_1 a0 w K).mpr h)

/-- (*goosepond/hash.Table).Len -/
def s_hash_Table_Len (a0 : Option Addr) (w : World) (K : Int → World → Prop) : Prop :=
 c_hash_Table_ready a0 w fun r1 w2 =>
 (bif (!r1) then
 K 0 w2
 else
 ∃ a3 : Addr, a0 = some a3 ∧
 Ld (.int .i64) w2 (a3.add 1) fun x4 =>
 K x4 w2)
theorem e_hash_Table_Len (a0 : Option Addr) (w : World) (K : Int → World → Prop) : den Try.prog 10 (bodyOf Try.f13) none (.seq .leaf (.seq (.seq .leaf (.cond (.seq .leaf .leaf) .leaf)) (.seq .leaf .leaf))) (argEnv 0 [(Value.pointer a0)]) [] w (retK Try.prog [.tmp 2] [.one (.int .i64)] K) = s_hash_Table_Len a0 w K := by kernel_rfl
theorem ok_hash_Table_Len {a0 w K} (h : s_hash_Table_Len a0 w K) : c_hash_Table_Len a0 w K :=
  fn_sound pok Try.func13 (fn := Try.f13) (c := bodyOf Try.f13) (nt := 10) (by kernel_rfl) (by kernel_rfl) (rs := [.tmp 2]) (by kernel_rfl) [.one (.int .i64)] K (.seq .leaf (.seq (.seq .leaf (.cond (.seq .leaf .leaf) .leaf)) (.seq .leaf .leaf))) [(Value.pointer a0)] (by kernel_rfl) w ((e_hash_Table_Len a0 w K).mpr h)

/-- (*goosepond/hash.Table).All -/
def s_hash_Table_All (a0 : Option Addr) (w : World) (K : Value → World → Prop) : Prop :=
 isOne (Value.pointer a0) = true ∧
 Al w (.cells ⟨[(Value.pointer a0)]⟩ 24) fun a2 w1 =>
 K (Value.func (.func 24) #[] #[(Value.pointer (some a2))]) w1
theorem e_hash_Table_All (a0 : Option Addr) (w : World) (K : Value → World → Prop) : den Try.prog 4 (bodyOf Try.f19) none (.seq .leaf (.seq .leaf .leaf)) (argEnv 0 [(Value.pointer a0)]) [] w (retK Try.prog [.tmp 2] [.one .any] K) = s_hash_Table_All a0 w K := by kernel_rfl
theorem ok_hash_Table_All {a0 w K} (h : s_hash_Table_All a0 w K) : c_hash_Table_All a0 w K :=
  fn_sound pok Try.func19 (fn := Try.f19) (c := bodyOf Try.f19) (nt := 4) (by kernel_rfl) (by kernel_rfl) (rs := [.tmp 2]) (by kernel_rfl) [.one .any] K (.seq .leaf (.seq .leaf .leaf)) [(Value.pointer a0)] (by kernel_rfl) w ((e_hash_Table_All a0 w K).mpr h)

/-- (*goosepond/hash.Table).ready -/
def s_hash_Table_ready (a0 : Option Addr) (w : World) (K : Bool → World → Prop) : Prop :=
 let J1 : Bool → Prop := fun j2 =>
 (K j2 w)
 (bif (!(Option.isNone a0)) then
 ∃ a3 : Addr, a0 = some a3 ∧
 Ld .bool w (a3.add 3) fun x4 =>
 J1 x4
 else
 J1 false)
theorem e_hash_Table_ready (a0 : Option Addr) (w : World) (K : Bool → World → Prop) : den Try.prog 11 (bodyOf Try.f20) none (.seq .leaf (.seq .leaf .leaf)) (argEnv 0 [(Value.pointer a0)]) [] w (retK Try.prog [.tmp 2] [.one .bool] K) = s_hash_Table_ready a0 w K := by kernel_rfl
theorem ok_hash_Table_ready {a0 w K} (h : s_hash_Table_ready a0 w K) : c_hash_Table_ready a0 w K :=
  fn_sound pok Try.func20 (fn := Try.f20) (c := bodyOf Try.f20) (nt := 11) (by kernel_rfl) (by kernel_rfl) (rs := [.tmp 2]) (by kernel_rfl) [.one .bool] K (.seq .leaf (.seq .leaf .leaf)) [(Value.pointer a0)] (by kernel_rfl) w ((e_hash_Table_ready a0 w K).mpr h)

/-- (*goosepond/hash.Table).find -/
def s_hash_Table_find (a0 : Option Addr) (a1 : ByteArray) (w : World) (K : Int → Bool → World → Prop) : Prop :=
 isOne (Value.pointer a0) = true ∧
 Al w (.cells ⟨[(Value.pointer a0)]⟩ 24) fun a2 w1 =>
 isOne (Value.string a1) = true ∧
 Al w1 (.cells ⟨[(Value.string a1)]⟩ 9) fun a4 w3 =>
 Al w3 (.cells ⟨[(Value.int .i64 0)]⟩ 3) fun a6 w5 =>
 Al w5 (.cells ⟨[(Value.bool false)]⟩ 4) fun a8 w7 =>
 Ld .ptr w7 a2 fun x9 =>
 ∃ a10 : Addr, x9 = some a10 ∧
 Ld .slice w7 a10 fun x11 =>
 (bif ((x11.len : Int) == 0) then
 St w7 a6 (Value.int .i64 0) fun w12 =>
 St w12 a8 (Value.bool false) fun w13 =>
 Ld (.int .i64) w13 a6 fun y14 =>
 Ld .bool w13 a8 fun y15 =>
 K y14 y15 w13
 else
 Ld .ptr w7.drew a2 fun x16 =>
 Ld .str w7.drew a4 fun x17 =>
 Ld .ptr w7.drew a2 fun x18 =>
 ∃ a19 : Addr, x18 = some a19 ∧
 Ld .slice w7.drew a19 fun x20 =>
 c_hash_home x17 (x20.len : Int) w7.drew fun r21 w22 =>
 w22.cell? a2 = some (Value.pointer x16) ∧
 c_hash_Table_walk x16 r21 w22 fun r23 w24 =>
 RngP Try.prog none [(.int .i64)] r23 w24 (fun l25 x26 W27 Kb28 =>
 W27.heap[l25]? = W27.heap[l25]? ∧
 Ld .ptr (busyW W27 l25) a2 fun x29 =>
 ∃ a30 : Addr, x29 = some a30 ∧
 Ld .slice (busyW W27 l25) a30 fun x31 =>
 AtIx x31 3 x26.1 fun a32 =>
 Ld .str (busyW W27 l25) (a32.add 0) fun x33 =>
 Ld (.int .i64) (busyW W27 l25) (a32.add 1) fun x34 =>
 Ld .bool (busyW W27 l25) (a32.add 2) fun x35 =>
 Al (busyW W27 l25) (.cells ⟨[(Value.string (bs [])), (Value.int .i64 0), (Value.bool false)]⟩ 54) fun a37 w36 =>
 St w36 (a37.add 0) (Value.string x33) fun w38 =>
 St w38 (a37.add 1) (Value.int .i64 x34) fun w39 =>
 St w39 (a37.add 2) (Value.bool x35) fun w40 =>
 Ld .bool w40 (a37.add 2) fun x41 =>
 (bif (!x41) then
 St w40 a6 (Value.int .i64 x26.1) fun w42 =>
 St w42 a8 (Value.bool false) fun w43 =>
 Kb28 .ret w43
 else
 Ld .str w40 a37 fun x44 =>
 Ld .str w40 a4 fun x45 =>
 (bif (strEq x44 x45) then
 St w40 a6 (Value.int .i64 x26.1) fun w46 =>
 St w46 a8 (Value.bool true) fun w47 =>
 Kb28 .ret w47
 else
 Kb28 .normal w40)))
 (fun w48 =>
 St w48 a6 (Value.int .i64 0) fun w49 =>
 St w49 a8 (Value.bool false) fun w50 =>
 w50.heap[w24.heap.size]? = some (.deferred (some [])) ∧
 Ld (.int .i64) (w50.putObj w24.heap.size (.deferred none)) a6 fun y51 =>
 Ld .bool (w50.putObj w24.heap.size (.deferred none)) a8 fun y52 =>
 K y51 y52 (w50.putObj w24.heap.size (.deferred none)))
 (fun w53 =>
 w53.heap[w24.heap.size]? = some (.deferred (some [])) ∧
 Ld (.int .i64) (w53.putObj w24.heap.size (.deferred none)) a6 fun y54 =>
 Ld .bool (w53.putObj w24.heap.size (.deferred none)) a8 fun y55 =>
 K y54 y55 (w53.putObj w24.heap.size (.deferred none)))
 [])
theorem e_hash_Table_find (a0 : Option Addr) (a1 : ByteArray) (w : World) (K : Int → Bool → World → Prop) : den Try.prog 40 (bodyOf Try.f21) none (.seq .leaf (.seq (.seq .leaf (.cond (.seq .leaf .leaf) .leaf)) (.seq (.seq .leaf (.blk (.rng [(.int .i64)] .leaf (.blk (.seq .leaf (.seq (.seq .leaf (.cond (.seq .leaf .leaf) .leaf)) (.seq .leaf (.cond (.seq .leaf .leaf) .leaf)))))))) (.seq .leaf .leaf)))) (argEnv 0 [(Value.pointer a0), (Value.string a1)]) [] w (retK Try.prog [.cell 4 3, .cell 5 4] [.one (.int .i64), .one .bool] K) = s_hash_Table_find a0 a1 w K := by kernel_rfl
theorem ok_hash_Table_find {a0 a1 w K} (h : s_hash_Table_find a0 a1 w K) : c_hash_Table_find a0 a1 w K :=
  fn_sound pok Try.func21 (fn := Try.f21) (c := bodyOf Try.f21) (nt := 40) (by kernel_rfl) (by kernel_rfl) (rs := [.cell 4 3, .cell 5 4]) (by kernel_rfl) [.one (.int .i64), .one .bool] K (.seq .leaf (.seq (.seq .leaf (.cond (.seq .leaf .leaf) .leaf)) (.seq (.seq .leaf (.blk (.rng [(.int .i64)] .leaf (.blk (.seq .leaf (.seq (.seq .leaf (.cond (.seq .leaf .leaf) .leaf)) (.seq .leaf (.cond (.seq .leaf .leaf) .leaf)))))))) (.seq .leaf .leaf)))) [(Value.pointer a0), (Value.string a1)] (by kernel_rfl) w ((e_hash_Table_find a0 a1 w K).mpr h)

/-- (*goosepond/hash.Table).grow -/
def s_hash_Table_grow (a0 : Option Addr) (w : World) (K : World → Prop) : Prop :=
 ∃ a1 : Addr, a0 = some a1 ∧
 Ld (.int .i64) w.drew (a1.add 1) fun x2 =>
 ∃ a3 : Addr, a0 = some a3 ∧
 Ld .slice w.drew a3 fun x4 =>
 (bif (decide ((IntKind.i64.wrap (2 * (IntKind.i64.wrap (x2 + 1)))) ≤ (x4.len : Int))) then
 K w.drew
 else
 ∃ a5 : Addr, a0 = some a5 ∧
 Ld .slice w.drew a5 fun x6 =>
 MkSl 54 3 32 [(Value.string (bs [])), (Value.int .i64 0), (Value.bool false)] (if (IntKind.i64.wrap (2 * (x6.len : Int))) > 8 then (IntKind.i64.wrap (2 * (x6.len : Int))) else 8) (if (IntKind.i64.wrap (2 * (x6.len : Int))) > 8 then (IntKind.i64.wrap (2 * (x6.len : Int))) else 8) w.drew fun s7 w8 =>
 ∃ a9 : Addr, a0 = some a9 ∧
 St w8 a9 (Value.slice s7.a s7.len s7.cap) fun w10 =>
 LoopP (S := Int × Unit) (fun s11 w12 next13 =>
 (bif (decide (s11.1 < (x6.len : Int))) then
 let J14 : World → Prop := fun w15 =>
 (next13 ((IntKind.i64.wrap (s11.1 + 1)), ()) w15)
 AtIx x6 3 s11.1 fun a16 =>
 Ld .str w12 (a16.add 0) fun x17 =>
 Ld (.int .i64) w12 (a16.add 1) fun x18 =>
 Ld .bool w12 (a16.add 2) fun x19 =>
 Al w12 (.cells ⟨[(Value.string (bs [])), (Value.int .i64 0), (Value.bool false)]⟩ 54) fun a21 w20 =>
 St w20 (a21.add 0) (Value.string x17) fun w22 =>
 St w22 (a21.add 1) (Value.int .i64 x18) fun w23 =>
 St w23 (a21.add 2) (Value.bool x19) fun w24 =>
 Ld .bool w24 (a21.add 2) fun x25 =>
 (bif x25 then
 Ld .str w24 a21 fun x26 =>
 c_hash_Table_find a0 x26 w24 fun r27 r28 w29 =>
 ∃ a30 : Addr, a0 = some a30 ∧
 Ld .slice w29.drew a30 fun x31 =>
 Ld .str w29.drew (a21.add 0) fun x32 =>
 Ld (.int .i64) w29.drew (a21.add 1) fun x33 =>
 Ld .bool w29.drew (a21.add 2) fun x34 =>
 AtIx x31 3 r27 fun a35 =>
 St w29.drew (a35.add 0) (Value.string x32) fun w36 =>
 St w36 (a35.add 1) (Value.int .i64 x33) fun w37 =>
 St w37 (a35.add 2) (Value.bool x34) fun w38 =>
 J14 w38
 else
 J14 w24)
 else
 K w12)) (0, ()) w10)
theorem e_hash_Table_grow (a0 : Option Addr) (w : World) (K : World → Prop) : den Try.prog 54 (bodyOf Try.f22) none (.seq (.seq .leaf (.cond .leaf .leaf)) (.seq .leaf (.seq .leaf (.seq .leaf (.blk (.loop [(33, (.int .i64))] (.seq .leaf (.seq (.cond .leaf .leaf) (.seq (.blk (.seq .leaf (.seq .leaf (.cond (.seq .leaf .leaf) .leaf)))) .leaf))))))))) (argEnv 0 [(Value.pointer a0)]) [] w (retK Try.prog [] [] K) = s_hash_Table_grow a0 w K := by kernel_rfl
theorem ok_hash_Table_grow {a0 w K} (h : s_hash_Table_grow a0 w K) : c_hash_Table_grow a0 w K :=
  fn_sound pok Try.func22 (fn := Try.f22) (c := bodyOf Try.f22) (nt := 54) (by kernel_rfl) (by kernel_rfl) (rs := []) (by kernel_rfl) [] K (.seq (.seq .leaf (.cond .leaf .leaf)) (.seq .leaf (.seq .leaf (.seq .leaf (.blk (.loop [(33, (.int .i64))] (.seq .leaf (.seq (.cond .leaf .leaf) (.seq (.blk (.seq .leaf (.seq .leaf (.cond (.seq .leaf .leaf) .leaf)))) .leaf))))))))) [(Value.pointer a0)] (by kernel_rfl) w ((e_hash_Table_grow a0 w K).mpr h)

/-- (*goosepond/hash.Table).walk -/
def s_hash_Table_walk (a0 : Option Addr) (a1 : Int) (w : World) (K : Value → World → Prop) : Prop :=
 isOne (Value.pointer a0) = true ∧
 Al w (.cells ⟨[(Value.pointer a0)]⟩ 24) fun a2 w1 =>
 isOne (Value.int .i64 a1) = true ∧
 Al w1 (.cells ⟨[(Value.int .i64 a1)]⟩ 3) fun a4 w3 =>
 K (Value.func (.func 32) #[] #[(Value.pointer (some a2)), (Value.pointer (some a4))]) w3
theorem e_hash_Table_walk (a0 : Option Addr) (a1 : Int) (w : World) (K : Value → World → Prop) : den Try.prog 6 (bodyOf Try.f23) none (.seq .leaf (.seq .leaf .leaf)) (argEnv 0 [(Value.pointer a0), (Value.int .i64 a1)]) [] w (retK Try.prog [.tmp 4] [.one .any] K) = s_hash_Table_walk a0 a1 w K := by kernel_rfl
theorem ok_hash_Table_walk {a0 a1 w K} (h : s_hash_Table_walk a0 a1 w K) : c_hash_Table_walk a0 a1 w K :=
  fn_sound pok Try.func23 (fn := Try.f23) (c := bodyOf Try.f23) (nt := 6) (by kernel_rfl) (by kernel_rfl) (rs := [.tmp 4]) (by kernel_rfl) [.one .any] K (.seq .leaf (.seq .leaf .leaf)) [(Value.pointer a0), (Value.int .i64 a1)] (by kernel_rfl) w ((e_hash_Table_walk a0 a1 w K).mpr h)

/-- (*goosepond/hash.Table).All$1 -/
def s_hash_Table_All_1 (a0 : Value) (f0 : Addr) (w : World) (K : World → Prop) : Prop :=
 Ld .ptr w f0 fun x1 =>
 c_hash_Table_ready x1 w fun r2 w3 =>
 (bif (!r2) then
 K w3
 else
 Ld .ptr w3 f0 fun x4 =>
 ∃ a5 : Addr, x4 = some a5 ∧
 Ld .slice w3 a5 fun x6 =>
 c_slices_Clone_hash_entry_hash_entry x6 w3 fun r7 w8 =>
 c_slices_DeleteFunc_hash_entry_hash_entry r7 (Value.func (.func 27) #[] #[]) w8 fun r9 w10 =>
 c_slices_SortFunc_hash_entry_hash_entry r9 (Value.func (.func 29) #[] #[]) w10 fun w11 =>
 LoopP (S := Int × Unit) (fun s12 w13 next14 =>
 (bif (decide (s12.1 < (r9.len : Int))) then
 AtIx r9 3 s12.1 fun a15 =>
 Ld .str w13 (a15.add 0) fun x16 =>
 Ld (.int .i64) w13 (a15.add 1) fun x17 =>
 Ld .bool w13 (a15.add 2) fun x18 =>
 Al w13 (.cells ⟨[(Value.string (bs [])), (Value.int .i64 0), (Value.bool false)]⟩ 54) fun a20 w19 =>
 St w19 (a20.add 0) (Value.string x16) fun w21 =>
 St w21 (a20.add 1) (Value.int .i64 x17) fun w22 =>
 St w22 (a20.add 2) (Value.bool x18) fun w23 =>
 Ld .str w23 a20 fun x24 =>
 Ld (.int .i64) w23 (a20.add 1) fun x25 =>
 CallV Try.prog [.one .bool] a0 [(Value.string x24), (Value.int .i64 x25)] w23 fun r26 w27 =>
 ∃ r28 : Bool, r26 = (Value.bool r28) ∧
 (bif (!r28) then
 K w27
 else
 next14 ((IntKind.i64.wrap (s12.1 + 1)), ()) w27)
 else
 K w13)) (0, ()) w11)
theorem e_hash_Table_All_1 (a0 : Value) (f0 : Addr) (w : World) (K : World → Prop) : den Try.prog 31 (bodyOf Try.f24) none (.seq (.seq .leaf (.cond .leaf .leaf)) (.seq .leaf (.seq .leaf (.seq .leaf (.blk (.loop [(19, (.int .i64))] (.seq .leaf (.seq (.cond .leaf .leaf) (.seq (.blk (.seq .leaf (.seq .leaf (.cond .leaf .leaf)))) .leaf))))))))) (argEnv 0 [a0, (Value.pointer (some f0))]) [] w (retK Try.prog [] [] K) = s_hash_Table_All_1 a0 f0 w K := by kernel_rfl
theorem ok_hash_Table_All_1 {a0 f0 w K} (h : s_hash_Table_All_1 a0 f0 w K) : c_hash_Table_All_1 a0 f0 w K :=
  fn_sound pok Try.func24 (fn := Try.f24) (c := bodyOf Try.f24) (nt := 31) (by kernel_rfl) (by kernel_rfl) (rs := []) (by kernel_rfl) [] K (.seq (.seq .leaf (.cond .leaf .leaf)) (.seq .leaf (.seq .leaf (.seq .leaf (.blk (.loop [(19, (.int .i64))] (.seq .leaf (.seq (.cond .leaf .leaf) (.seq (.blk (.seq .leaf (.seq .leaf (.cond .leaf .leaf)))) .leaf))))))))) [a0, (Value.pointer (some f0))] (by kernel_rfl) w ((e_hash_Table_All_1 a0 f0 w K).mpr h)

/-- (*goosepond/hash.Table).All$1$1 -/
def s_hash_Table_All_1_1 (a0_0 : ByteArray) (a0_1 : Int) (a0_2 : Bool) (w : World) (K : Bool → World → Prop) : Prop :=
 Al w (.cells ⟨[(Value.string a0_0), (Value.int .i64 a0_1), (Value.bool a0_2)]⟩ 54) fun a2 w1 =>
 Ld .bool w1 (a2.add 2) fun x3 =>
 K (!x3) w1
theorem e_hash_Table_All_1_1 (a0_0 : ByteArray) (a0_1 : Int) (a0_2 : Bool) (w : World) (K : Bool → World → Prop) : den Try.prog 6 (bodyOf Try.f27) none (.seq .leaf (.seq .leaf .leaf)) (argEnv 0 [(Value.agg ⟨[(Value.string a0_0), (Value.int .i64 a0_1), (Value.bool a0_2)]⟩)]) [] w (retK Try.prog [.tmp 2] [.one .bool] K) = s_hash_Table_All_1_1 a0_0 a0_1 a0_2 w K := by kernel_rfl
theorem ok_hash_Table_All_1_1 {a0_0 a0_1 a0_2 w K} (h : s_hash_Table_All_1_1 a0_0 a0_1 a0_2 w K) : c_hash_Table_All_1_1 a0_0 a0_1 a0_2 w K :=
  fn_sound pok Try.func27 (fn := Try.f27) (c := bodyOf Try.f27) (nt := 6) (by kernel_rfl) (by kernel_rfl) (rs := [.tmp 2]) (by kernel_rfl) [.one .bool] K (.seq .leaf (.seq .leaf .leaf)) [(Value.agg ⟨[(Value.string a0_0), (Value.int .i64 a0_1), (Value.bool a0_2)]⟩)] (by kernel_rfl) w ((e_hash_Table_All_1_1 a0_0 a0_1 a0_2 w K).mpr h)

/-- (*goosepond/hash.Table).All$1$2 -/
def s_hash_Table_All_1_2 (a0_0 : ByteArray) (a0_1 : Int) (a0_2 : Bool) (a1_0 : ByteArray) (a1_1 : Int) (a1_2 : Bool) (w : World) (K : Int → World → Prop) : Prop :=
 Al w (.cells ⟨[(Value.string a0_0), (Value.int .i64 a0_1), (Value.bool a0_2)]⟩ 54) fun a2 w1 =>
 Al w1 (.cells ⟨[(Value.string a1_0), (Value.int .i64 a1_1), (Value.bool a1_2)]⟩ 54) fun a4 w3 =>
 Ld .str w3 a2 fun x5 =>
 Ld .str w3 a4 fun x6 =>
 c_cmp_Compare_string x5 x6 w3 fun r7 w8 =>
 K r7 w8
theorem e_hash_Table_All_1_2 (a0_0 : ByteArray) (a0_1 : Int) (a0_2 : Bool) (a1_0 : ByteArray) (a1_1 : Int) (a1_2 : Bool) (w : World) (K : Int → World → Prop) : den Try.prog 10 (bodyOf Try.f29) none (.seq .leaf (.seq .leaf .leaf)) (argEnv 0 [(Value.agg ⟨[(Value.string a0_0), (Value.int .i64 a0_1), (Value.bool a0_2)]⟩), (Value.agg ⟨[(Value.string a1_0), (Value.int .i64 a1_1), (Value.bool a1_2)]⟩)]) [] w (retK Try.prog [.tmp 4] [.one (.int .i64)] K) = s_hash_Table_All_1_2 a0_0 a0_1 a0_2 a1_0 a1_1 a1_2 w K := by kernel_rfl
theorem ok_hash_Table_All_1_2 {a0_0 a0_1 a0_2 a1_0 a1_1 a1_2 w K} (h : s_hash_Table_All_1_2 a0_0 a0_1 a0_2 a1_0 a1_1 a1_2 w K) : c_hash_Table_All_1_2 a0_0 a0_1 a0_2 a1_0 a1_1 a1_2 w K :=
  fn_sound pok Try.func29 (fn := Try.f29) (c := bodyOf Try.f29) (nt := 10) (by kernel_rfl) (by kernel_rfl) (rs := [.tmp 4]) (by kernel_rfl) [.one (.int .i64)] K (.seq .leaf (.seq .leaf .leaf)) [(Value.agg ⟨[(Value.string a0_0), (Value.int .i64 a0_1), (Value.bool a0_2)]⟩), (Value.agg ⟨[(Value.string a1_0), (Value.int .i64 a1_1), (Value.bool a1_2)]⟩)] (by kernel_rfl) w ((e_hash_Table_All_1_2 a0_0 a0_1 a0_2 a1_0 a1_1 a1_2 w K).mpr h)

/-- cmp.Compare[string] -/
def s_cmp_Compare_string (a0 : ByteArray) (a1 : ByteArray) (w : World) (K : Int → World → Prop) : Prop :=
 c_cmp_isNaN_string a0 w fun r1 w2 =>
 c_cmp_isNaN_string a1 w2 fun r3 w4 =>
 (bif r1 then
 (bif r3 then
 K 0 w4
 else
 K (-1) w4)
 else
 (bif r3 then
 K 1 w4
 else
 (bif (strLt a0 a1) then
 K (-1) w4
 else
 (bif (!(strLt a0 a1 || strEq a0 a1)) then
 K 1 w4
 else
 K 0 w4))))
theorem e_cmp_Compare_string (a0 : ByteArray) (a1 : ByteArray) (w : World) (K : Int → World → Prop) : den Try.prog 20 (bodyOf Try.f30) none (.seq .leaf (.seq .leaf (.seq .leaf (.seq (.seq .leaf (.cond (.seq (.seq .leaf (.cond (.seq .leaf .leaf) .leaf)) (.seq .leaf .leaf)) .leaf)) (.seq (.seq .leaf (.cond (.seq .leaf .leaf) .leaf)) (.seq (.seq .leaf (.cond (.seq .leaf .leaf) .leaf)) (.seq (.seq .leaf (.cond (.seq .leaf .leaf) .leaf)) (.seq .leaf .leaf)))))))) (argEnv 0 [(Value.string a0), (Value.string a1)]) [] w (retK Try.prog [.tmp 4] [.one (.int .i64)] K) = s_cmp_Compare_string a0 a1 w K := by kernel_rfl
theorem ok_cmp_Compare_string {a0 a1 w K} (h : s_cmp_Compare_string a0 a1 w K) : c_cmp_Compare_string a0 a1 w K :=
  fn_sound pok Try.func30 (fn := Try.f30) (c := bodyOf Try.f30) (nt := 20) (by kernel_rfl) (by kernel_rfl) (rs := [.tmp 4]) (by kernel_rfl) [.one (.int .i64)] K (.seq .leaf (.seq .leaf (.seq .leaf (.seq (.seq .leaf (.cond (.seq (.seq .leaf (.cond (.seq .leaf .leaf) .leaf)) (.seq .leaf .leaf)) .leaf)) (.seq (.seq .leaf (.cond (.seq .leaf .leaf) .leaf)) (.seq (.seq .leaf (.cond (.seq .leaf .leaf) .leaf)) (.seq (.seq .leaf (.cond (.seq .leaf .leaf) .leaf)) (.seq .leaf .leaf)))))))) [(Value.string a0), (Value.string a1)] (by kernel_rfl) w ((e_cmp_Compare_string a0 a1 w K).mpr h)

/-- goosepond/hash.home -/
def s_hash_home (a0 : ByteArray) (a1 : Int) (w : World) (K : Int → World → Prop) : Prop :=
 LoopP (S := Int × Int × Unit) (fun s1 w2 next3 =>
 (bif (decide (s1.2.1 < (a0.size : Int))) then
 StrIx a0 s1.2.1 fun x4 =>
 next3 ((IntKind.u32.wrap ((xorI .u32 s1.1 (IntKind.u32.wrap x4)) * 16777619)), (IntKind.i64.wrap (s1.2.1 + 1)), ()) w2
 else
 (IntKind.u32.wrap a1) ≠ 0 ∧
 K (IntKind.i64.wrap (Int.tmod s1.1 (IntKind.u32.wrap a1))) w2)) (2166136261, 0, ()) w
theorem e_hash_home (a0 : ByteArray) (a1 : Int) (w : World) (K : Int → World → Prop) : den Try.prog 25 (bodyOf Try.f31) none (.seq .leaf (.seq .leaf (.seq (.seq .leaf (.blk (.loop [(5, (.int .u32)), (9, (.int .i64))] (.seq .leaf (.seq (.cond .leaf .leaf) (.seq (.blk (.seq .leaf .leaf)) .leaf)))))) (.seq .leaf .leaf)))) (argEnv 0 [(Value.string a0), (Value.int .i64 a1)]) [] w (retK Try.prog [.tmp 4] [.one (.int .i64)] K) = s_hash_home a0 a1 w K := by kernel_rfl
theorem ok_hash_home {a0 a1 w K} (h : s_hash_home a0 a1 w K) : c_hash_home a0 a1 w K :=
  fn_sound pok Try.func31 (fn := Try.f31) (c := bodyOf Try.f31) (nt := 25) (by kernel_rfl) (by kernel_rfl) (rs := [.tmp 4]) (by kernel_rfl) [.one (.int .i64)] K (.seq .leaf (.seq .leaf (.seq (.seq .leaf (.blk (.loop [(5, (.int .u32)), (9, (.int .i64))] (.seq .leaf (.seq (.cond .leaf .leaf) (.seq (.blk (.seq .leaf .leaf)) .leaf)))))) (.seq .leaf .leaf)))) [(Value.string a0), (Value.int .i64 a1)] (by kernel_rfl) w ((e_hash_home a0 a1 w K).mpr h)

/-- (*goosepond/hash.Table).walk$1 -/
def s_hash_Table_walk_1 (a0 : Value) (f0 : Addr) (f1 : Addr) (w : World) (K : World → Prop) : Prop :=
 Ld .ptr w f0 fun x1 =>
 ∃ a2 : Addr, x1 = some a2 ∧
 Ld .slice w a2 fun x3 =>
 LoopP (S := Int × Unit) (fun s4 w5 next6 =>
 (bif (decide (s4.1 < (x3.len : Int))) then
 Ld (.int .i64) w5.drew f1 fun x7 =>
 Ld .ptr w5.drew f0 fun x8 =>
 ∃ a9 : Addr, x8 = some a9 ∧
 Ld .slice w5.drew a9 fun x10 =>
 (x10.len : Int) ≠ 0 ∧
 CallV Try.prog [.one .bool] a0 [(Value.int .i64 (Int.tmod (IntKind.i64.wrap (x7 + s4.1)) (x10.len : Int)))] w5.drew fun r11 w12 =>
 ∃ r13 : Bool, r11 = (Value.bool r13) ∧
 (bif (!r13) then
 K w12
 else
 next6 ((IntKind.i64.wrap (s4.1 + 1)), ()) w12)
 else
 K w5)) (0, ()) w
theorem e_hash_Table_walk_1 (a0 : Value) (f0 : Addr) (f1 : Addr) (w : World) (K : World → Prop) : den Try.prog 26 (bodyOf Try.f32) none (.seq .leaf (.blk (.loop [(10, (.int .i64))] (.seq .leaf (.seq (.cond .leaf .leaf) (.seq (.blk (.seq .leaf (.seq .leaf (.cond .leaf .leaf)))) .leaf)))))) (argEnv 0 [a0, (Value.pointer (some f0)), (Value.pointer (some f1))]) [] w (retK Try.prog [] [] K) = s_hash_Table_walk_1 a0 f0 f1 w K := by kernel_rfl
theorem ok_hash_Table_walk_1 {a0 f0 f1 w K} (h : s_hash_Table_walk_1 a0 f0 f1 w K) : c_hash_Table_walk_1 a0 f0 f1 w K :=
  fn_sound pok Try.func32 (fn := Try.f32) (c := bodyOf Try.f32) (nt := 26) (by kernel_rfl) (by kernel_rfl) (rs := []) (by kernel_rfl) [] K (.seq .leaf (.blk (.loop [(10, (.int .i64))] (.seq .leaf (.seq (.cond .leaf .leaf) (.seq (.blk (.seq .leaf (.seq .leaf (.cond .leaf .leaf)))) .leaf)))))) [a0, (Value.pointer (some f0)), (Value.pointer (some f1))] (by kernel_rfl) w ((e_hash_Table_walk_1 a0 f0 f1 w K).mpr h)

/-- cmp.isNaN[string] -/
def s_cmp_isNaN_string (a0 : ByteArray) (w : World) (K : Bool → World → Prop) : Prop :=
 K (!strEq a0 a0) w
theorem e_cmp_isNaN_string (a0 : ByteArray) (w : World) (K : Bool → World → Prop) : den Try.prog 6 (bodyOf Try.f36) none (.seq .leaf (.seq .leaf .leaf)) (argEnv 0 [(Value.string a0)]) [] w (retK Try.prog [.tmp 2] [.one .bool] K) = s_cmp_isNaN_string a0 w K := by kernel_rfl
theorem ok_cmp_isNaN_string {a0 w K} (h : s_cmp_isNaN_string a0 w K) : c_cmp_isNaN_string a0 w K :=
  fn_sound pok Try.func36 (fn := Try.f36) (c := bodyOf Try.f36) (nt := 6) (by kernel_rfl) (by kernel_rfl) (rs := [.tmp 2]) (by kernel_rfl) [.one .bool] K (.seq .leaf (.seq .leaf .leaf)) [(Value.string a0)] (by kernel_rfl) w ((e_cmp_isNaN_string a0 w K).mpr h)

end Go.Proofs
