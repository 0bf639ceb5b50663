import Derived.Test.YtgnlnicmgnkliaaFn
import Derived.Test.YtgnlnicmgnkliaaProg
import Derived.KernelRfl
namespace Go.Proofs
open Gp
set_option maxRecDepth 100000
set_option maxHeartbeats 4000000
theorem pok : POk Try.prog := POk.of_all (by kernel_rfl) (by kernel_rfl)

/-- goosepond/goosepondlaw24.SessionOnce -/
abbrev n_law24_SessionOnce : FuncId := 6
def c_law24_SessionOnce (a0 : SliceV) (w : World) (K : Bool → World → Prop) : Prop :=
  Calls Try.prog 6 ⟨[(Value.slice a0.a a0.len a0.cap)]⟩ w fun e w' => ∃ y90 : Bool, e = .returned (Value.bool y90) ∧ K y90 w'
theorem cm_law24_SessionOnce {a0 w K K'} (h : c_law24_SessionOnce a0 w K) (hk : ∀ x0 w', K x0 w' → K' x0 w') : c_law24_SessionOnce a0 w K' :=
  Calls.mono h fun e w' hh => by obtain ⟨x0, he, hx⟩ := hh; exact ⟨x0, he, hk _ _ hx⟩

/-- goosepond/goosepondlaw24.SessionNobody -/
abbrev n_law24_SessionNobody : FuncId := 7
def c_law24_SessionNobody (a0_0 : Int) (a0_1 : Int) (a0_2 : Int) (a0_3 : Int) (a0_4 : Int) (a1 : Int) (w : World) (K : Bool → World → Prop) : Prop :=
  Calls Try.prog 7 ⟨[(Value.agg ⟨[(Value.int .i64 a0_0), (Value.int .i64 a0_1), (Value.int .i64 a0_2), (Value.int .i64 a0_3), (Value.int .i64 a0_4)]⟩), (Value.int .i64 a1)]⟩ w fun e w' => ∃ y78 : Bool, e = .returned (Value.bool y78) ∧ K y78 w'
theorem cm_law24_SessionNobody {a0_0 a0_1 a0_2 a0_3 a0_4 a1 w K K'} (h : c_law24_SessionNobody a0_0 a0_1 a0_2 a0_3 a0_4 a1 w K) (hk : ∀ x0 w', K x0 w' → K' x0 w') : c_law24_SessionNobody a0_0 a0_1 a0_2 a0_3 a0_4 a1 w K' :=
  Calls.mono h fun e w' hh => by obtain ⟨x0, he, hx⟩ := hh; exact ⟨x0, he, hk _ _ hx⟩

/-- goosepond/goosepondlaw24.SessionLives -/
abbrev n_law24_SessionLives : FuncId := 8
def c_law24_SessionLives (a0 : Int) (a1 : SliceV) (w : World) (K : Bool → World → Prop) : Prop :=
  Calls Try.prog 8 ⟨[(Value.int .i64 a0), (Value.slice a1.a a1.len a1.cap)]⟩ w fun e w' => ∃ y121 : Bool, e = .returned (Value.bool y121) ∧ K y121 w'
theorem cm_law24_SessionLives {a0 a1 w K K'} (h : c_law24_SessionLives a0 a1 w K) (hk : ∀ x0 w', K x0 w' → K' x0 w') : c_law24_SessionLives a0 a1 w K' :=
  Calls.mono h fun e w' hh => by obtain ⟨x0, he, hx⟩ := hh; exact ⟨x0, he, hk _ _ hx⟩

/-- goosepond/goosepondlaw24.awake -/
abbrev n_law24_awake : FuncId := 25
def c_law24_awake  (w : World) (K : Bool → World → Prop) : Prop :=
  Calls Try.prog 25 ⟨[]⟩ w fun e w' => ∃ y19 : Bool, e = .returned (Value.bool y19) ∧ K y19 w'
theorem cm_law24_awake { w K K'} (h : c_law24_awake  w K) (hk : ∀ x0 w', K x0 w' → K' x0 w') : c_law24_awake  w K' :=
  Calls.mono h fun e w' hh => by obtain ⟨x0, he, hx⟩ := hh; exact ⟨x0, he, hk _ _ hx⟩

/-- goosepond/session.New -/
abbrev n_session_New : FuncId := 26
def c_session_New (a0 : Int) (w : World) (K : (Option Addr) → Int → World → Prop) : Prop :=
  Calls Try.prog 26 ⟨[(Value.int .i64 a0)]⟩ w fun e w' => ∃ y13 : Option Addr, ∃ y14 : Int, e = .returned (Value.tuple ⟨[(Value.pointer y13), (Value.int .i64 y14)]⟩) ∧ K y13 y14 w'
theorem cm_session_New {a0 w K K'} (h : c_session_New a0 w K) (hk : ∀ x0 x1 w', K x0 x1 w' → K' x0 x1 w') : c_session_New a0 w K' :=
  Calls.mono h fun e w' hh => by obtain ⟨x0, x1, he, hx⟩ := hh; exact ⟨x0, x1, he, hk _ _ _ hx⟩

/-- (*goosepond/session.Table).Add -/
abbrev n_session_Table_Add : FuncId := 27
def c_session_Table_Add (a0 : Option Addr) (a1_0 : Int) (a1_1 : Int) (a1_2 : Int) (a1_3 : Int) (a1_4 : Int) (w : World) (K : Int → Int → World → Prop) : Prop :=
  Calls Try.prog 27 ⟨[(Value.pointer a0), (Value.agg ⟨[(Value.int .i64 a1_0), (Value.int .i64 a1_1), (Value.int .i64 a1_2), (Value.int .i64 a1_3), (Value.int .i64 a1_4)]⟩)]⟩ w fun e w' => ∃ y54 : Int, ∃ y55 : Int, e = .returned (Value.tuple ⟨[(Value.int .i64 y54), (Value.int .i64 y55)]⟩) ∧ K y54 y55 w'
theorem cm_session_Table_Add {a0 a1_0 a1_1 a1_2 a1_3 a1_4 w K K'} (h : c_session_Table_Add a0 a1_0 a1_1 a1_2 a1_3 a1_4 w K) (hk : ∀ x0 x1 w', K x0 x1 w' → K' x0 x1 w') : c_session_Table_Add a0 a1_0 a1_1 a1_2 a1_3 a1_4 w K' :=
  Calls.mono h fun e w' hh => by obtain ⟨x0, x1, he, hx⟩ := hh; exact ⟨x0, x1, he, hk _ _ _ hx⟩

/-- (*goosepond/session.Table).Remove -/
abbrev n_session_Table_Remove : FuncId := 28
def c_session_Table_Remove (a0 : Option Addr) (a1 : Int) (w : World) (K : Bool → World → Prop) : Prop :=
  Calls Try.prog 28 ⟨[(Value.pointer a0), (Value.int .i64 a1)]⟩ w fun e w' => ∃ y54 : Bool, e = .returned (Value.bool y54) ∧ K y54 w'
theorem cm_session_Table_Remove {a0 a1 w K K'} (h : c_session_Table_Remove a0 a1 w K) (hk : ∀ x0 w', K x0 w' → K' x0 w') : c_session_Table_Remove a0 a1 w K' :=
  Calls.mono h fun e w' hh => by obtain ⟨x0, he, hx⟩ := hh; exact ⟨x0, he, hk _ _ hx⟩

/-- (*goosepond/session.Table).All -/
abbrev n_session_Table_All : FuncId := 29
def c_session_Table_All (a0 : Option Addr) (w : World) (K : Value → World → Prop) : Prop :=
  Calls Try.prog 29 ⟨[(Value.pointer a0)]⟩ w fun e w' => ∃ y4 : Value, e = .returned y4 ∧ K y4 w'
theorem cm_session_Table_All {a0 w K K'} (h : c_session_Table_All a0 w K) (hk : ∀ x0 w', K x0 w' → K' x0 w') : c_session_Table_All a0 w K' :=
  Calls.mono h fun e w' hh => by obtain ⟨x0, he, hx⟩ := hh; exact ⟨x0, he, hk _ _ hx⟩

/-- (*goosepond/session.Table).Find -/
abbrev n_session_Table_Find : FuncId := 30
def c_session_Table_Find (a0 : Option Addr) (a1 : Int) (a2_0 : Int) (a2_1 : Int) (w : World) (K : Int → Bool → World → Prop) : Prop :=
  Calls Try.prog 30 ⟨[(Value.pointer a0), (Value.int .i64 a1), (Value.agg ⟨[(Value.int .i64 a2_0), (Value.int .i64 a2_1)]⟩)]⟩ w fun e w' => ∃ y17 : Int, ∃ y18 : Bool, e = .returned (Value.tuple ⟨[(Value.int .i64 y17), (Value.bool y18)]⟩) ∧ K y17 y18 w'
theorem cm_session_Table_Find {a0 a1 a2_0 a2_1 w K K'} (h : c_session_Table_Find a0 a1 a2_0 a2_1 w K) (hk : ∀ x0 x1 w', K x0 x1 w' → K' x0 x1 w') : c_session_Table_Find a0 a1 a2_0 a2_1 w K' :=
  Calls.mono h fun e w' hh => by obtain ⟨x0, x1, he, hx⟩ := hh; exact ⟨x0, x1, he, hk _ _ _ hx⟩

/-- (*goosepond/session.Table).Len -/
abbrev n_session_Table_Len : FuncId := 31
def c_session_Table_Len (a0 : Option Addr) (w : World) (K : Int → World → Prop) : Prop :=
  Calls Try.prog 31 ⟨[(Value.pointer a0)]⟩ w fun e w' => ∃ y6 : Int, e = .returned (Value.int .i64 y6) ∧ K y6 w'
theorem cm_session_Table_Len {a0 w K K'} (h : c_session_Table_Len a0 w K) (hk : ∀ x0 w', K x0 w' → K' x0 w') : c_session_Table_Len a0 w K' :=
  Calls.mono h fun e w' hh => by obtain ⟨x0, he, hx⟩ := hh; exact ⟨x0, he, hk _ _ hx⟩

/-- (*goosepond/session.Table).Get -/
abbrev n_session_Table_Get : FuncId := 32
def c_session_Table_Get (a0 : Option Addr) (a1 : Int) (w : World) (K : Int → Int → Int → Int → Int → Bool → World → Prop) : Prop :=
  Calls Try.prog 32 ⟨[(Value.pointer a0), (Value.int .i64 a1)]⟩ w fun e w' => ∃ y27 : Int, ∃ y28 : Int, ∃ y29 : Int, ∃ y30 : Int, ∃ y31 : Int, ∃ y32 : Bool, e = .returned (Value.tuple ⟨[(Value.agg ⟨[(Value.int .i64 y27), (Value.int .i64 y28), (Value.int .i64 y29), (Value.int .i64 y30), (Value.int .i64 y31)]⟩), (Value.bool y32)]⟩) ∧ K y27 y28 y29 y30 y31 y32 w'
theorem cm_session_Table_Get {a0 a1 w K K'} (h : c_session_Table_Get a0 a1 w K) (hk : ∀ x0 x1 x2 x3 x4 x5 w', K x0 x1 x2 x3 x4 x5 w' → K' x0 x1 x2 x3 x4 x5 w') : c_session_Table_Get a0 a1 w K' :=
  Calls.mono h fun e w' hh => by obtain ⟨x0, x1, x2, x3, x4, x5, he, hx⟩ := hh; exact ⟨x0, x1, x2, x3, x4, x5, he, hk _ _ _ _ _ _ _ hx⟩

/-- (*goosepond/session.Table).Of -/
abbrev n_session_Table_Of : FuncId := 33
def c_session_Table_Of (a0 : Option Addr) (a1 : Int) (w : World) (K : Value → World → Prop) : Prop :=
  Calls Try.prog 33 ⟨[(Value.pointer a0), (Value.int .i64 a1)]⟩ w fun e w' => ∃ y7 : Value, e = .returned y7 ∧ K y7 w'
theorem cm_session_Table_Of {a0 a1 w K K'} (h : c_session_Table_Of a0 a1 w K) (hk : ∀ x0 w', K x0 w' → K' x0 w') : c_session_Table_Of a0 a1 w K' :=
  Calls.mono h fun e w' hh => by obtain ⟨x0, he, hx⟩ := hh; exact ⟨x0, he, hk _ _ hx⟩

/-- (*goosepond/session.Table).Set -/
abbrev n_session_Table_Set : FuncId := 34
def c_session_Table_Set (a0 : Option Addr) (a1 : Int) (a2 : Int) (a3 : Int) (w : World) (K : Bool → World → Prop) : Prop :=
  Calls Try.prog 34 ⟨[(Value.pointer a0), (Value.int .i64 a1), (Value.int .i64 a2), (Value.int .i64 a3)]⟩ w fun e w' => ∃ y14 : Bool, e = .returned (Value.bool y14) ∧ K y14 w'
theorem cm_session_Table_Set {a0 a1 a2 a3 w K K'} (h : c_session_Table_Set a0 a1 a2 a3 w K) (hk : ∀ x0 w', K x0 w' → K' x0 w') : c_session_Table_Set a0 a1 a2 a3 w K' :=
  Calls.mono h fun e w' hh => by obtain ⟨x0, he, hx⟩ := hh; exact ⟨x0, he, hk _ _ hx⟩

/-- goosepond/goosepondref24.New -/
abbrev n_ref24_New : FuncId := 35
def c_ref24_New (a0 : Int) (w : World) (K : (Option Addr) → Int → World → Prop) : Prop :=
  Calls Try.prog 35 ⟨[(Value.int .i64 a0)]⟩ w fun e w' => ∃ y6 : Option Addr, ∃ y7 : Int, e = .returned (Value.tuple ⟨[(Value.pointer y6), (Value.int .i64 y7)]⟩) ∧ K y6 y7 w'
theorem cm_ref24_New {a0 w K K'} (h : c_ref24_New a0 w K) (hk : ∀ x0 x1 w', K x0 x1 w' → K' x0 x1 w') : c_ref24_New a0 w K' :=
  Calls.mono h fun e w' hh => by obtain ⟨x0, x1, he, hx⟩ := hh; exact ⟨x0, x1, he, hk _ _ _ hx⟩

/-- (*goosepond/goosepondref24.Table).Add -/
abbrev n_ref24_Table_Add : FuncId := 36
def c_ref24_Table_Add (a0 : Option Addr) (a1_0 : Int) (a1_1 : Int) (a1_2 : Int) (a1_3 : Int) (a1_4 : Int) (w : World) (K : Int → Int → World → Prop) : Prop :=
  Calls Try.prog 36 ⟨[(Value.pointer a0), (Value.agg ⟨[(Value.int .i64 a1_0), (Value.int .i64 a1_1), (Value.int .i64 a1_2), (Value.int .i64 a1_3), (Value.int .i64 a1_4)]⟩)]⟩ w fun e w' => ∃ y59 : Int, ∃ y60 : Int, e = .returned (Value.tuple ⟨[(Value.int .i64 y59), (Value.int .i64 y60)]⟩) ∧ K y59 y60 w'
theorem cm_ref24_Table_Add {a0 a1_0 a1_1 a1_2 a1_3 a1_4 w K K'} (h : c_ref24_Table_Add a0 a1_0 a1_1 a1_2 a1_3 a1_4 w K) (hk : ∀ x0 x1 w', K x0 x1 w' → K' x0 x1 w') : c_ref24_Table_Add a0 a1_0 a1_1 a1_2 a1_3 a1_4 w K' :=
  Calls.mono h fun e w' hh => by obtain ⟨x0, x1, he, hx⟩ := hh; exact ⟨x0, x1, he, hk _ _ _ hx⟩

/-- (*goosepond/goosepondref24.Table).Set -/
abbrev n_ref24_Table_Set : FuncId := 37
def c_ref24_Table_Set (a0 : Option Addr) (a1 : Int) (a2 : Int) (a3 : Int) (w : World) (K : Bool → World → Prop) : Prop :=
  Calls Try.prog 37 ⟨[(Value.pointer a0), (Value.int .i64 a1), (Value.int .i64 a2), (Value.int .i64 a3)]⟩ w fun e w' => ∃ y22 : Bool, e = .returned (Value.bool y22) ∧ K y22 w'
theorem cm_ref24_Table_Set {a0 a1 a2 a3 w K K'} (h : c_ref24_Table_Set a0 a1 a2 a3 w K) (hk : ∀ x0 w', K x0 w' → K' x0 w') : c_ref24_Table_Set a0 a1 a2 a3 w K' :=
  Calls.mono h fun e w' hh => by obtain ⟨x0, he, hx⟩ := hh; exact ⟨x0, he, hk _ _ hx⟩

/-- (*goosepond/goosepondref24.Table).Remove -/
abbrev n_ref24_Table_Remove : FuncId := 38
def c_ref24_Table_Remove (a0 : Option Addr) (a1 : Int) (w : World) (K : Bool → World → Prop) : Prop :=
  Calls Try.prog 38 ⟨[(Value.pointer a0), (Value.int .i64 a1)]⟩ w fun e w' => ∃ y32 : Bool, e = .returned (Value.bool y32) ∧ K y32 w'
theorem cm_ref24_Table_Remove {a0 a1 w K K'} (h : c_ref24_Table_Remove a0 a1 w K) (hk : ∀ x0 w', K x0 w' → K' x0 w') : c_ref24_Table_Remove a0 a1 w K' :=
  Calls.mono h fun e w' hh => by obtain ⟨x0, he, hx⟩ := hh; exact ⟨x0, he, hk _ _ hx⟩

/-- (*goosepond/goosepondref24.Table).Get -/
abbrev n_ref24_Table_Get : FuncId := 39
def c_ref24_Table_Get (a0 : Option Addr) (a1 : Int) (w : World) (K : Int → Int → Int → Int → Int → Bool → World → Prop) : Prop :=
  Calls Try.prog 39 ⟨[(Value.pointer a0), (Value.int .i64 a1)]⟩ w fun e w' => ∃ y34 : Int, ∃ y35 : Int, ∃ y36 : Int, ∃ y37 : Int, ∃ y38 : Int, ∃ y39 : Bool, e = .returned (Value.tuple ⟨[(Value.agg ⟨[(Value.int .i64 y34), (Value.int .i64 y35), (Value.int .i64 y36), (Value.int .i64 y37), (Value.int .i64 y38)]⟩), (Value.bool y39)]⟩) ∧ K y34 y35 y36 y37 y38 y39 w'
theorem cm_ref24_Table_Get {a0 a1 w K K'} (h : c_ref24_Table_Get a0 a1 w K) (hk : ∀ x0 x1 x2 x3 x4 x5 w', K x0 x1 x2 x3 x4 x5 w' → K' x0 x1 x2 x3 x4 x5 w') : c_ref24_Table_Get a0 a1 w K' :=
  Calls.mono h fun e w' hh => by obtain ⟨x0, x1, x2, x3, x4, x5, he, hx⟩ := hh; exact ⟨x0, x1, x2, x3, x4, x5, he, hk _ _ _ _ _ _ _ hx⟩

/-- (*goosepond/goosepondref24.Table).Find -/
abbrev n_ref24_Table_Find : FuncId := 40
def c_ref24_Table_Find (a0 : Option Addr) (a1 : Int) (a2_0 : Int) (a2_1 : Int) (w : World) (K : Int → Bool → World → Prop) : Prop :=
  Calls Try.prog 40 ⟨[(Value.pointer a0), (Value.int .i64 a1), (Value.agg ⟨[(Value.int .i64 a2_0), (Value.int .i64 a2_1)]⟩)]⟩ w fun e w' => ∃ y29 : Int, ∃ y30 : Bool, e = .returned (Value.tuple ⟨[(Value.int .i64 y29), (Value.bool y30)]⟩) ∧ K y29 y30 w'
theorem cm_ref24_Table_Find {a0 a1 a2_0 a2_1 w K K'} (h : c_ref24_Table_Find a0 a1 a2_0 a2_1 w K) (hk : ∀ x0 x1 w', K x0 x1 w' → K' x0 x1 w') : c_ref24_Table_Find a0 a1 a2_0 a2_1 w K' :=
  Calls.mono h fun e w' hh => by obtain ⟨x0, x1, he, hx⟩ := hh; exact ⟨x0, x1, he, hk _ _ _ hx⟩

/-- goosepond/goosepondlaw24.same -/
abbrev n_law24_same : FuncId := 41
def c_law24_same (a0 : Option Addr) (a1 : Option Addr) (a2 : Int) (w : World) (K : Bool → World → Prop) : Prop :=
  Calls Try.prog 41 ⟨[(Value.pointer a0), (Value.pointer a1), (Value.int .i64 a2)]⟩ w fun e w' => ∃ y115 : Bool, e = .returned (Value.bool y115) ∧ K y115 w'
theorem cm_law24_same {a0 a1 a2 w K K'} (h : c_law24_same a0 a1 a2 w K) (hk : ∀ x0 w', K x0 w' → K' x0 w') : c_law24_same a0 a1 a2 w K' :=
  Calls.mono h fun e w' hh => by obtain ⟨x0, he, hx⟩ := hh; exact ⟨x0, he, hk _ _ hx⟩

/-- goosepond/hash.New -/
abbrev n_hash_New : FuncId := 42
def c_hash_New (a0 : Int) (w : World) (K : (Option Addr) → Int → World → Prop) : Prop :=
  Calls Try.prog 42 ⟨[(Value.int .i64 a0)]⟩ w fun e w' => ∃ y6 : Option Addr, ∃ y7 : Int, e = .returned (Value.tuple ⟨[(Value.pointer y6), (Value.int .i64 y7)]⟩) ∧ K y6 y7 w'
theorem cm_hash_New {a0 w K K'} (h : c_hash_New a0 w K) (hk : ∀ x0 x1 w', K x0 x1 w' → K' x0 x1 w') : c_hash_New a0 w K' :=
  Calls.mono h fun e w' hh => by obtain ⟨x0, x1, he, hx⟩ := hh; exact ⟨x0, x1, he, hk _ _ _ hx⟩

/-- (*goosepond/hash.Table).Put -/
abbrev n_hash_Table_Put : FuncId := 45
def c_hash_Table_Put (a0 : Option Addr) (a1 : ByteArray) (a2 : Int) (w : World) (K : Int → World → Prop) : Prop :=
  Calls Try.prog 45 ⟨[(Value.pointer a0), (Value.string a1), (Value.int .i64 a2)]⟩ w fun e w' => ∃ y29 : Int, e = .returned (Value.int .i64 y29) ∧ K y29 w'
theorem cm_hash_Table_Put {a0 a1 a2 w K K'} (h : c_hash_Table_Put a0 a1 a2 w K) (hk : ∀ x0 w', K x0 w' → K' x0 w') : c_hash_Table_Put a0 a1 a2 w K' :=
  Calls.mono h fun e w' hh => by obtain ⟨x0, he, hx⟩ := hh; exact ⟨x0, he, hk _ _ hx⟩

/-- (*goosepond/hash.Table).Delete -/
abbrev n_hash_Table_Delete : FuncId := 49
def c_hash_Table_Delete (a0 : Option Addr) (a1 : ByteArray) (w : World) (K : Bool → World → Prop) : Prop :=
  Calls Try.prog 49 ⟨[(Value.pointer a0), (Value.string a1)]⟩ w fun e w' => ∃ y68 : Bool, e = .returned (Value.bool y68) ∧ K y68 w'
theorem cm_hash_Table_Delete {a0 a1 w K K'} (h : c_hash_Table_Delete a0 a1 w K) (hk : ∀ x0 w', K x0 w' → K' x0 w') : c_hash_Table_Delete a0 a1 w K' :=
  Calls.mono h fun e w' hh => by obtain ⟨x0, he, hx⟩ := hh; exact ⟨x0, he, hk _ _ hx⟩

/-- (*goosepond/hash.Table).Get -/
abbrev n_hash_Table_Get : FuncId := 51
def c_hash_Table_Get (a0 : Option Addr) (a1 : ByteArray) (w : World) (K : Int → Bool → World → Prop) : Prop :=
  Calls Try.prog 51 ⟨[(Value.pointer a0), (Value.string a1)]⟩ w fun e w' => ∃ y12 : Int, ∃ y13 : Bool, e = .returned (Value.tuple ⟨[(Value.int .i64 y12), (Value.bool y13)]⟩) ∧ K y12 y13 w'
theorem cm_hash_Table_Get {a0 a1 w K K'} (h : c_hash_Table_Get a0 a1 w K) (hk : ∀ x0 x1 w', K x0 x1 w' → K' x0 x1 w') : c_hash_Table_Get a0 a1 w K' :=
  Calls.mono h fun e w' hh => by obtain ⟨x0, x1, he, hx⟩ := hh; exact ⟨x0, x1, he, hk _ _ _ hx⟩

/-- (*goosepond/session.Table).ready -/
abbrev n_session_Table_ready : FuncId := 52
def c_session_Table_ready (a0 : Option Addr) (w : World) (K : Bool → World → Prop) : Prop :=
  Calls Try.prog 52 ⟨[(Value.pointer a0)]⟩ w fun e w' => ∃ y6 : Bool, e = .returned (Value.bool y6) ∧ K y6 w'
theorem cm_session_Table_ready {a0 w K K'} (h : c_session_Table_ready a0 w K) (hk : ∀ x0 w', K x0 w' → K' x0 w') : c_session_Table_ready a0 w K' :=
  Calls.mono h fun e w' hh => by obtain ⟨x0, he, hx⟩ := hh; exact ⟨x0, he, hk _ _ hx⟩

/-- slices.IndexFunc[[]goosepond/session.slot,goosepond/session.slot] -/
abbrev n_slices_IndexFunc_session_slot_session_slot : FuncId := 53
def c_slices_IndexFunc_session_slot_session_slot (a0 : SliceV) (a1 : Value) (w : World) (K : Int → World → Prop) : Prop :=
  Calls Try.prog 53 ⟨[(Value.slice a0.a a0.len a0.cap), a1]⟩ w fun e w' => ∃ y16 : Int, e = .returned (Value.int .i64 y16) ∧ K y16 w'
theorem cm_slices_IndexFunc_session_slot_session_slot {a0 a1 w K K'} (h : c_slices_IndexFunc_session_slot_session_slot a0 a1 w K) (hk : ∀ x0 w', K x0 w' → K' x0 w') : c_slices_IndexFunc_session_slot_session_slot a0 a1 w K' :=
  Calls.mono h fun e w' hh => by obtain ⟨x0, he, hx⟩ := hh; exact ⟨x0, he, hk _ _ hx⟩

/-- (*goosepond/session.Table).Add$1 -/
abbrev n_session_Table_Add_1 : FuncId := 54
def c_session_Table_Add_1 (a0_0 : Int) (a0_1 : Int) (a0_2 : Int) (a0_3 : Int) (a0_4 : Int) (a0_5 : Bool) (w : World) (K : Bool → World → Prop) : Prop :=
  Calls Try.prog 54 ⟨[(Value.agg ⟨[(Value.int .i64 a0_0), (Value.int .i64 a0_1), (Value.int .i64 a0_2), (Value.int .i64 a0_3), (Value.int .i64 a0_4), (Value.bool a0_5)]⟩)]⟩ w fun e w' => ∃ y5 : Bool, e = .returned (Value.bool y5) ∧ K y5 w'
theorem cm_session_Table_Add_1 {a0_0 a0_1 a0_2 a0_3 a0_4 a0_5 w K K'} (h : c_session_Table_Add_1 a0_0 a0_1 a0_2 a0_3 a0_4 a0_5 w K) (hk : ∀ x0 w', K x0 w' → K' x0 w') : c_session_Table_Add_1 a0_0 a0_1 a0_2 a0_3 a0_4 a0_5 w K' :=
  Calls.mono h fun e w' hh => by obtain ⟨x0, he, hx⟩ := hh; exact ⟨x0, he, hk _ _ hx⟩

/-- goosepond/session.key -/
abbrev n_session_key : FuncId := 55
def c_session_key (a0 : Int) (a1_0 : Int) (a1_1 : Int) (w : World) (K : ByteArray → World → Prop) : Prop :=
  Calls Try.prog 55 ⟨[(Value.int .i64 a0), (Value.agg ⟨[(Value.int .i64 a1_0), (Value.int .i64 a1_1)]⟩)]⟩ w fun e w' => ∃ y19 : ByteArray, e = .returned (Value.string y19) ∧ K y19 w'
theorem cm_session_key {a0 a1_0 a1_1 w K K'} (h : c_session_key a0 a1_0 a1_1 w K) (hk : ∀ x0 w', K x0 w' → K' x0 w') : c_session_key a0 a1_0 a1_1 w K' :=
  Calls.mono h fun e w' hh => by obtain ⟨x0, he, hx⟩ := hh; exact ⟨x0, he, hk _ _ hx⟩

/-- slices.BinarySearch[[]int,int] -/
abbrev n_slices_BinarySearch_int_int : FuncId := 56
def c_slices_BinarySearch_int_int (a0 : SliceV) (a1 : Int) (w : World) (K : Int → Bool → World → Prop) : Prop :=
  Calls Try.prog 56 ⟨[(Value.slice a0.a a0.len a0.cap), (Value.int .i64 a1)]⟩ w fun e w' => ∃ y22 : Int, ∃ y23 : Bool, e = .returned (Value.tuple ⟨[(Value.int .i64 y22), (Value.bool y23)]⟩) ∧ K y22 y23 w'
theorem cm_slices_BinarySearch_int_int {a0 a1 w K K'} (h : c_slices_BinarySearch_int_int a0 a1 w K) (hk : ∀ x0 x1 w', K x0 x1 w' → K' x0 x1 w') : c_slices_BinarySearch_int_int a0 a1 w K' :=
  Calls.mono h fun e w' hh => by obtain ⟨x0, x1, he, hx⟩ := hh; exact ⟨x0, x1, he, hk _ _ _ hx⟩

/-- slices.Insert[[]int,int] -/
abbrev n_slices_Insert_int_int : FuncId := 57
def c_slices_Insert_int_int (a0 : SliceV) (a1 : Int) (a2 : SliceV) (w : World) (K : SliceV → World → Prop) : Prop :=
  Calls Try.prog 57 ⟨[(Value.slice a0.a a0.len a0.cap), (Value.int .i64 a1), (Value.slice a2.a a2.len a2.cap)]⟩ w fun e w' => ∃ y34 : SliceV, e = .returned (Value.slice y34.a y34.len y34.cap) ∧ K y34 w'
theorem cm_slices_Insert_int_int {a0 a1 a2 w K K'} (h : c_slices_Insert_int_int a0 a1 a2 w K) (hk : ∀ x0 w', K x0 w' → K' x0 w') : c_slices_Insert_int_int a0 a1 a2 w K' :=
  Calls.mono h fun e w' hh => by obtain ⟨x0, he, hx⟩ := hh; exact ⟨x0, he, hk _ _ hx⟩

/-- (*goosepond/session.Table).has -/
abbrev n_session_Table_has : FuncId := 58
def c_session_Table_has (a0 : Option Addr) (a1 : Int) (w : World) (K : Bool → World → Prop) : Prop :=
  Calls Try.prog 58 ⟨[(Value.pointer a0), (Value.int .i64 a1)]⟩ w fun e w' => ∃ y14 : Bool, e = .returned (Value.bool y14) ∧ K y14 w'
theorem cm_session_Table_has {a0 a1 w K K'} (h : c_session_Table_has a0 a1 w K) (hk : ∀ x0 w', K x0 w' → K' x0 w') : c_session_Table_has a0 a1 w K' :=
  Calls.mono h fun e w' hh => by obtain ⟨x0, he, hx⟩ := hh; exact ⟨x0, he, hk _ _ hx⟩

/-- slices.DeleteFunc[[]int,int] -/
abbrev n_slices_DeleteFunc_int_int : FuncId := 59
def c_slices_DeleteFunc_int_int (a0 : SliceV) (a1 : Value) (w : World) (K : SliceV → World → Prop) : Prop :=
  Calls Try.prog 59 ⟨[(Value.slice a0.a a0.len a0.cap), a1]⟩ w fun e w' => ∃ y21 : SliceV, e = .returned (Value.slice y21.a y21.len y21.cap) ∧ K y21 w'
theorem cm_slices_DeleteFunc_int_int {a0 a1 w K K'} (h : c_slices_DeleteFunc_int_int a0 a1 w K) (hk : ∀ x0 w', K x0 w' → K' x0 w') : c_slices_DeleteFunc_int_int a0 a1 w K' :=
  Calls.mono h fun e w' hh => by obtain ⟨x0, he, hx⟩ := hh; exact ⟨x0, he, hk _ _ hx⟩

/-- (*goosepond/session.Table).Remove$1 -/
abbrev n_session_Table_Remove_1 : FuncId := 60
def c_session_Table_Remove_1 (a0 : Int) (f0 : Addr) (w : World) (K : Bool → World → Prop) : Prop :=
  Calls Try.prog 60 ⟨[(Value.int .i64 a0), (Value.pointer (some f0))]⟩ w fun e w' => ∃ y3 : Bool, e = .returned (Value.bool y3) ∧ K y3 w'
theorem cm_session_Table_Remove_1 {a0 f0 w K K'} (h : c_session_Table_Remove_1 a0 f0 w K) (hk : ∀ x0 w', K x0 w' → K' x0 w') : c_session_Table_Remove_1 a0 f0 w K' :=
  Calls.mono h fun e w' hh => by obtain ⟨x0, he, hx⟩ := hh; exact ⟨x0, he, hk _ _ hx⟩

/-- (*goosepond/session.Table).All$1 -/
abbrev n_session_Table_All_1 : FuncId := 61
def c_session_Table_All_1 (a0 : Value) (f0 : Addr) (w : World) (K : World → Prop) : Prop :=
  Calls Try.prog 61 ⟨[a0, (Value.pointer (some f0))]⟩ w fun e w' => e = .returned (Value.tuple ⟨[]⟩) ∧ K w'
theorem cm_session_Table_All_1 {a0 f0 w K K'} (h : c_session_Table_All_1 a0 f0 w K) (hk : ∀  w', K  w' → K'  w') : c_session_Table_All_1 a0 f0 w K' :=
  Calls.mono h fun e w' hh => by obtain ⟨he, hx⟩ := hh; exact ⟨he, hk  _ hx⟩

/-- (*goosepond/session.Table).Of$1 -/
abbrev n_session_Table_Of_1 : FuncId := 62
def c_session_Table_Of_1 (a0 : Value) (f0 : Addr) (f1 : Addr) (w : World) (K : World → Prop) : Prop :=
  Calls Try.prog 62 ⟨[a0, (Value.pointer (some f0)), (Value.pointer (some f1))]⟩ w fun e w' => e = .returned (Value.tuple ⟨[]⟩) ∧ K w'
theorem cm_session_Table_Of_1 {a0 f0 f1 w K K'} (h : c_session_Table_Of_1 a0 f0 f1 w K) (hk : ∀  w', K  w' → K'  w') : c_session_Table_Of_1 a0 f0 f1 w K' :=
  Calls.mono h fun e w' hh => by obtain ⟨he, hx⟩ := hh; exact ⟨he, hk  _ hx⟩

/-- slices.Clone[[]int,int] -/
abbrev n_slices_Clone_int_int : FuncId := 63
def c_slices_Clone_int_int (a0 : SliceV) (w : World) (K : SliceV → World → Prop) : Prop :=
  Calls Try.prog 63 ⟨[(Value.slice a0.a a0.len a0.cap)]⟩ w fun e w' => ∃ y6 : SliceV, e = .returned (Value.slice y6.a y6.len y6.cap) ∧ K y6 w'
theorem cm_slices_Clone_int_int {a0 w K K'} (h : c_slices_Clone_int_int a0 w K) (hk : ∀ x0 w', K x0 w' → K' x0 w') : c_slices_Clone_int_int a0 w K' :=
  Calls.mono h fun e w' hh => by obtain ⟨x0, he, hx⟩ := hh; exact ⟨x0, he, hk _ _ hx⟩

/-- (*goosepond/goosepondref24.Table).Of -/
abbrev n_ref24_Table_Of : FuncId := 64
def c_ref24_Table_Of (a0 : Option Addr) (a1 : Int) (w : World) (K : SliceV → World → Prop) : Prop :=
  Calls Try.prog 64 ⟨[(Value.pointer a0), (Value.int .i64 a1)]⟩ w fun e w' => ∃ y28 : SliceV, e = .returned (Value.slice y28.a y28.len y28.cap) ∧ K y28 w'
theorem cm_ref24_Table_Of {a0 a1 w K K'} (h : c_ref24_Table_Of a0 a1 w K) (hk : ∀ x0 w', K x0 w' → K' x0 w') : c_ref24_Table_Of a0 a1 w K' :=
  Calls.mono h fun e w' hh => by obtain ⟨x0, he, hx⟩ := hh; exact ⟨x0, he, hk _ _ hx⟩

/-- (*goosepond/hash.Table).ready -/
abbrev n_hash_Table_ready : FuncId := 65
def c_hash_Table_ready (a0 : Option Addr) (w : World) (K : Bool → World → Prop) : Prop :=
  Calls Try.prog 65 ⟨[(Value.pointer a0)]⟩ w fun e w' => ∃ y6 : Bool, e = .returned (Value.bool y6) ∧ K y6 w'
theorem cm_hash_Table_ready {a0 w K K'} (h : c_hash_Table_ready a0 w K) (hk : ∀ x0 w', K x0 w' → K' x0 w') : c_hash_Table_ready a0 w K' :=
  Calls.mono h fun e w' hh => by obtain ⟨x0, he, hx⟩ := hh; exact ⟨x0, he, hk _ _ hx⟩

/-- (*goosepond/hash.Table).find -/
abbrev n_hash_Table_find : FuncId := 66
def c_hash_Table_find (a0 : Option Addr) (a1 : ByteArray) (w : World) (K : Int → Bool → World → Prop) : Prop :=
  Calls Try.prog 66 ⟨[(Value.pointer a0), (Value.string a1)]⟩ w fun e w' => ∃ y56 : Int, ∃ y57 : Bool, e = .returned (Value.tuple ⟨[(Value.int .i64 y56), (Value.bool y57)]⟩) ∧ K y56 y57 w'
theorem cm_hash_Table_find {a0 a1 w K K'} (h : c_hash_Table_find a0 a1 w K) (hk : ∀ x0 x1 w', K x0 x1 w' → K' x0 x1 w') : c_hash_Table_find a0 a1 w K' :=
  Calls.mono h fun e w' hh => by obtain ⟨x0, x1, he, hx⟩ := hh; exact ⟨x0, x1, he, hk _ _ _ hx⟩

/-- (*goosepond/hash.Table).grow -/
abbrev n_hash_Table_grow : FuncId := 67
def c_hash_Table_grow (a0 : Option Addr) (w : World) (K : World → Prop) : Prop :=
  Calls Try.prog 67 ⟨[(Value.pointer a0)]⟩ w fun e w' => e = .returned (Value.tuple ⟨[]⟩) ∧ K w'
theorem cm_hash_Table_grow {a0 w K K'} (h : c_hash_Table_grow a0 w K) (hk : ∀  w', K  w' → K'  w') : c_hash_Table_grow a0 w K' :=
  Calls.mono h fun e w' hh => by obtain ⟨he, hx⟩ := hh; exact ⟨he, hk  _ hx⟩

/-- (*goosepond/hash.Table).walk -/
abbrev n_hash_Table_walk : FuncId := 69
def c_hash_Table_walk (a0 : Option Addr) (a1 : Int) (w : World) (K : Value → World → Prop) : Prop :=
  Calls Try.prog 69 ⟨[(Value.pointer a0), (Value.int .i64 a1)]⟩ w fun e w' => ∃ y7 : Value, e = .returned y7 ∧ K y7 w'
theorem cm_hash_Table_walk {a0 a1 w K K'} (h : c_hash_Table_walk a0 a1 w K) (hk : ∀ x0 w', K x0 w' → K' x0 w') : c_hash_Table_walk a0 a1 w K' :=
  Calls.mono h fun e w' hh => by obtain ⟨x0, he, hx⟩ := hh; exact ⟨x0, he, hk _ _ hx⟩

/-- goosepond/be.Put -/
abbrev n_be_Put : FuncId := 70
def c_be_Put (a0 : SliceV) (a1 : Int) (a2 : Int) (w : World) (K : SliceV → World → Prop) : Prop :=
  Calls Try.prog 70 ⟨[(Value.slice a0.a a0.len a0.cap), (Value.int .i64 a1), (Value.int .i64 a2)]⟩ w fun e w' => ∃ y12 : SliceV, e = .returned (Value.slice y12.a y12.len y12.cap) ∧ K y12 w'
theorem cm_be_Put {a0 a1 a2 w K K'} (h : c_be_Put a0 a1 a2 w K) (hk : ∀ x0 w', K x0 w' → K' x0 w') : c_be_Put a0 a1 a2 w K' :=
  Calls.mono h fun e w' hh => by obtain ⟨x0, he, hx⟩ := hh; exact ⟨x0, he, hk _ _ hx⟩

/-- cmp.Less[int] -/
abbrev n_cmp_Less_int : FuncId := 71
def c_cmp_Less_int (a0 : Int) (a1 : Int) (w : World) (K : Bool → World → Prop) : Prop :=
  Calls Try.prog 71 ⟨[(Value.int .i64 a0), (Value.int .i64 a1)]⟩ w fun e w' => ∃ y10 : Bool, e = .returned (Value.bool y10) ∧ K y10 w'
theorem cm_cmp_Less_int {a0 a1 w K K'} (h : c_cmp_Less_int a0 a1 w K) (hk : ∀ x0 w', K x0 w' → K' x0 w') : c_cmp_Less_int a0 a1 w K' :=
  Calls.mono h fun e w' hh => by obtain ⟨x0, he, hx⟩ := hh; exact ⟨x0, he, hk _ _ hx⟩

/-- slices.isNaN[int] -/
abbrev n_slices_isNaN_int : FuncId := 72
def c_slices_isNaN_int (a0 : Int) (w : World) (K : Bool → World → Prop) : Prop :=
  Calls Try.prog 72 ⟨[(Value.int .i64 a0)]⟩ w fun e w' => ∃ y2 : Bool, e = .returned (Value.bool y2) ∧ K y2 w'
theorem cm_slices_isNaN_int {a0 w K K'} (h : c_slices_isNaN_int a0 w K) (hk : ∀ x0 w', K x0 w' → K' x0 w') : c_slices_isNaN_int a0 w K' :=
  Calls.mono h fun e w' hh => by obtain ⟨x0, he, hx⟩ := hh; exact ⟨x0, he, hk _ _ hx⟩

/-- slices.rotateRight[int] -/
abbrev n_slices_rotateRight_int : FuncId := 74
def c_slices_rotateRight_int (a0 : SliceV) (a1 : Int) (w : World) (K : World → Prop) : Prop :=
  Calls Try.prog 74 ⟨[(Value.slice a0.a a0.len a0.cap), (Value.int .i64 a1)]⟩ w fun e w' => e = .returned (Value.tuple ⟨[]⟩) ∧ K w'
theorem cm_slices_rotateRight_int {a0 a1 w K K'} (h : c_slices_rotateRight_int a0 a1 w K) (hk : ∀  w', K  w' → K'  w') : c_slices_rotateRight_int a0 a1 w K' :=
  Calls.mono h fun e w' hh => by obtain ⟨he, hx⟩ := hh; exact ⟨he, hk  _ hx⟩

/-- slices.IndexFunc[[]int,int] -/
abbrev n_slices_IndexFunc_int_int : FuncId := 75
def c_slices_IndexFunc_int_int (a0 : SliceV) (a1 : Value) (w : World) (K : Int → World → Prop) : Prop :=
  Calls Try.prog 75 ⟨[(Value.slice a0.a a0.len a0.cap), a1]⟩ w fun e w' => ∃ y11 : Int, e = .returned (Value.int .i64 y11) ∧ K y11 w'
theorem cm_slices_IndexFunc_int_int {a0 a1 w K K'} (h : c_slices_IndexFunc_int_int a0 a1 w K) (hk : ∀ x0 w', K x0 w' → K' x0 w') : c_slices_IndexFunc_int_int a0 a1 w K' :=
  Calls.mono h fun e w' hh => by obtain ⟨x0, he, hx⟩ := hh; exact ⟨x0, he, hk _ _ hx⟩

/-- goosepond/hash.home -/
abbrev n_hash_home : FuncId := 76
def c_hash_home (a0 : ByteArray) (a1 : Int) (w : World) (K : Int → World → Prop) : Prop :=
  Calls Try.prog 76 ⟨[(Value.string a0), (Value.int .i64 a1)]⟩ w fun e w' => ∃ y7 : Int, e = .returned (Value.int .i64 y7) ∧ K y7 w'
theorem cm_hash_home {a0 a1 w K K'} (h : c_hash_home a0 a1 w K) (hk : ∀ x0 w', K x0 w' → K' x0 w') : c_hash_home a0 a1 w K' :=
  Calls.mono h fun e w' hh => by obtain ⟨x0, he, hx⟩ := hh; exact ⟨x0, he, hk _ _ hx⟩

/-- (*goosepond/hash.Table).walk$1 -/
abbrev n_hash_Table_walk_1 : FuncId := 77
def c_hash_Table_walk_1 (a0 : Value) (f0 : Addr) (f1 : Addr) (w : World) (K : World → Prop) : Prop :=
  Calls Try.prog 77 ⟨[a0, (Value.pointer (some f0)), (Value.pointer (some f1))]⟩ w fun e w' => e = .returned (Value.tuple ⟨[]⟩) ∧ K w'
theorem cm_hash_Table_walk_1 {a0 f0 f1 w K K'} (h : c_hash_Table_walk_1 a0 f0 f1 w K) (hk : ∀  w', K  w' → K'  w') : c_hash_Table_walk_1 a0 f0 f1 w K' :=
  Calls.mono h fun e w' hh => by obtain ⟨he, hx⟩ := hh; exact ⟨he, hk  _ hx⟩

/-- slices.Clone[[]byte,byte] -/
abbrev n_slices_Clone_byte_byte : FuncId := 78
def c_slices_Clone_byte_byte (a0 : SliceV) (w : World) (K : SliceV → World → Prop) : Prop :=
  Calls Try.prog 78 ⟨[(Value.slice a0.a a0.len a0.cap)]⟩ w fun e w' => ∃ y6 : SliceV, e = .returned (Value.slice y6.a y6.len y6.cap) ∧ K y6 w'
theorem cm_slices_Clone_byte_byte {a0 w K K'} (h : c_slices_Clone_byte_byte a0 w K) (hk : ∀ x0 w', K x0 w' → K' x0 w') : c_slices_Clone_byte_byte a0 w K' :=
  Calls.mono h fun e w' hh => by obtain ⟨x0, he, hx⟩ := hh; exact ⟨x0, he, hk _ _ hx⟩

/-- goosepond/be.Fits -/
abbrev n_be_Fits : FuncId := 79
def c_be_Fits (a0 : Int) (a1 : Int) (w : World) (K : Bool → World → Prop) : Prop :=
  Calls Try.prog 79 ⟨[(Value.int .i64 a0), (Value.int .i64 a1)]⟩ w fun e w' => ∃ y8 : Bool, e = .returned (Value.bool y8) ∧ K y8 w'
theorem cm_be_Fits {a0 a1 w K K'} (h : c_be_Fits a0 a1 w K) (hk : ∀ x0 w', K x0 w' → K' x0 w') : c_be_Fits a0 a1 w K' :=
  Calls.mono h fun e w' hh => by obtain ⟨x0, he, hx⟩ := hh; exact ⟨x0, he, hk _ _ hx⟩

/-- slices.AppendSeq[[]byte,byte] -/
abbrev n_slices_AppendSeq_byte_byte : FuncId := 80
def c_slices_AppendSeq_byte_byte (a0 : SliceV) (a1 : Value) (w : World) (K : SliceV → World → Prop) : Prop :=
  Calls Try.prog 80 ⟨[(Value.slice a0.a a0.len a0.cap), a1]⟩ w fun e w' => ∃ y18 : SliceV, e = .returned (Value.slice y18.a y18.len y18.cap) ∧ K y18 w'
theorem cm_slices_AppendSeq_byte_byte {a0 a1 w K K'} (h : c_slices_AppendSeq_byte_byte a0 a1 w K) (hk : ∀ x0 w', K x0 w' → K' x0 w') : c_slices_AppendSeq_byte_byte a0 a1 w K' :=
  Calls.mono h fun e w' hh => by obtain ⟨x0, he, hx⟩ := hh; exact ⟨x0, he, hk _ _ hx⟩

/-- goosepond/be.digits -/
abbrev n_be_digits : FuncId := 81
def c_be_digits (a0 : Int) (a1 : Int) (w : World) (K : Value → World → Prop) : Prop :=
  Calls Try.prog 81 ⟨[(Value.int .i64 a0), (Value.int .i64 a1)]⟩ w fun e w' => ∃ y7 : Value, e = .returned y7 ∧ K y7 w'
theorem cm_be_digits {a0 a1 w K K'} (h : c_be_digits a0 a1 w K) (hk : ∀ x0 w', K x0 w' → K' x0 w') : c_be_digits a0 a1 w K' :=
  Calls.mono h fun e w' hh => by obtain ⟨x0, he, hx⟩ := hh; exact ⟨x0, he, hk _ _ hx⟩

/-- cmp.isNaN[int] -/
abbrev n_cmp_isNaN_int : FuncId := 82
def c_cmp_isNaN_int (a0 : Int) (w : World) (K : Bool → World → Prop) : Prop :=
  Calls Try.prog 82 ⟨[(Value.int .i64 a0)]⟩ w fun e w' => ∃ y2 : Bool, e = .returned (Value.bool y2) ∧ K y2 w'
theorem cm_cmp_isNaN_int {a0 w K K'} (h : c_cmp_isNaN_int a0 w K) (hk : ∀ x0 w', K x0 w' → K' x0 w') : c_cmp_isNaN_int a0 w K' :=
  Calls.mono h fun e w' hh => by obtain ⟨x0, he, hx⟩ := hh; exact ⟨x0, he, hk _ _ hx⟩

/-- slices.rotateLeft[int] -/
abbrev n_slices_rotateLeft_int : FuncId := 83
def c_slices_rotateLeft_int (a0 : SliceV) (a1 : Int) (w : World) (K : World → Prop) : Prop :=
  Calls Try.prog 83 ⟨[(Value.slice a0.a a0.len a0.cap), (Value.int .i64 a1)]⟩ w fun e w' => e = .returned (Value.tuple ⟨[]⟩) ∧ K w'
theorem cm_slices_rotateLeft_int {a0 a1 w K K'} (h : c_slices_rotateLeft_int a0 a1 w K) (hk : ∀  w', K  w' → K'  w') : c_slices_rotateLeft_int a0 a1 w K' :=
  Calls.mono h fun e w' hh => by obtain ⟨he, hx⟩ := hh; exact ⟨he, hk  _ hx⟩

/-- goosepond/be.right -/
abbrev n_be_right : FuncId := 84
def c_be_right (a0 : Int) (w : World) (K : Bool → World → Prop) : Prop :=
  Calls Try.prog 84 ⟨[(Value.int .i64 a0)]⟩ w fun e w' => ∃ y4 : Bool, e = .returned (Value.bool y4) ∧ K y4 w'
theorem cm_be_right {a0 w K K'} (h : c_be_right a0 w K) (hk : ∀ x0 w', K x0 w' → K' x0 w') : c_be_right a0 w K' :=
  Calls.mono h fun e w' hh => by obtain ⟨x0, he, hx⟩ := hh; exact ⟨x0, he, hk _ _ hx⟩

/-- goosepond/be.digits$1 -/
abbrev n_be_digits_1 : FuncId := 85
def c_be_digits_1 (a0 : Value) (f0 : Addr) (f1 : Addr) (w : World) (K : World → Prop) : Prop :=
  Calls Try.prog 85 ⟨[a0, (Value.pointer (some f0)), (Value.pointer (some f1))]⟩ w fun e w' => e = .returned (Value.tuple ⟨[]⟩) ∧ K w'
theorem cm_be_digits_1 {a0 f0 f1 w K K'} (h : c_be_digits_1 a0 f0 f1 w K) (hk : ∀  w', K  w' → K'  w') : c_be_digits_1 a0 f0 f1 w K' :=
  Calls.mono h fun e w' hh => by obtain ⟨he, hx⟩ := hh; exact ⟨he, hk  _ hx⟩

/-- slices.Reverse[[]int,int] -/
abbrev n_slices_Reverse_int_int : FuncId := 86
def c_slices_Reverse_int_int (a0 : SliceV) (w : World) (K : World → Prop) : Prop :=
  Calls Try.prog 86 ⟨[(Value.slice a0.a a0.len a0.cap)]⟩ w fun e w' => e = .returned (Value.tuple ⟨[]⟩) ∧ K w'
theorem cm_slices_Reverse_int_int {a0 w K K'} (h : c_slices_Reverse_int_int a0 w K) (hk : ∀  w', K  w' → K'  w') : c_slices_Reverse_int_int a0 w K' :=
  Calls.mono h fun e w' hh => by obtain ⟨he, hx⟩ := hh; exact ⟨he, hk  _ hx⟩

/-- goosepond/goosepondlaw24.SessionOnce -/
def s_law24_SessionOnce (a0 : SliceV) (w : World) (K : Bool → World → Prop) : Prop :=
 (Al w (.cells ⟨[(Value.bool false)]⟩ 4) fun a3 w2 =>
 c_law24_awake  w2 fun r4 w5 =>
 (bif (!r4) then
 St w5 a3 (Value.bool false) fun w6 =>
 Ld .bool w6 a3 fun y7 =>
 K y7 w6
 else
 c_session_New 50 w5 fun r8 r9 w10 =>
 Al w10 (.cells ⟨[(Value.pointer none)]⟩ 62) fun a12 w11 =>
 St w11 a12 (Value.pointer r8) fun w13 =>
 let J14 : Bool → Prop := fun j15 =>
 ((bif j15 then
 St w13 a3 (Value.bool false) fun w16 =>
 Ld .bool w16 a3 fun y17 =>
 K y17 w16
 else
 let J18 : World → Prop := fun w19 =>
 (Al w19 (.cells ⟨[(Value.int .i64 0)]⟩ 3) fun a21 w20 =>
 St w20 a21 (Value.int .i64 0) fun w22 =>
 Ld .ptr w22 a12 fun x23 =>
 c_session_Table_All x23 w22 fun r24 w25 =>
 RngP Try.prog none [.one (.int .i64), .agg [(.int .i64), (.int .i64), (.int .i64), (.int .i64), (.int .i64)]] r24 w25 (fun l26 x27 W28 Kb29 =>
 Al W28 (.cells ⟨[(Value.int .i64 0), (Value.int .i64 0), (Value.int .i64 0), (Value.int .i64 0), (Value.int .i64 0)]⟩ 68) fun a31 w30 =>
 StN [(Value.int .i64 x27.2.1.1), (Value.int .i64 x27.2.1.2.1), (Value.int .i64 x27.2.1.2.2.1), (Value.int .i64 x27.2.1.2.2.2.1), (Value.int .i64 x27.2.1.2.2.2.2.1)] w30 a31 0 fun w32 =>
 w32.heap[l26]? = W28.heap[l26]? ∧
 Ld .ptr (busyW w32 l26) a12 fun x33 =>
 Ld (.int .i64) (busyW w32 l26) a31 fun x34 =>
 Ld (.int .i64) (busyW w32 l26) ((a31.add 3).add 0) fun x35 =>
 Ld (.int .i64) (busyW w32 l26) ((a31.add 3).add 1) fun x36 =>
 c_session_Table_Find x33 x34 x35 x36 (busyW w32 l26) fun r37 r38 w39 =>
 let J40 : Bool → Prop := fun j41 =>
 ((bif j41 then
 St w39 a3 (Value.bool false) fun w42 =>
 Kb29 .ret w42
 else
 Ld (.int .i64) w39 a21 fun x43 =>
 St w39 a21 (Value.int .i64 (IntKind.i64.wrap (x43 + 1))) fun w44 =>
 Kb29 .normal w44))
 (bif (!r38) then
 J40 true
 else
 J40 (r37 != x27.1)))
 (fun w45 =>
 let J46 : World → Prop := fun w47 =>
 (w47.heap[w25.heap.size]? = some (.deferred (some [])) ∧
 Ld .bool (w47.putObj w25.heap.size (.deferred none)) a3 fun y48 =>
 K y48 (w47.putObj w25.heap.size (.deferred none)))
 Ld (.int .i64) w45.drew a21 fun x49 =>
 Ld .ptr w45.drew a12 fun x50 =>
 c_session_Table_Len x50 w45.drew fun r51 w52 =>
 w52.cell? a21 = some (Value.int .i64 x49) ∧
 (bif (x49 == r51) then
 c_law24_awake  w52 fun r53 w54 =>
 St w54 a3 (Value.bool r53) fun w55 =>
 J46 w55
 else
 St w52 a3 (Value.bool false) fun w56 =>
 J46 w56))
 (fun w57 =>
 w57.heap[w25.heap.size]? = some (.deferred (some [])) ∧
 Ld .bool (w57.putObj w25.heap.size (.deferred none)) a3 fun y58 =>
 K y58 (w57.putObj w25.heap.size (.deferred none)))
 [])
 LoopP (S := Int × Unit) (fun s59 w60 next61 =>
 (bif (decide (s59.1 < (a0.len : Int))) then
 let J62 : World → Prop := fun w63 =>
 (next61 ((IntKind.i64.wrap (s59.1 + 1)), ()) w63)
 AtIx a0 7 s59.1 fun a64 =>
 Ld (.int .i64) w60 (a64.add 0) fun x65 =>
 Ld (.int .i64) w60 (a64.add 1) fun x66 =>
 Ld (.int .i64) w60 (a64.add 2) fun x67 =>
 Ld (.int .i64) w60 (a64.add 3) fun x68 =>
 Ld (.int .i64) w60 (a64.add 4) fun x69 =>
 Ld (.int .i64) w60 (a64.add 5) fun x70 =>
 Ld (.int .i64) w60 (a64.add 6) fun x71 =>
 Al w60 (.cells ⟨[(Value.int .i64 0), (Value.int .i64 0), (Value.int .i64 0), (Value.int .i64 0), (Value.int .i64 0), (Value.int .i64 0), (Value.int .i64 0)]⟩ 70) fun a73 w72 =>
 StN [(Value.int .i64 x65), (Value.int .i64 x66), (Value.int .i64 x67), (Value.int .i64 x68), (Value.int .i64 x69), (Value.int .i64 x70), (Value.int .i64 x71)] w72 a73 0 fun w74 =>
 (bif (decide (s59.1 ≥ 60)) then
 J18 w74
 else
 Ld (.int .i64) w74 a73 fun x75 =>
 (bif (decide (x75 < 3)) then
 Ld .ptr w74 a12 fun x76 =>
 Ld (.int .i64) w74 ((a73.add 2).add 0) fun x77 =>
 Ld (.int .i64) w74 ((a73.add 2).add 1) fun x78 =>
 Ld (.int .i64) w74 ((a73.add 2).add 2) fun x79 =>
 Ld (.int .i64) w74 ((a73.add 2).add 3) fun x80 =>
 Ld (.int .i64) w74 ((a73.add 2).add 4) fun x81 =>
 c_session_Table_Add x76 x77 x78 x79 x80 x81 w74 fun r82 r83 w84 =>
 J62 w84
 else
 Ld .ptr w74 a12 fun x85 =>
 Ld (.int .i64) w74 (a73.add 1) fun x86 =>
 c_session_Table_Remove x85 x86 w74 fun r87 w88 =>
 J62 w88))
 else
 J18 w60)) (0, ()) w13))
 Ld .ptr w13 a12 fun x89 =>
 (bif (Option.isNone x89) then
 J14 true
 else
 J14 (r9 != 0))))
theorem e_law24_SessionOnce (a0 : SliceV) (w : World) (K : Bool → World → Prop) : den Try.prog 74 (bodyOf Try.f6) none (.seq .leaf (.seq (.seq .leaf (.cond (.seq .leaf .leaf) .leaf)) (.seq .leaf (.seq (.seq .leaf (.cond (.seq .leaf .leaf) .leaf)) (.seq (.seq .leaf (.blk (.loop [(26, (.int .i64))] (.seq .leaf (.seq (.cond .leaf .leaf) (.seq (.blk (.seq .leaf (.seq (.seq .leaf (.cond .leaf .leaf)) (.seq .leaf (.cond .leaf .leaf))))) .leaf)))))) (.seq .leaf (.seq (.seq .leaf (.blk (.rng [.one (.int .i64), .agg [(.int .i64), (.int .i64), (.int .i64), (.int .i64), (.int .i64)]] (.seq .leaf .leaf) (.blk (.seq .leaf (.seq (.seq .leaf (.cond (.seq .leaf .leaf) .leaf)) .leaf)))))) (.seq .leaf .leaf)))))))) (argEnv 0 [(Value.slice a0.a a0.len a0.cap)]) [] w (retK Try.prog [.cell 2 4] [.one .bool] K) = s_law24_SessionOnce a0 w K := by kernel_rfl
theorem ok_law24_SessionOnce {a0 w K} (h : s_law24_SessionOnce a0 w K) : c_law24_SessionOnce a0 w K :=
  fn_sound pok Try.func6 (fn := Try.f6) (c := bodyOf Try.f6) (nt := 74) (by kernel_rfl) (by kernel_rfl) (rs := [.cell 2 4]) (by kernel_rfl) [.one .bool] K (.seq .leaf (.seq (.seq .leaf (.cond (.seq .leaf .leaf) .leaf)) (.seq .leaf (.seq (.seq .leaf (.cond (.seq .leaf .leaf) .leaf)) (.seq (.seq .leaf (.blk (.loop [(26, (.int .i64))] (.seq .leaf (.seq (.cond .leaf .leaf) (.seq (.blk (.seq .leaf (.seq (.seq .leaf (.cond .leaf .leaf)) (.seq .leaf (.cond .leaf .leaf))))) .leaf)))))) (.seq .leaf (.seq (.seq .leaf (.blk (.rng [.one (.int .i64), .agg [(.int .i64), (.int .i64), (.int .i64), (.int .i64), (.int .i64)]] (.seq .leaf .leaf) (.blk (.seq .leaf (.seq (.seq .leaf (.cond (.seq .leaf .leaf) .leaf)) .leaf)))))) (.seq .leaf .leaf)))))))) [(Value.slice a0.a a0.len a0.cap)] (by kernel_rfl) w ((e_law24_SessionOnce a0 w K).mpr h)

/-- goosepond/goosepondlaw24.SessionNobody -/
def s_law24_SessionNobody (a0_0 : Int) (a0_1 : Int) (a0_2 : Int) (a0_3 : Int) (a0_4 : Int) (a1 : Int) (w : World) (K : Bool → World → Prop) : Prop :=
 (Al w (.cells ⟨[(Value.int .i64 a0_0), (Value.int .i64 a0_1), (Value.int .i64 a0_2), (Value.int .i64 a0_3), (Value.int .i64 a0_4)]⟩ 68) fun a4 w3 =>
 Al w3 (.cells ⟨[(Value.bool false)]⟩ 4) fun a6 w5 =>
 c_law24_awake  w5 fun r7 w8 =>
 (bif (!r7) then
 St w8 a6 (Value.bool false) fun w9 =>
 Ld .bool w9 a6 fun y10 =>
 K y10 w9
 else
 Al w8 (.cells ⟨[(Value.slice none 0 0), (Value.pointer none), (Value.map none), (Value.int .i64 0)]⟩ 80) fun a12 w11 =>
 Ld (.int .i64) w11 (a4.add 0) fun x13 =>
 Ld (.int .i64) w11 (a4.add 1) fun x14 =>
 Ld (.int .i64) w11 (a4.add 2) fun x15 =>
 Ld (.int .i64) w11 (a4.add 3) fun x16 =>
 Ld (.int .i64) w11 (a4.add 4) fun x17 =>
 c_session_Table_Add none x13 x14 x15 x16 x17 w11 fun r18 r19 w20 =>
 Ld (.int .i64) w20 (a4.add 0) fun x21 =>
 Ld (.int .i64) w20 (a4.add 1) fun x22 =>
 Ld (.int .i64) w20 (a4.add 2) fun x23 =>
 Ld (.int .i64) w20 (a4.add 3) fun x24 =>
 Ld (.int .i64) w20 (a4.add 4) fun x25 =>
 c_session_Table_Add (some a12) x21 x22 x23 x24 x25 w20 fun r26 r27 w28 =>
 c_session_Table_Get none a1 w28 fun r29 r30 r31 r32 r33 r34 w35 =>
 Al w35 (.cells ⟨[(Value.int .i64 0), (Value.int .i64 0), (Value.int .i64 0), (Value.int .i64 0), (Value.int .i64 0)]⟩ 68) fun a37 w36 =>
 StN [(Value.int .i64 r29), (Value.int .i64 r30), (Value.int .i64 r31), (Value.int .i64 r32), (Value.int .i64 r33)] w36 a37 0 fun w38 =>
 Ld (.int .i64) w38 a4 fun x39 =>
 Ld (.int .i64) w38 ((a4.add 3).add 0) fun x40 =>
 Ld (.int .i64) w38 ((a4.add 3).add 1) fun x41 =>
 c_session_Table_Find (some a12) x39 x40 x41 w38 fun r42 r43 w44 =>
 Ld (.int .i64) w44 a4 fun x45 =>
 c_session_Table_Of none x45 w44 fun r46 w47 =>
 RngP Try.prog none [.one (.int .i64), .agg [(.int .i64), (.int .i64), (.int .i64), (.int .i64), (.int .i64)]] r46 w47 (fun l48 x49 W50 Kb51 =>
 W50.heap[l48]? = W50.heap[l48]? ∧
 St (busyW W50 l48) a6 (Value.bool false) fun w52 =>
 Kb51 .ret w52)
 (fun w53 =>
 let J54 : World → Prop := fun w55 =>
 (w55.heap[w47.heap.size]? = some (.deferred (some [])) ∧
 Ld .bool (w55.putObj w47.heap.size (.deferred none)) a6 fun y56 =>
 K y56 (w55.putObj w47.heap.size (.deferred none)))
 (bif (r19 == 2) then
 (bif (r27 == 2) then
 (bif (!r34) then
 (bif (!r43) then
 c_session_Table_Set none a1 1 2 w53 fun r57 w58 =>
 (bif (!r57) then
 c_session_Table_Remove none a1 w58 fun r59 w60 =>
 (bif (!r59) then
 c_session_Table_Remove (some a12) a1 w60 fun r61 w62 =>
 (bif (!r61) then
 c_session_Table_Len none w62 fun r63 w64 =>
 (bif (r63 == 0) then
 c_law24_awake  w64 fun r65 w66 =>
 St w66 a6 (Value.bool r65) fun w67 =>
 J54 w67
 else
 St w64 a6 (Value.bool false) fun w68 =>
 J54 w68)
 else
 St w62 a6 (Value.bool false) fun w69 =>
 J54 w69)
 else
 St w60 a6 (Value.bool false) fun w70 =>
 J54 w70)
 else
 St w58 a6 (Value.bool false) fun w71 =>
 J54 w71)
 else
 St w53 a6 (Value.bool false) fun w72 =>
 J54 w72)
 else
 St w53 a6 (Value.bool false) fun w73 =>
 J54 w73)
 else
 St w53 a6 (Value.bool false) fun w74 =>
 J54 w74)
 else
 St w53 a6 (Value.bool false) fun w75 =>
 J54 w75))
 (fun w76 =>
 w76.heap[w47.heap.size]? = some (.deferred (some [])) ∧
 Ld .bool (w76.putObj w47.heap.size (.deferred none)) a6 fun y77 =>
 K y77 (w76.putObj w47.heap.size (.deferred none)))
 []))
theorem e_law24_SessionNobody (a0_0 : Int) (a0_1 : Int) (a0_2 : Int) (a0_3 : Int) (a0_4 : Int) (a1 : Int) (w : World) (K : Bool → World → Prop) : den Try.prog 87 (bodyOf Try.f7) none (.seq .leaf (.seq (.seq .leaf (.cond (.seq .leaf .leaf) .leaf)) (.seq .leaf (.seq .leaf (.seq .leaf (.seq .leaf (.seq .leaf (.seq .leaf (.seq (.seq .leaf (.blk (.rng [.one (.int .i64), .agg [(.int .i64), (.int .i64), (.int .i64), (.int .i64), (.int .i64)]] .leaf (.blk (.seq .leaf .leaf))))) (.seq .leaf .leaf)))))))))) (argEnv 0 [(Value.agg ⟨[(Value.int .i64 a0_0), (Value.int .i64 a0_1), (Value.int .i64 a0_2), (Value.int .i64 a0_3), (Value.int .i64 a0_4)]⟩), (Value.int .i64 a1)]) [] w (retK Try.prog [.cell 4 4] [.one .bool] K) = s_law24_SessionNobody a0_0 a0_1 a0_2 a0_3 a0_4 a1 w K := by kernel_rfl
theorem ok_law24_SessionNobody {a0_0 a0_1 a0_2 a0_3 a0_4 a1 w K} (h : s_law24_SessionNobody a0_0 a0_1 a0_2 a0_3 a0_4 a1 w K) : c_law24_SessionNobody a0_0 a0_1 a0_2 a0_3 a0_4 a1 w K :=
  fn_sound pok Try.func7 (fn := Try.f7) (c := bodyOf Try.f7) (nt := 87) (by kernel_rfl) (by kernel_rfl) (rs := [.cell 4 4]) (by kernel_rfl) [.one .bool] K (.seq .leaf (.seq (.seq .leaf (.cond (.seq .leaf .leaf) .leaf)) (.seq .leaf (.seq .leaf (.seq .leaf (.seq .leaf (.seq .leaf (.seq .leaf (.seq (.seq .leaf (.blk (.rng [.one (.int .i64), .agg [(.int .i64), (.int .i64), (.int .i64), (.int .i64), (.int .i64)]] .leaf (.blk (.seq .leaf .leaf))))) (.seq .leaf .leaf)))))))))) [(Value.agg ⟨[(Value.int .i64 a0_0), (Value.int .i64 a0_1), (Value.int .i64 a0_2), (Value.int .i64 a0_3), (Value.int .i64 a0_4)]⟩), (Value.int .i64 a1)] (by kernel_rfl) w ((e_law24_SessionNobody a0_0 a0_1 a0_2 a0_3 a0_4 a1 w K).mpr h)

/-- goosepond/goosepondlaw24.SessionLives -/
def s_law24_SessionLives (a0 : Int) (a1 : SliceV) (w : World) (K : Bool → World → Prop) : Prop :=
 (c_law24_awake  w fun r3 w4 =>
 (bif (!r3) then
 K false w4
 else
 c_session_New a0 w4 fun r5 r6 w7 =>
 c_ref24_New a0 w7 fun r8 r9 w10 =>
 let J11 : Bool → Prop := fun j12 =>
 ((bif j12 then
 K false w10
 else
 let J13 : World → Prop := fun w14 =>
 (c_law24_awake  w14 fun r15 w16 =>
 K r15 w16)
 LoopP (S := Int × Unit) (fun s17 w18 next19 =>
 (bif (decide (s17.1 < (a1.len : Int))) then
 AtIx a1 7 s17.1 fun a20 =>
 Ld (.int .i64) w18 (a20.add 0) fun x21 =>
 Ld (.int .i64) w18 (a20.add 1) fun x22 =>
 Ld (.int .i64) w18 (a20.add 2) fun x23 =>
 Ld (.int .i64) w18 (a20.add 3) fun x24 =>
 Ld (.int .i64) w18 (a20.add 4) fun x25 =>
 Ld (.int .i64) w18 (a20.add 5) fun x26 =>
 Ld (.int .i64) w18 (a20.add 6) fun x27 =>
 Al w18 (.cells ⟨[(Value.int .i64 0), (Value.int .i64 0), (Value.int .i64 0), (Value.int .i64 0), (Value.int .i64 0), (Value.int .i64 0), (Value.int .i64 0)]⟩ 70) fun a29 w28 =>
 StN [(Value.int .i64 x21), (Value.int .i64 x22), (Value.int .i64 x23), (Value.int .i64 x24), (Value.int .i64 x25), (Value.int .i64 x26), (Value.int .i64 x27)] w28 a29 0 fun w30 =>
 let J31 : Bool → Prop := fun j32 =>
 ((bif j32 then
 J13 w30
 else
 let J33 : Bool → World → Prop := fun j34 w35 =>
 (Ld (.int .i64) w35 (a29.add 1) fun x36 =>
 c_session_Table_Get r5 x36 w35 fun r37 r38 r39 r40 r41 r42 w43 =>
 Al w43 (.cells ⟨[(Value.int .i64 0), (Value.int .i64 0), (Value.int .i64 0), (Value.int .i64 0), (Value.int .i64 0)]⟩ 68) fun a45 w44 =>
 StN [(Value.int .i64 r37), (Value.int .i64 r38), (Value.int .i64 r39), (Value.int .i64 r40), (Value.int .i64 r41)] w44 a45 0 fun w46 =>
 Ld (.int .i64) w46 (a29.add 1) fun x47 =>
 c_ref24_Table_Get r8 x47 w46 fun r48 r49 r50 r51 r52 r53 w54 =>
 Al w54 (.cells ⟨[(Value.int .i64 0), (Value.int .i64 0), (Value.int .i64 0), (Value.int .i64 0), (Value.int .i64 0)]⟩ 68) fun a56 w55 =>
 StN [(Value.int .i64 r48), (Value.int .i64 r49), (Value.int .i64 r50), (Value.int .i64 r51), (Value.int .i64 r52)] w55 a56 0 fun w57 =>
 Ld (.int .i64) w57 (a29.add 2) fun x58 =>
 Ld (.int .i64) w57 (((a29.add 2).add 3).add 0) fun x59 =>
 Ld (.int .i64) w57 (((a29.add 2).add 3).add 1) fun x60 =>
 c_session_Table_Find r5 x58 x59 x60 w57 fun r61 r62 w63 =>
 Ld (.int .i64) w63 (a29.add 2) fun x64 =>
 Ld (.int .i64) w63 (((a29.add 2).add 3).add 0) fun x65 =>
 Ld (.int .i64) w63 (((a29.add 2).add 3).add 1) fun x66 =>
 c_ref24_Table_Find r8 x64 x65 x66 w63 fun r67 r68 w69 =>
 let J70 : Bool → World → Prop := fun j71 w72 =>
 ((bif j71 then
 K false w72
 else
 next19 ((IntKind.i64.wrap (s17.1 + 1)), ()) w72))
 (bif (!j34) then
 J70 true w69
 else
 Ld (.int .i64) w69 (a45.add 0) fun x73 =>
 Ld (.int .i64) w69 (a45.add 1) fun x74 =>
 Ld (.int .i64) w69 (a45.add 2) fun x75 =>
 Ld (.int .i64) w69 (a45.add 3) fun x76 =>
 Ld (.int .i64) w69 (a45.add 4) fun x77 =>
 Ld (.int .i64) w69 (a56.add 0) fun x78 =>
 Ld (.int .i64) w69 (a56.add 1) fun x79 =>
 Ld (.int .i64) w69 (a56.add 2) fun x80 =>
 Ld (.int .i64) w69 (a56.add 3) fun x81 =>
 Ld (.int .i64) w69 (a56.add 4) fun x82 =>
 (bif (!((x73 == x78) && ((x74 == x79) && ((x75 == x80) && (((x76 == x81) && ((x77 == x82) && true)) && true))))) then
 J70 true w69
 else
 (bif (!((r42 : Bool) == r53)) then
 J70 true w69
 else
 (bif (r61 != r67) then
 J70 true w69
 else
 (bif (!((r62 : Bool) == r68)) then
 J70 true w69
 else
 Ld (.int .i64) w69 (a29.add 2) fun x83 =>
 c_law24_same r5 r8 x83 w69 fun r84 w85 =>
 J70 (!r84) w85))))))
 Ld (.int .i64) w30 a29 fun x86 =>
 let J87 : Bool → Prop := fun j88 =>
 ((bif j88 then
 Ld (.int .i64) w30 ((a29.add 2).add 0) fun x89 =>
 Ld (.int .i64) w30 ((a29.add 2).add 1) fun x90 =>
 Ld (.int .i64) w30 ((a29.add 2).add 2) fun x91 =>
 Ld (.int .i64) w30 ((a29.add 2).add 3) fun x92 =>
 Ld (.int .i64) w30 ((a29.add 2).add 4) fun x93 =>
 c_session_Table_Add r5 x89 x90 x91 x92 x93 w30 fun r94 r95 w96 =>
 Ld (.int .i64) w96 ((a29.add 2).add 0) fun x97 =>
 Ld (.int .i64) w96 ((a29.add 2).add 1) fun x98 =>
 Ld (.int .i64) w96 ((a29.add 2).add 2) fun x99 =>
 Ld (.int .i64) w96 ((a29.add 2).add 3) fun x100 =>
 Ld (.int .i64) w96 ((a29.add 2).add 4) fun x101 =>
 c_ref24_Table_Add r8 x97 x98 x99 x100 x101 w96 fun r102 r103 w104 =>
 (bif (r94 == r102) then
 J33 (r95 == r103) w104
 else
 J33 false w104)
 else
 (bif (x86 == 3) then
 Ld (.int .i64) w30.drew (a29.add 1) fun x105 =>
 Ld (.int .i64) w30.drew ((a29.add 2).add 1) fun x106 =>
 Ld (.int .i64) w30.drew ((a29.add 2).add 2) fun x107 =>
 Ld (.int .i64) w30.drew (a29.add 1) fun x108 =>
 Ld (.int .i64) w30.drew ((a29.add 2).add 1) fun x109 =>
 Ld (.int .i64) w30.drew ((a29.add 2).add 2) fun x110 =>
 c_session_Table_Set r5 x105 x106 x107 w30.drew fun r111 w112 =>
 w112.cell? ((a29.add 2).add 2) = some (Value.int .i64 x110) ∧
 w112.cell? ((a29.add 2).add 1) = some (Value.int .i64 x109) ∧
 w112.cell? (a29.add 1) = some (Value.int .i64 x108) ∧
 c_ref24_Table_Set r8 x108 x109 x110 w112 fun r113 w114 =>
 J33 ((r111 : Bool) == r113) w114
 else
 Ld (.int .i64) w30.drew (a29.add 1) fun x115 =>
 Ld (.int .i64) w30.drew (a29.add 1) fun x116 =>
 c_session_Table_Remove r5 x115 w30.drew fun r117 w118 =>
 w118.cell? (a29.add 1) = some (Value.int .i64 x116) ∧
 c_ref24_Table_Remove r8 x116 w118 fun r119 w120 =>
 J33 ((r117 : Bool) == r119) w120)))
 (bif (x86 == 0) then
 J87 (x86 == 0)
 else
 (bif (x86 == 1) then
 J87 (x86 == 1)
 else
 J87 (x86 == 2)))))
 (bif (decide (s17.1 ≥ 60)) then
 J31 true
 else
 J31 (Option.isNone r8))
 else
 J13 w18)) (0, ()) w10))
 (bif (r6 != r9) then
 J11 true
 else
 J11 (!(((Option.isNone r5) : Bool) == (Option.isNone r8))))))
theorem e_law24_SessionLives (a0 : Int) (a1 : SliceV) (w : World) (K : Bool → World → Prop) : den Try.prog 188 (bodyOf Try.f8) none (.seq .leaf (.seq (.seq .leaf (.cond (.seq .leaf .leaf) .leaf)) (.seq .leaf (.seq .leaf (.seq (.seq .leaf (.cond (.seq .leaf .leaf) .leaf)) (.seq (.seq .leaf (.blk (.loop [(48, (.int .i64))] (.seq .leaf (.seq (.cond .leaf .leaf) (.seq (.blk (.seq .leaf (.seq (.seq .leaf (.cond .leaf .leaf)) (.seq .leaf (.seq (.seq .leaf (.blk (.seq (.seq .leaf (.cond .leaf (.seq .leaf (.cond .leaf .leaf)))) (.cond (.seq .leaf (.seq .leaf .leaf)) (.seq .leaf (.cond .leaf .leaf)))))) (.seq .leaf (.seq .leaf (.seq .leaf (.seq .leaf (.seq .leaf (.cond (.seq .leaf .leaf) .leaf))))))))))) .leaf)))))) (.seq .leaf .leaf))))))) (argEnv 0 [(Value.int .i64 a0), (Value.slice a1.a a1.len a1.cap)]) [] w (retK Try.prog [.tmp 4] [.one .bool] K) = s_law24_SessionLives a0 a1 w K := by kernel_rfl
theorem ok_law24_SessionLives {a0 a1 w K} (h : s_law24_SessionLives a0 a1 w K) : c_law24_SessionLives a0 a1 w K :=
  fn_sound pok Try.func8 (fn := Try.f8) (c := bodyOf Try.f8) (nt := 188) (by kernel_rfl) (by kernel_rfl) (rs := [.tmp 4]) (by kernel_rfl) [.one .bool] K (.seq .leaf (.seq (.seq .leaf (.cond (.seq .leaf .leaf) .leaf)) (.seq .leaf (.seq .leaf (.seq (.seq .leaf (.cond (.seq .leaf .leaf) .leaf)) (.seq (.seq .leaf (.blk (.loop [(48, (.int .i64))] (.seq .leaf (.seq (.cond .leaf .leaf) (.seq (.blk (.seq .leaf (.seq (.seq .leaf (.cond .leaf .leaf)) (.seq .leaf (.seq (.seq .leaf (.blk (.seq (.seq .leaf (.cond .leaf (.seq .leaf (.cond .leaf .leaf)))) (.cond (.seq .leaf (.seq .leaf .leaf)) (.seq .leaf (.cond .leaf .leaf)))))) (.seq .leaf (.seq .leaf (.seq .leaf (.seq .leaf (.seq .leaf (.cond (.seq .leaf .leaf) .leaf))))))))))) .leaf)))))) (.seq .leaf .leaf))))))) [(Value.int .i64 a0), (Value.slice a1.a a1.len a1.cap)] (by kernel_rfl) w ((e_law24_SessionLives a0 a1 w K).mpr h)

/-- goosepond/goosepondlaw24.awake -/
def s_law24_awake  (w : World) (K : Bool → World → Prop) : Prop :=
 (c_session_New 2 w fun r1 r2 w3 =>
 let J4 : Bool → Prop := fun j5 =>
 ((bif j5 then
 K false w3
 else
 c_session_Table_Add r1 3 0 0 1 2 w3 fun r6 r7 w8 =>
 c_session_Table_Find r1 3 1 2 w8 fun r9 r10 w11 =>
 let J12 : Bool → World → Prop := fun j13 w14 =>
 (K j13 w14)
 (bif (r7 == 0) then
 (bif (r6 == 0) then
 (bif r10 then
 (bif (r9 == 0) then
 c_session_Table_Set r1 0 4 5 w11 fun r15 w16 =>
 (bif r15 then
 c_session_Table_Len r1 w16 fun r17 w18 =>
 J12 (r17 == 1) w18
 else
 J12 false w16)
 else
 J12 false w11)
 else
 J12 false w11)
 else
 J12 false w11)
 else
 J12 false w11)))
 (bif (Option.isNone r1) then
 J4 true
 else
 J4 (r2 != 0)))
theorem e_law24_awake  (w : World) (K : Bool → World → Prop) : den Try.prog 52 (bodyOf Try.f25) none (.seq .leaf (.seq .leaf (.seq (.seq .leaf (.cond (.seq .leaf .leaf) .leaf)) (.seq .leaf (.seq .leaf (.seq .leaf .leaf)))))) (argEnv 0 []) [] w (retK Try.prog [.tmp 0] [.one .bool] K) = s_law24_awake  w K := by kernel_rfl
theorem ok_law24_awake { w K} (h : s_law24_awake  w K) : c_law24_awake  w K :=
  fn_sound pok Try.func25 (fn := Try.f25) (c := bodyOf Try.f25) (nt := 52) (by kernel_rfl) (by kernel_rfl) (rs := [.tmp 0]) (by kernel_rfl) [.one .bool] K (.seq .leaf (.seq .leaf (.seq (.seq .leaf (.cond (.seq .leaf .leaf) .leaf)) (.seq .leaf (.seq .leaf (.seq .leaf .leaf)))))) [] (by kernel_rfl) w ((e_law24_awake  w K).mpr h)

/-- goosepond/session.New -/
def s_session_New (a0 : Int) (w : World) (K : (Option Addr) → Int → World → Prop) : Prop :=
 (let J2 : Bool → Prop := fun j3 =>
 ((bif j3 then
 K none 1 w
 else
 c_hash_New a0 w fun r4 r5 w6 =>
 (bif (r5 != 0) then
 K none r5 w6
 else
 MkSl 109 6 48 [(Value.int .i64 0), (Value.int .i64 0), (Value.int .i64 0), (Value.int .i64 0), (Value.int .i64 0), (Value.bool false)] a0 a0 w6 fun s7 w8 =>
 Al w8 (.map #[] 0) fun a10 w9 =>
 Al w9 (.cells ⟨[(Value.slice s7.a s7.len s7.cap), (Value.pointer r4), (Value.map (some w8.heap.size)), (Value.int .i64 0)]⟩ 80) fun a12 w11 =>
 K (some a12) 0 w11)))
 (bif (decide (a0 < 0)) then
 J2 true
 else
 J2 (decide (a0 > 4096))))
theorem e_session_New (a0 : Int) (w : World) (K : (Option Addr) → Int → World → Prop) : den Try.prog 26 (bodyOf Try.f26) none (.seq .leaf (.seq (.seq .leaf (.cond (.seq .leaf .leaf) .leaf)) (.seq .leaf (.seq (.seq .leaf (.cond (.seq .leaf .leaf) .leaf)) (.seq .leaf .leaf))))) (argEnv 0 [(Value.int .i64 a0)]) [] w (retK Try.prog [.tmp 2, .tmp 3] [.one .ptr, .one (.int .i64)] K) = s_session_New a0 w K := by kernel_rfl
theorem ok_session_New {a0 w K} (h : s_session_New a0 w K) : c_session_New a0 w K :=
  fn_sound pok Try.func26 (fn := Try.f26) (c := bodyOf Try.f26) (nt := 26) (by kernel_rfl) (by kernel_rfl) (rs := [.tmp 2, .tmp 3]) (by kernel_rfl) [.one .ptr, .one (.int .i64)] K (.seq .leaf (.seq (.seq .leaf (.cond (.seq .leaf .leaf) .leaf)) (.seq .leaf (.seq (.seq .leaf (.cond (.seq .leaf .leaf) .leaf)) (.seq .leaf .leaf))))) [(Value.int .i64 a0)] (by kernel_rfl) w ((e_session_New a0 w K).mpr h)

/-- (*goosepond/session.Table).Add -/
def s_session_Table_Add (a0 : Option Addr) (a1_0 : Int) (a1_1 : Int) (a1_2 : Int) (a1_3 : Int) (a1_4 : Int) (w : World) (K : Int → Int → World → Prop) : Prop :=
 (Al w (.cells ⟨[(Value.int .i64 a1_0), (Value.int .i64 a1_1), (Value.int .i64 a1_2), (Value.int .i64 a1_3), (Value.int .i64 a1_4)]⟩ 68) fun a4 w3 =>
 c_session_Table_ready a0 w3 fun r5 w6 =>
 (bif (!r5) then
 K 0 2 w6
 else
 Ld (.int .i64) w6 a4 fun x7 =>
 Ld (.int .i64) w6 ((a4.add 3).add 0) fun x8 =>
 Ld (.int .i64) w6 ((a4.add 3).add 1) fun x9 =>
 c_session_Table_Find a0 x7 x8 x9 w6 fun r10 r11 w12 =>
 (bif r11 then
 K 0 9 w12
 else
 ∃ a13 : Addr, a0 = some a13 ∧
 Ld .slice w12 a13 fun x14 =>
 c_slices_IndexFunc_session_slot_session_slot x14 (Value.func (.func 54) #[] #[]) w12 fun r15 w16 =>
 (bif (decide (r15 < 0)) then
 K 0 7 w16
 else
 ∃ a17 : Addr, a0 = some a17 ∧
 Ld .slice w16.drew a17 fun x18 =>
 Ld (.int .i64) w16.drew (a4.add 0) fun x19 =>
 Ld (.int .i64) w16.drew (a4.add 1) fun x20 =>
 Ld (.int .i64) w16.drew (a4.add 2) fun x21 =>
 Ld (.int .i64) w16.drew (a4.add 3) fun x22 =>
 Ld (.int .i64) w16.drew (a4.add 4) fun x23 =>
 AtIx x18 6 r15 fun a24 =>
 StN [(Value.int .i64 x19), (Value.int .i64 x20), (Value.int .i64 x21), (Value.int .i64 x22), (Value.int .i64 x23), (Value.bool true)] w16.drew a24 0 fun w25 =>
 ∃ a26 : Addr, a0 = some a26 ∧
 Ld .ptr w25.drew (a26.add 1) fun x27 =>
 Ld (.int .i64) w25.drew a4 fun x28 =>
 Ld (.int .i64) w25.drew ((a4.add 3).add 0) fun x29 =>
 Ld (.int .i64) w25.drew ((a4.add 3).add 1) fun x30 =>
 c_session_key x28 x29 x30 w25.drew fun r31 w32 =>
 w32.cell? (a26.add 1) = some (Value.pointer x27) ∧
 c_hash_Table_Put x27 r31 r15 w32 fun r33 w34 =>
 ∃ a35 : Addr, a0 = some a35 ∧
 Ld .map w34.drew (a35.add 2) fun x36 =>
 Ld (.int .i64) w34.drew a4 fun x37 =>
 MapGet Try.prog 3 .slice x36 (Value.int .i64 x37) (Value.slice none 0 0) w34.drew fun x38 =>
 c_slices_BinarySearch_int_int x38 r15 w34.drew fun r39 r40 w41 =>
 ∃ a42 : Addr, a0 = some a42 ∧
 Ld .map w41.drew (a42.add 2) fun x43 =>
 Ld (.int .i64) w41.drew a4 fun x44 =>
 Al w41.drew (.cells ⟨[(Value.int .i64 r15)]⟩ 3) fun a46 w45 =>
 w45.cell? a4 = some (Value.int .i64 x44) ∧
 w45.cell? (a42.add 2) = some (Value.map x43) ∧
 c_slices_Insert_int_int x38 r39 ⟨(some a46), 1, 1⟩ w45 fun r47 w48 =>
 w48.cell? a4 = some (Value.int .i64 x44) ∧
 w48.cell? (a42.add 2) = some (Value.map x43) ∧
 MapSet Try.prog 3 x43 (Value.int .i64 x44) (Value.slice r47.a r47.len r47.cap) w48 fun w49 =>
 ∃ a50 : Addr, a0 = some a50 ∧
 Ld (.int .i64) w49 (a50.add 3) fun x51 =>
 ∃ a52 : Addr, a0 = some a52 ∧
 St w49 (a52.add 3) (Value.int .i64 (IntKind.i64.wrap (x51 + 1))) fun w53 =>
 K r15 0 w53))))
theorem e_session_Table_Add (a0 : Option Addr) (a1_0 : Int) (a1_1 : Int) (a1_2 : Int) (a1_3 : Int) (a1_4 : Int) (w : World) (K : Int → Int → World → Prop) : den Try.prog 83 (bodyOf Try.f27) none (.seq .leaf (.seq (.seq .leaf (.cond (.seq .leaf .leaf) .leaf)) (.seq (.seq .leaf (.seq .leaf (.cond (.seq .leaf .leaf) .leaf))) (.seq .leaf (.seq (.seq .leaf (.cond (.seq .leaf .leaf) .leaf)) (.seq .leaf (.seq .leaf (.seq .leaf (.seq .leaf (.seq .leaf (.seq .leaf (.seq .leaf .leaf)))))))))))) (argEnv 0 [(Value.pointer a0), (Value.agg ⟨[(Value.int .i64 a1_0), (Value.int .i64 a1_1), (Value.int .i64 a1_2), (Value.int .i64 a1_3), (Value.int .i64 a1_4)]⟩)]) [] w (retK Try.prog [.tmp 4, .tmp 5] [.one (.int .i64), .one (.int .i64)] K) = s_session_Table_Add a0 a1_0 a1_1 a1_2 a1_3 a1_4 w K := by kernel_rfl
theorem ok_session_Table_Add {a0 a1_0 a1_1 a1_2 a1_3 a1_4 w K} (h : s_session_Table_Add a0 a1_0 a1_1 a1_2 a1_3 a1_4 w K) : c_session_Table_Add a0 a1_0 a1_1 a1_2 a1_3 a1_4 w K :=
  fn_sound pok Try.func27 (fn := Try.f27) (c := bodyOf Try.f27) (nt := 83) (by kernel_rfl) (by kernel_rfl) (rs := [.tmp 4, .tmp 5]) (by kernel_rfl) [.one (.int .i64), .one (.int .i64)] K (.seq .leaf (.seq (.seq .leaf (.cond (.seq .leaf .leaf) .leaf)) (.seq (.seq .leaf (.seq .leaf (.cond (.seq .leaf .leaf) .leaf))) (.seq .leaf (.seq (.seq .leaf (.cond (.seq .leaf .leaf) .leaf)) (.seq .leaf (.seq .leaf (.seq .leaf (.seq .leaf (.seq .leaf (.seq .leaf (.seq .leaf .leaf)))))))))))) [(Value.pointer a0), (Value.agg ⟨[(Value.int .i64 a1_0), (Value.int .i64 a1_1), (Value.int .i64 a1_2), (Value.int .i64 a1_3), (Value.int .i64 a1_4)]⟩)] (by kernel_rfl) w ((e_session_Table_Add a0 a1_0 a1_1 a1_2 a1_3 a1_4 w K).mpr h)

/-- (*goosepond/session.Table).Remove -/
def s_session_Table_Remove (a0 : Option Addr) (a1 : Int) (w : World) (K : Bool → World → Prop) : Prop :=
 (isOne (Value.int .i64 a1) = true ∧
 Al w (.cells ⟨[(Value.int .i64 a1)]⟩ 3) fun a4 w3 =>
 Ld (.int .i64) w3 a4 fun x5 =>
 c_session_Table_has a0 x5 w3 fun r6 w7 =>
 (bif (!r6) then
 K false w7
 else
 ∃ a8 : Addr, a0 = some a8 ∧
 Ld .slice w7.drew a8 fun x9 =>
 Ld (.int .i64) w7.drew a4 fun x10 =>
 AtIx x9 6 x10 fun a11 =>
 Ld (.int .i64) w7.drew (a11.add 0) fun x12 =>
 Ld (.int .i64) w7.drew (a11.add 1) fun x13 =>
 Ld (.int .i64) w7.drew (a11.add 2) fun x14 =>
 Ld (.int .i64) w7.drew (a11.add 3) fun x15 =>
 Ld (.int .i64) w7.drew (a11.add 4) fun x16 =>
 Al w7.drew (.cells ⟨[(Value.int .i64 0), (Value.int .i64 0), (Value.int .i64 0), (Value.int .i64 0), (Value.int .i64 0)]⟩ 68) fun a18 w17 =>
 w17.cell? (a11.add 0) = some (Value.int .i64 x12) ∧
 w17.cell? (a11.add 1) = some (Value.int .i64 x13) ∧
 w17.cell? (a11.add 2) = some (Value.int .i64 x14) ∧
 w17.cell? (a11.add 3) = some (Value.int .i64 x15) ∧
 w17.cell? (a11.add 4) = some (Value.int .i64 x16) ∧
 w17.cell? a4 = some (Value.int .i64 x10) ∧
 w17.cell? a8 = some (Value.slice x9.a x9.len x9.cap) ∧
 StN [(Value.int .i64 x12), (Value.int .i64 x13), (Value.int .i64 x14), (Value.int .i64 x15), (Value.int .i64 x16)] w17 a18 0 fun w19 =>
 ∃ a20 : Addr, a0 = some a20 ∧
 Ld .ptr w19.drew (a20.add 1) fun x21 =>
 Ld (.int .i64) w19.drew a18 fun x22 =>
 Ld (.int .i64) w19.drew ((a18.add 3).add 0) fun x23 =>
 Ld (.int .i64) w19.drew ((a18.add 3).add 1) fun x24 =>
 c_session_key x22 x23 x24 w19.drew fun r25 w26 =>
 w26.cell? (a20.add 1) = some (Value.pointer x21) ∧
 c_hash_Table_Delete x21 r25 w26 fun r27 w28 =>
 ∃ a29 : Addr, a0 = some a29 ∧
 Ld .map w28.drew (a29.add 2) fun x30 =>
 Ld (.int .i64) w28.drew a18 fun x31 =>
 MapGet Try.prog 3 .slice x30 (Value.int .i64 x31) (Value.slice none 0 0) w28.drew fun x32 =>
 c_slices_DeleteFunc_int_int x32 (Value.func (.func 60) #[] #[(Value.pointer (some a4))]) w28.drew fun r33 w34 =>
 ∃ a35 : Addr, a0 = some a35 ∧
 Ld .map w34.drew (a35.add 2) fun x36 =>
 Ld (.int .i64) w34.drew a18 fun x37 =>
 MapSet Try.prog 3 x36 (Value.int .i64 x37) (Value.slice r33.a r33.len r33.cap) w34.drew fun w38 =>
 let J39 : World → Prop := fun w40 =>
 (∃ a41 : Addr, a0 = some a41 ∧
 Ld .slice w40.drew a41 fun x42 =>
 Ld (.int .i64) w40.drew a4 fun x43 =>
 AtIx x42 6 x43 fun a44 =>
 StN [(Value.int .i64 0), (Value.int .i64 0), (Value.int .i64 0), (Value.int .i64 0), (Value.int .i64 0), (Value.bool false)] w40.drew a44 0 fun w45 =>
 ∃ a46 : Addr, a0 = some a46 ∧
 Ld (.int .i64) w45 (a46.add 3) fun x47 =>
 ∃ a48 : Addr, a0 = some a48 ∧
 St w45 (a48.add 3) (Value.int .i64 (IntKind.i64.wrap (x47 - 1))) fun w49 =>
 K true w49)
 (bif ((r33.len : Int) == 0) then
 ∃ a50 : Addr, a0 = some a50 ∧
 Ld .map w38.drew (a50.add 2) fun x51 =>
 Ld (.int .i64) w38.drew a18 fun x52 =>
 MapDel Try.prog 3 x51 (Value.int .i64 x52) w38.drew fun w53 =>
 J39 w53
 else
 J39 w38)))
theorem e_session_Table_Remove (a0 : Option Addr) (a1 : Int) (w : World) (K : Bool → World → Prop) : den Try.prog 68 (bodyOf Try.f28) none (.seq .leaf (.seq (.seq .leaf (.cond (.seq .leaf .leaf) .leaf)) (.seq .leaf (.seq .leaf (.seq .leaf (.seq .leaf (.seq (.seq .leaf (.cond .leaf .leaf)) (.seq .leaf (.seq .leaf (.seq .leaf .leaf)))))))))) (argEnv 0 [(Value.pointer a0), (Value.int .i64 a1)]) [] w (retK Try.prog [.tmp 4] [.one .bool] K) = s_session_Table_Remove a0 a1 w K := by kernel_rfl
theorem ok_session_Table_Remove {a0 a1 w K} (h : s_session_Table_Remove a0 a1 w K) : c_session_Table_Remove a0 a1 w K :=
  fn_sound pok Try.func28 (fn := Try.f28) (c := bodyOf Try.f28) (nt := 68) (by kernel_rfl) (by kernel_rfl) (rs := [.tmp 4]) (by kernel_rfl) [.one .bool] K (.seq .leaf (.seq (.seq .leaf (.cond (.seq .leaf .leaf) .leaf)) (.seq .leaf (.seq .leaf (.seq .leaf (.seq .leaf (.seq (.seq .leaf (.cond .leaf .leaf)) (.seq .leaf (.seq .leaf (.seq .leaf .leaf)))))))))) [(Value.pointer a0), (Value.int .i64 a1)] (by kernel_rfl) w ((e_session_Table_Remove a0 a1 w K).mpr h)

/-- (*goosepond/session.Table).All -/
def s_session_Table_All (a0 : Option Addr) (w : World) (K : Value → World → Prop) : Prop :=
 (isOne (Value.pointer a0) = true ∧
 Al w (.cells ⟨[(Value.pointer a0)]⟩ 62) fun a3 w2 =>
 K (Value.func (.func 61) #[] #[(Value.pointer (some a3))]) w2)
theorem e_session_Table_All (a0 : Option Addr) (w : World) (K : Value → World → Prop) : den Try.prog 4 (bodyOf Try.f29) none (.seq .leaf (.seq .leaf .leaf)) (argEnv 0 [(Value.pointer a0)]) [] w (retK Try.prog [.tmp 2] [.one .any] K) = s_session_Table_All a0 w K := by kernel_rfl
theorem ok_session_Table_All {a0 w K} (h : s_session_Table_All a0 w K) : c_session_Table_All a0 w K :=
  fn_sound pok Try.func29 (fn := Try.f29) (c := bodyOf Try.f29) (nt := 4) (by kernel_rfl) (by kernel_rfl) (rs := [.tmp 2]) (by kernel_rfl) [.one .any] K (.seq .leaf (.seq .leaf .leaf)) [(Value.pointer a0)] (by kernel_rfl) w ((e_session_Table_All a0 w K).mpr h)

/-- (*goosepond/session.Table).Find -/
def s_session_Table_Find (a0 : Option Addr) (a1 : Int) (a2_0 : Int) (a2_1 : Int) (w : World) (K : Int → Bool → World → Prop) : Prop :=
 (Al w (.cells ⟨[(Value.int .i64 a2_0), (Value.int .i64 a2_1)]⟩ 66) fun a5 w4 =>
 c_session_Table_ready a0 w4 fun r6 w7 =>
 (bif (!r6) then
 K 0 false w7
 else
 ∃ a8 : Addr, a0 = some a8 ∧
 Ld .ptr w7.drew (a8.add 1) fun x9 =>
 Ld (.int .i64) w7.drew (a5.add 0) fun x10 =>
 Ld (.int .i64) w7.drew (a5.add 1) fun x11 =>
 c_session_key a1 x10 x11 w7.drew fun r12 w13 =>
 w13.cell? (a8.add 1) = some (Value.pointer x9) ∧
 c_hash_Table_Get x9 r12 w13 fun r14 r15 w16 =>
 K r14 r15 w16))
theorem e_session_Table_Find (a0 : Option Addr) (a1 : Int) (a2_0 : Int) (a2_1 : Int) (w : World) (K : Int → Bool → World → Prop) : den Try.prog 21 (bodyOf Try.f30) none (.seq .leaf (.seq (.seq .leaf (.cond (.seq .leaf .leaf) .leaf)) (.seq .leaf .leaf))) (argEnv 0 [(Value.pointer a0), (Value.int .i64 a1), (Value.agg ⟨[(Value.int .i64 a2_0), (Value.int .i64 a2_1)]⟩)]) [] w (retK Try.prog [.tmp 6, .tmp 7] [.one (.int .i64), .one .bool] K) = s_session_Table_Find a0 a1 a2_0 a2_1 w K := by kernel_rfl
theorem ok_session_Table_Find {a0 a1 a2_0 a2_1 w K} (h : s_session_Table_Find a0 a1 a2_0 a2_1 w K) : c_session_Table_Find a0 a1 a2_0 a2_1 w K :=
  fn_sound pok Try.func30 (fn := Try.f30) (c := bodyOf Try.f30) (nt := 21) (by kernel_rfl) (by kernel_rfl) (rs := [.tmp 6, .tmp 7]) (by kernel_rfl) [.one (.int .i64), .one .bool] K (.seq .leaf (.seq (.seq .leaf (.cond (.seq .leaf .leaf) .leaf)) (.seq .leaf .leaf))) [(Value.pointer a0), (Value.int .i64 a1), (Value.agg ⟨[(Value.int .i64 a2_0), (Value.int .i64 a2_1)]⟩)] (by kernel_rfl) w ((e_session_Table_Find a0 a1 a2_0 a2_1 w K).mpr h)

/-- (*goosepond/session.Table).Len -/
def s_session_Table_Len (a0 : Option Addr) (w : World) (K : Int → World → Prop) : Prop :=
 (c_session_Table_ready a0 w fun r2 w3 =>
 (bif (!r2) then
 K 0 w3
 else
 ∃ a4 : Addr, a0 = some a4 ∧
 Ld (.int .i64) w3 (a4.add 3) fun x5 =>
 K x5 w3))
theorem e_session_Table_Len (a0 : Option Addr) (w : World) (K : Int → World → Prop) : den Try.prog 10 (bodyOf Try.f31) none (.seq .leaf (.seq (.seq .leaf (.cond (.seq .leaf .leaf) .leaf)) (.seq .leaf .leaf))) (argEnv 0 [(Value.pointer a0)]) [] w (retK Try.prog [.tmp 2] [.one (.int .i64)] K) = s_session_Table_Len a0 w K := by kernel_rfl
theorem ok_session_Table_Len {a0 w K} (h : s_session_Table_Len a0 w K) : c_session_Table_Len a0 w K :=
  fn_sound pok Try.func31 (fn := Try.f31) (c := bodyOf Try.f31) (nt := 10) (by kernel_rfl) (by kernel_rfl) (rs := [.tmp 2]) (by kernel_rfl) [.one (.int .i64)] K (.seq .leaf (.seq (.seq .leaf (.cond (.seq .leaf .leaf) .leaf)) (.seq .leaf .leaf))) [(Value.pointer a0)] (by kernel_rfl) w ((e_session_Table_Len a0 w K).mpr h)

/-- (*goosepond/session.Table).Get -/
def s_session_Table_Get (a0 : Option Addr) (a1 : Int) (w : World) (K : Int → Int → Int → Int → Int → Bool → World → Prop) : Prop :=
 (Al w (.cells ⟨[(Value.int .i64 0), (Value.int .i64 0), (Value.int .i64 0), (Value.int .i64 0), (Value.int .i64 0)]⟩ 68) fun a4 w3 =>
 c_session_Table_has a0 a1 w3 fun r5 w6 =>
 (bif (!r5) then
 StN [(Value.int .i64 0), (Value.int .i64 0), (Value.int .i64 0), (Value.int .i64 0), (Value.int .i64 0)] w6 a4 0 fun w7 =>
 Ld (.int .i64) w7 (a4.add 0) fun y8 =>
 Ld (.int .i64) w7 (a4.add 1) fun y9 =>
 Ld (.int .i64) w7 (a4.add 2) fun y10 =>
 Ld (.int .i64) w7 (a4.add 3) fun y11 =>
 Ld (.int .i64) w7 (a4.add 4) fun y12 =>
 K y8 y9 y10 y11 y12 false w7
 else
 ∃ a13 : Addr, a0 = some a13 ∧
 Ld .slice w6 a13 fun x14 =>
 AtIx x14 6 a1 fun a15 =>
 Ld (.int .i64) w6 (a15.add 0) fun x16 =>
 Ld (.int .i64) w6 (a15.add 1) fun x17 =>
 Ld (.int .i64) w6 (a15.add 2) fun x18 =>
 Ld (.int .i64) w6 (a15.add 3) fun x19 =>
 Ld (.int .i64) w6 (a15.add 4) fun x20 =>
 StN [(Value.int .i64 x16), (Value.int .i64 x17), (Value.int .i64 x18), (Value.int .i64 x19), (Value.int .i64 x20)] w6 a4 0 fun w21 =>
 Ld (.int .i64) w21 (a4.add 0) fun y22 =>
 Ld (.int .i64) w21 (a4.add 1) fun y23 =>
 Ld (.int .i64) w21 (a4.add 2) fun y24 =>
 Ld (.int .i64) w21 (a4.add 3) fun y25 =>
 Ld (.int .i64) w21 (a4.add 4) fun y26 =>
 K y22 y23 y24 y25 y26 true w21))
theorem e_session_Table_Get (a0 : Option Addr) (a1 : Int) (w : World) (K : Int → Int → Int → Int → Int → Bool → World → Prop) : den Try.prog 19 (bodyOf Try.f32) none (.seq .leaf (.seq (.seq .leaf (.cond (.seq .leaf .leaf) .leaf)) (.seq .leaf .leaf))) (argEnv 0 [(Value.pointer a0), (Value.int .i64 a1)]) [] w (retK Try.prog [.cell 4 68, .tmp 5] [.agg [(.int .i64), (.int .i64), (.int .i64), (.int .i64), (.int .i64)], .one .bool] K) = s_session_Table_Get a0 a1 w K := by kernel_rfl
theorem ok_session_Table_Get {a0 a1 w K} (h : s_session_Table_Get a0 a1 w K) : c_session_Table_Get a0 a1 w K :=
  fn_sound pok Try.func32 (fn := Try.f32) (c := bodyOf Try.f32) (nt := 19) (by kernel_rfl) (by kernel_rfl) (rs := [.cell 4 68, .tmp 5]) (by kernel_rfl) [.agg [(.int .i64), (.int .i64), (.int .i64), (.int .i64), (.int .i64)], .one .bool] K (.seq .leaf (.seq (.seq .leaf (.cond (.seq .leaf .leaf) .leaf)) (.seq .leaf .leaf))) [(Value.pointer a0), (Value.int .i64 a1)] (by kernel_rfl) w ((e_session_Table_Get a0 a1 w K).mpr h)

/-- (*goosepond/session.Table).Of -/
def s_session_Table_Of (a0 : Option Addr) (a1 : Int) (w : World) (K : Value → World → Prop) : Prop :=
 (isOne (Value.pointer a0) = true ∧
 Al w (.cells ⟨[(Value.pointer a0)]⟩ 62) fun a4 w3 =>
 isOne (Value.int .i64 a1) = true ∧
 Al w3 (.cells ⟨[(Value.int .i64 a1)]⟩ 3) fun a6 w5 =>
 K (Value.func (.func 62) #[] #[(Value.pointer (some a4)), (Value.pointer (some a6))]) w5)
theorem e_session_Table_Of (a0 : Option Addr) (a1 : Int) (w : World) (K : Value → World → Prop) : den Try.prog 6 (bodyOf Try.f33) none (.seq .leaf (.seq .leaf .leaf)) (argEnv 0 [(Value.pointer a0), (Value.int .i64 a1)]) [] w (retK Try.prog [.tmp 4] [.one .any] K) = s_session_Table_Of a0 a1 w K := by kernel_rfl
theorem ok_session_Table_Of {a0 a1 w K} (h : s_session_Table_Of a0 a1 w K) : c_session_Table_Of a0 a1 w K :=
  fn_sound pok Try.func33 (fn := Try.f33) (c := bodyOf Try.f33) (nt := 6) (by kernel_rfl) (by kernel_rfl) (rs := [.tmp 4]) (by kernel_rfl) [.one .any] K (.seq .leaf (.seq .leaf .leaf)) [(Value.pointer a0), (Value.int .i64 a1)] (by kernel_rfl) w ((e_session_Table_Of a0 a1 w K).mpr h)

/-- (*goosepond/session.Table).Set -/
def s_session_Table_Set (a0 : Option Addr) (a1 : Int) (a2 : Int) (a3 : Int) (w : World) (K : Bool → World → Prop) : Prop :=
 (c_session_Table_has a0 a1 w fun r5 w6 =>
 (bif (!r5) then
 K false w6
 else
 ∃ a7 : Addr, a0 = some a7 ∧
 Ld .slice w6 a7 fun x8 =>
 AtIx x8 6 a1 fun a9 =>
 ∃ a10 : Addr, (some a9) = some a10 ∧
 St w6 (a10.add 1) (Value.int .i64 a2) fun w11 =>
 ∃ a12 : Addr, (some a9) = some a12 ∧
 St w11 (a12.add 2) (Value.int .i64 a3) fun w13 =>
 K true w13))
theorem e_session_Table_Set (a0 : Option Addr) (a1 : Int) (a2 : Int) (a3 : Int) (w : World) (K : Bool → World → Prop) : den Try.prog 30 (bodyOf Try.f34) none (.seq .leaf (.seq (.seq .leaf (.cond (.seq .leaf .leaf) .leaf)) (.seq .leaf (.seq .leaf (.seq .leaf .leaf))))) (argEnv 0 [(Value.pointer a0), (Value.int .i64 a1), (Value.int .i64 a2), (Value.int .i64 a3)]) [] w (retK Try.prog [.tmp 8] [.one .bool] K) = s_session_Table_Set a0 a1 a2 a3 w K := by kernel_rfl
theorem ok_session_Table_Set {a0 a1 a2 a3 w K} (h : s_session_Table_Set a0 a1 a2 a3 w K) : c_session_Table_Set a0 a1 a2 a3 w K :=
  fn_sound pok Try.func34 (fn := Try.f34) (c := bodyOf Try.f34) (nt := 30) (by kernel_rfl) (by kernel_rfl) (rs := [.tmp 8]) (by kernel_rfl) [.one .bool] K (.seq .leaf (.seq (.seq .leaf (.cond (.seq .leaf .leaf) .leaf)) (.seq .leaf (.seq .leaf (.seq .leaf .leaf))))) [(Value.pointer a0), (Value.int .i64 a1), (Value.int .i64 a2), (Value.int .i64 a3)] (by kernel_rfl) w ((e_session_Table_Set a0 a1 a2 a3 w K).mpr h)

/-- goosepond/goosepondref24.New -/
def s_ref24_New (a0 : Int) (w : World) (K : (Option Addr) → Int → World → Prop) : Prop :=
 (let J2 : Bool → Prop := fun j3 =>
 ((bif j3 then
 K none 1 w
 else
 Al w (.cells ⟨[(Value.slice none 0 0), (Value.int .i64 a0)]⟩ 121) fun a5 w4 =>
 K (some a5) 0 w4))
 (bif (decide (a0 < 0)) then
 J2 true
 else
 J2 (decide (a0 > 4096))))
theorem e_ref24_New (a0 : Int) (w : World) (K : (Option Addr) → Int → World → Prop) : den Try.prog 13 (bodyOf Try.f35) none (.seq .leaf (.seq (.seq .leaf (.cond (.seq .leaf .leaf) .leaf)) (.seq .leaf .leaf))) (argEnv 0 [(Value.int .i64 a0)]) [] w (retK Try.prog [.tmp 2, .tmp 3] [.one .ptr, .one (.int .i64)] K) = s_ref24_New a0 w K := by kernel_rfl
theorem ok_ref24_New {a0 w K} (h : s_ref24_New a0 w K) : c_ref24_New a0 w K :=
  fn_sound pok Try.func35 (fn := Try.f35) (c := bodyOf Try.f35) (nt := 13) (by kernel_rfl) (by kernel_rfl) (rs := [.tmp 2, .tmp 3]) (by kernel_rfl) [.one .ptr, .one (.int .i64)] K (.seq .leaf (.seq (.seq .leaf (.cond (.seq .leaf .leaf) .leaf)) (.seq .leaf .leaf))) [(Value.int .i64 a0)] (by kernel_rfl) w ((e_ref24_New a0 w K).mpr h)

/-- (*goosepond/goosepondref24.Table).Add -/
def s_ref24_Table_Add (a0 : Option Addr) (a1_0 : Int) (a1_1 : Int) (a1_2 : Int) (a1_3 : Int) (a1_4 : Int) (w : World) (K : Int → Int → World → Prop) : Prop :=
 (Al w (.cells ⟨[(Value.int .i64 a1_0), (Value.int .i64 a1_1), (Value.int .i64 a1_2), (Value.int .i64 a1_3), (Value.int .i64 a1_4)]⟩ 68) fun a4 w3 =>
 Ld (.int .i64) w3 a4 fun x5 =>
 Ld (.int .i64) w3 ((a4.add 3).add 0) fun x6 =>
 Ld (.int .i64) w3 ((a4.add 3).add 1) fun x7 =>
 c_ref24_Table_Find a0 x5 x6 x7 w3 fun r8 r9 w10 =>
 (bif r9 then
 K 0 9 w10
 else
 ∃ a11 : Addr, a0 = some a11 ∧
 Ld .slice w10.drew a11 fun x12 =>
 ∃ a13 : Addr, a0 = some a13 ∧
 Ld (.int .i64) w10.drew (a13.add 1) fun x14 =>
 (bif (decide ((x12.len : Int) ≥ x14)) then
 K 0 7 w10.drew
 else
 LoopP (S := Int × Unit) (fun s15 w16 next17 =>
 let J18 : Bool → Prop := fun j19 =>
 ((bif j19 then
 next17 ((IntKind.i64.wrap (s15.1 + 1)), ()) w16
 else
 let J20 : World → Prop := fun w21 =>
 (K s15.1 0 w21)
 ∃ a22 : Addr, a0 = some a22 ∧
 Ld .slice w16.drew a22 fun x23 =>
 SubSl x23 6 0 s15.1 fun s24 =>
 Ld (.int .i64) w16.drew (a4.add 0) fun x25 =>
 Ld (.int .i64) w16.drew (a4.add 1) fun x26 =>
 Ld (.int .i64) w16.drew (a4.add 2) fun x27 =>
 Ld (.int .i64) w16.drew (a4.add 3) fun x28 =>
 Ld (.int .i64) w16.drew (a4.add 4) fun x29 =>
 ∃ a30 : Addr, a0 = some a30 ∧
 Ld .slice w16.drew a30 fun x31 =>
 SubSl x31 6 s15.1 (x31.len : Int) fun s32 =>
 (AppSl 123 6 48 [(Value.int .i64 0), (Value.int .i64 0), (Value.int .i64 0), (Value.int .i64 0), (Value.int .i64 0), (Value.int .i64 0)] ⟨none, 0, 0⟩ s24 w16.drew fun s33 w34 =>
 w34.cell? a30 = some (Value.slice x31.a x31.len x31.cap) ∧
 w34.cell? (a4.add 0) = some (Value.int .i64 x25) ∧
 w34.cell? (a4.add 1) = some (Value.int .i64 x26) ∧
 w34.cell? (a4.add 2) = some (Value.int .i64 x27) ∧
 w34.cell? (a4.add 3) = some (Value.int .i64 x28) ∧
 w34.cell? (a4.add 4) = some (Value.int .i64 x29) ∧
 Al w34 (.cells ⟨[(Value.int .i64 s15.1), (Value.int .i64 x25), (Value.int .i64 x26), (Value.int .i64 x27), (Value.int .i64 x28), (Value.int .i64 x29)]⟩ 123) fun a36 w35 =>
 w35.cell? a30 = some (Value.slice x31.a x31.len x31.cap) ∧
 w35.cell? a22 = some (Value.slice x23.a x23.len x23.cap) ∧
 AppSl 123 6 48 [(Value.int .i64 0), (Value.int .i64 0), (Value.int .i64 0), (Value.int .i64 0), (Value.int .i64 0), (Value.int .i64 0)] s33 ⟨(some a36), 1, 1⟩ w35 fun s37 w38 =>
 w38.cell? a30 = some (Value.slice x31.a x31.len x31.cap) ∧
 AppSl 123 6 48 [(Value.int .i64 0), (Value.int .i64 0), (Value.int .i64 0), (Value.int .i64 0), (Value.int .i64 0), (Value.int .i64 0)] s37 s32 w38 fun s39 w40 =>
 ∃ a41 : Addr, a0 = some a41 ∧
 St w40 a41 (Value.slice s39.a s39.len s39.cap) fun w42 =>
 J20 w42) ∧
 (Al w16.drew (.cells ⟨[(Value.int .i64 s15.1), (Value.int .i64 x25), (Value.int .i64 x26), (Value.int .i64 x27), (Value.int .i64 x28), (Value.int .i64 x29)]⟩ 123) fun a44 w43 =>
 w43.cell? a30 = some (Value.slice x31.a x31.len x31.cap) ∧
 w43.cell? a22 = some (Value.slice x23.a x23.len x23.cap) ∧
 AppSl 123 6 48 [(Value.int .i64 0), (Value.int .i64 0), (Value.int .i64 0), (Value.int .i64 0), (Value.int .i64 0), (Value.int .i64 0)] ⟨none, 0, 0⟩ s24 w43 fun s45 w46 =>
 w46.cell? a30 = some (Value.slice x31.a x31.len x31.cap) ∧
 w46.cell? (a4.add 0) = some (Value.int .i64 x25) ∧
 w46.cell? (a4.add 1) = some (Value.int .i64 x26) ∧
 w46.cell? (a4.add 2) = some (Value.int .i64 x27) ∧
 w46.cell? (a4.add 3) = some (Value.int .i64 x28) ∧
 w46.cell? (a4.add 4) = some (Value.int .i64 x29) ∧
 AppSl 123 6 48 [(Value.int .i64 0), (Value.int .i64 0), (Value.int .i64 0), (Value.int .i64 0), (Value.int .i64 0), (Value.int .i64 0)] s45 ⟨(some a44), 1, 1⟩ w46 fun s47 w48 =>
 w48.cell? a30 = some (Value.slice x31.a x31.len x31.cap) ∧
 AppSl 123 6 48 [(Value.int .i64 0), (Value.int .i64 0), (Value.int .i64 0), (Value.int .i64 0), (Value.int .i64 0), (Value.int .i64 0)] s47 s32 w48 fun s49 w50 =>
 ∃ a51 : Addr, a0 = some a51 ∧
 St w50 a51 (Value.slice s49.a s49.len s49.cap) fun w52 =>
 J20 w52)))
 ∃ a53 : Addr, a0 = some a53 ∧
 Ld .slice w16 a53 fun x54 =>
 (bif (decide (s15.1 < (x54.len : Int))) then
 ∃ a55 : Addr, a0 = some a55 ∧
 Ld .slice w16 a55 fun x56 =>
 AtIx x56 6 s15.1 fun a57 =>
 Ld (.int .i64) w16 a57 fun x58 =>
 J18 (x58 == s15.1)
 else
 J18 false)) (0, ()) w10.drew)))
theorem e_ref24_Table_Add (a0 : Option Addr) (a1_0 : Int) (a1_1 : Int) (a1_2 : Int) (a1_3 : Int) (a1_4 : Int) (w : World) (K : Int → Int → World → Prop) : den Try.prog 73 (bodyOf Try.f36) none (.seq .leaf (.seq (.seq .leaf (.seq .leaf (.cond (.seq .leaf .leaf) .leaf))) (.seq (.seq .leaf (.cond (.seq .leaf .leaf) .leaf)) (.seq .leaf (.seq (.blk (.loop [(8, (.int .i64))] (.seq (.seq .leaf (.cond .leaf .leaf)) (.blk .leaf)))) (.seq .leaf (.seq .leaf .leaf))))))) (argEnv 0 [(Value.pointer a0), (Value.agg ⟨[(Value.int .i64 a1_0), (Value.int .i64 a1_1), (Value.int .i64 a1_2), (Value.int .i64 a1_3), (Value.int .i64 a1_4)]⟩)]) [] w (retK Try.prog [.tmp 4, .tmp 5] [.one (.int .i64), .one (.int .i64)] K) = s_ref24_Table_Add a0 a1_0 a1_1 a1_2 a1_3 a1_4 w K := by kernel_rfl
theorem ok_ref24_Table_Add {a0 a1_0 a1_1 a1_2 a1_3 a1_4 w K} (h : s_ref24_Table_Add a0 a1_0 a1_1 a1_2 a1_3 a1_4 w K) : c_ref24_Table_Add a0 a1_0 a1_1 a1_2 a1_3 a1_4 w K :=
  fn_sound pok Try.func36 (fn := Try.f36) (c := bodyOf Try.f36) (nt := 73) (by kernel_rfl) (by kernel_rfl) (rs := [.tmp 4, .tmp 5]) (by kernel_rfl) [.one (.int .i64), .one (.int .i64)] K (.seq .leaf (.seq (.seq .leaf (.seq .leaf (.cond (.seq .leaf .leaf) .leaf))) (.seq (.seq .leaf (.cond (.seq .leaf .leaf) .leaf)) (.seq .leaf (.seq (.blk (.loop [(8, (.int .i64))] (.seq (.seq .leaf (.cond .leaf .leaf)) (.blk .leaf)))) (.seq .leaf (.seq .leaf .leaf))))))) [(Value.pointer a0), (Value.agg ⟨[(Value.int .i64 a1_0), (Value.int .i64 a1_1), (Value.int .i64 a1_2), (Value.int .i64 a1_3), (Value.int .i64 a1_4)]⟩)] (by kernel_rfl) w ((e_ref24_Table_Add a0 a1_0 a1_1 a1_2 a1_3 a1_4 w K).mpr h)

/-- (*goosepond/goosepondref24.Table).Set -/
def s_ref24_Table_Set (a0 : Option Addr) (a1 : Int) (a2 : Int) (a3 : Int) (w : World) (K : Bool → World → Prop) : Prop :=
 (LoopP (S := Int × Unit) (fun s5 w6 next7 =>
 ∃ a8 : Addr, a0 = some a8 ∧
 Ld .slice w6 a8 fun x9 =>
 (bif (decide (s5.1 < (x9.len : Int))) then
 ∃ a10 : Addr, a0 = some a10 ∧
 Ld .slice w6 a10 fun x11 =>
 AtIx x11 6 s5.1 fun a12 =>
 Ld (.int .i64) w6 a12 fun x13 =>
 (bif (x13 == a1) then
 ∃ a14 : Addr, a0 = some a14 ∧
 Ld .slice w6.drew a14 fun x15 =>
 ∃ a16 : Addr, a0 = some a16 ∧
 Ld .slice w6.drew a16 fun x17 =>
 AtIx x15 6 s5.1 fun a18 =>
 St w6.drew ((a18.add 1).add 1) (Value.int .i64 a2) fun w19 =>
 AtIx x17 6 s5.1 fun a20 =>
 St w19 ((a20.add 1).add 2) (Value.int .i64 a3) fun w21 =>
 K true w21
 else
 next7 ((IntKind.i64.wrap (s5.1 + 1)), ()) w6)
 else
 K false w6)) (0, ()) w)
theorem e_ref24_Table_Set (a0 : Option Addr) (a1 : Int) (a2 : Int) (a3 : Int) (w : World) (K : Bool → World → Prop) : den Try.prog 47 (bodyOf Try.f37) none (.seq .leaf (.seq (.seq .leaf (.blk (.loop [(9, (.int .i64))] (.seq (.seq .leaf (.cond .leaf .leaf)) (.seq (.blk (.seq .leaf (.cond (.seq .leaf (.seq .leaf .leaf)) .leaf))) .leaf))))) (.seq .leaf .leaf))) (argEnv 0 [(Value.pointer a0), (Value.int .i64 a1), (Value.int .i64 a2), (Value.int .i64 a3)]) [] w (retK Try.prog [.tmp 8] [.one .bool] K) = s_ref24_Table_Set a0 a1 a2 a3 w K := by kernel_rfl
theorem ok_ref24_Table_Set {a0 a1 a2 a3 w K} (h : s_ref24_Table_Set a0 a1 a2 a3 w K) : c_ref24_Table_Set a0 a1 a2 a3 w K :=
  fn_sound pok Try.func37 (fn := Try.f37) (c := bodyOf Try.f37) (nt := 47) (by kernel_rfl) (by kernel_rfl) (rs := [.tmp 8]) (by kernel_rfl) [.one .bool] K (.seq .leaf (.seq (.seq .leaf (.blk (.loop [(9, (.int .i64))] (.seq (.seq .leaf (.cond .leaf .leaf)) (.seq (.blk (.seq .leaf (.cond (.seq .leaf (.seq .leaf .leaf)) .leaf))) .leaf))))) (.seq .leaf .leaf))) [(Value.pointer a0), (Value.int .i64 a1), (Value.int .i64 a2), (Value.int .i64 a3)] (by kernel_rfl) w ((e_ref24_Table_Set a0 a1 a2 a3 w K).mpr h)

/-- (*goosepond/goosepondref24.Table).Remove -/
def s_ref24_Table_Remove (a0 : Option Addr) (a1 : Int) (w : World) (K : Bool → World → Prop) : Prop :=
 (LoopP (S := SliceV × Int × Unit) (fun s3 w4 next5 =>
 ∃ a6 : Addr, a0 = some a6 ∧
 Ld .slice w4 a6 fun x7 =>
 (bif (decide (s3.2.1 < (x7.len : Int))) then
 let J8 : SliceV → World → Prop := fun j9 w10 =>
 (next5 (j9, (IntKind.i64.wrap (s3.2.1 + 1)), ()) w10)
 ∃ a11 : Addr, a0 = some a11 ∧
 Ld .slice w4 a11 fun x12 =>
 AtIx x12 6 s3.2.1 fun a13 =>
 Ld (.int .i64) w4 a13 fun x14 =>
 (bif (x14 != a1) then
 ∃ a15 : Addr, a0 = some a15 ∧
 Ld .slice w4 a15 fun x16 =>
 AtIx x16 6 s3.2.1 fun a17 =>
 Ld (.int .i64) w4 (a17.add 0) fun x18 =>
 Ld (.int .i64) w4 (a17.add 1) fun x19 =>
 Ld (.int .i64) w4 (a17.add 2) fun x20 =>
 Ld (.int .i64) w4 (a17.add 3) fun x21 =>
 Ld (.int .i64) w4 (a17.add 4) fun x22 =>
 Ld (.int .i64) w4 (a17.add 5) fun x23 =>
 Al w4 (.cells ⟨[(Value.int .i64 x18), (Value.int .i64 x19), (Value.int .i64 x20), (Value.int .i64 x21), (Value.int .i64 x22), (Value.int .i64 x23)]⟩ 123) fun a25 w24 =>
 AppSl 123 6 48 [(Value.int .i64 0), (Value.int .i64 0), (Value.int .i64 0), (Value.int .i64 0), (Value.int .i64 0), (Value.int .i64 0)] s3.1 ⟨(some a25), 1, 1⟩ w24 fun s26 w27 =>
 J8 s26 w27
 else
 J8 s3.1 w4)
 else
 ∃ a28 : Addr, a0 = some a28 ∧
 Ld .slice w4 a28 fun x29 =>
 ∃ a30 : Addr, a0 = some a30 ∧
 St w4 a30 (Value.slice s3.1.a s3.1.len s3.1.cap) fun w31 =>
 K (decide ((s3.1.len : Int) < (x29.len : Int))) w31)) (⟨none, 0, 0⟩, 0, ()) w)
theorem e_ref24_Table_Remove (a0 : Option Addr) (a1 : Int) (w : World) (K : Bool → World → Prop) : den Try.prog 50 (bodyOf Try.f38) none (.seq .leaf (.seq .leaf (.seq (.seq .leaf (.blk (.loop [(5, .slice), (6, (.int .i64))] (.seq (.seq .leaf (.cond .leaf .leaf)) (.seq (.blk (.seq .leaf (.cond .leaf .leaf))) .leaf))))) (.seq .leaf (.seq .leaf (.seq .leaf .leaf)))))) (argEnv 0 [(Value.pointer a0), (Value.int .i64 a1)]) [] w (retK Try.prog [.tmp 4] [.one .bool] K) = s_ref24_Table_Remove a0 a1 w K := by kernel_rfl
theorem ok_ref24_Table_Remove {a0 a1 w K} (h : s_ref24_Table_Remove a0 a1 w K) : c_ref24_Table_Remove a0 a1 w K :=
  fn_sound pok Try.func38 (fn := Try.f38) (c := bodyOf Try.f38) (nt := 50) (by kernel_rfl) (by kernel_rfl) (rs := [.tmp 4]) (by kernel_rfl) [.one .bool] K (.seq .leaf (.seq .leaf (.seq (.seq .leaf (.blk (.loop [(5, .slice), (6, (.int .i64))] (.seq (.seq .leaf (.cond .leaf .leaf)) (.seq (.blk (.seq .leaf (.cond .leaf .leaf))) .leaf))))) (.seq .leaf (.seq .leaf (.seq .leaf .leaf)))))) [(Value.pointer a0), (Value.int .i64 a1)] (by kernel_rfl) w ((e_ref24_Table_Remove a0 a1 w K).mpr h)

/-- (*goosepond/goosepondref24.Table).Get -/
def s_ref24_Table_Get (a0 : Option Addr) (a1 : Int) (w : World) (K : Int → Int → Int → Int → Int → Bool → World → Prop) : Prop :=
 (Al w (.cells ⟨[(Value.int .i64 0), (Value.int .i64 0), (Value.int .i64 0), (Value.int .i64 0), (Value.int .i64 0)]⟩ 68) fun a4 w3 =>
 LoopP (S := Int × Unit) (fun s5 w6 next7 =>
 ∃ a8 : Addr, a0 = some a8 ∧
 Ld .slice w6 a8 fun x9 =>
 (bif (decide (s5.1 < (x9.len : Int))) then
 ∃ a10 : Addr, a0 = some a10 ∧
 Ld .slice w6 a10 fun x11 =>
 AtIx x11 6 s5.1 fun a12 =>
 Ld (.int .i64) w6 a12 fun x13 =>
 (bif (x13 == a1) then
 ∃ a14 : Addr, a0 = some a14 ∧
 Ld .slice w6 a14 fun x15 =>
 AtIx x15 6 s5.1 fun a16 =>
 Ld (.int .i64) w6 ((a16.add 1).add 0) fun x17 =>
 Ld (.int .i64) w6 ((a16.add 1).add 1) fun x18 =>
 Ld (.int .i64) w6 ((a16.add 1).add 2) fun x19 =>
 Ld (.int .i64) w6 ((a16.add 1).add 3) fun x20 =>
 Ld (.int .i64) w6 ((a16.add 1).add 4) fun x21 =>
 StN [(Value.int .i64 x17), (Value.int .i64 x18), (Value.int .i64 x19), (Value.int .i64 x20), (Value.int .i64 x21)] w6 a4 0 fun w22 =>
 Ld (.int .i64) w22 (a4.add 0) fun y23 =>
 Ld (.int .i64) w22 (a4.add 1) fun y24 =>
 Ld (.int .i64) w22 (a4.add 2) fun y25 =>
 Ld (.int .i64) w22 (a4.add 3) fun y26 =>
 Ld (.int .i64) w22 (a4.add 4) fun y27 =>
 K y23 y24 y25 y26 y27 true w22
 else
 next7 ((IntKind.i64.wrap (s5.1 + 1)), ()) w6)
 else
 StN [(Value.int .i64 0), (Value.int .i64 0), (Value.int .i64 0), (Value.int .i64 0), (Value.int .i64 0)] w6 a4 0 fun w28 =>
 Ld (.int .i64) w28 (a4.add 0) fun y29 =>
 Ld (.int .i64) w28 (a4.add 1) fun y30 =>
 Ld (.int .i64) w28 (a4.add 2) fun y31 =>
 Ld (.int .i64) w28 (a4.add 3) fun y32 =>
 Ld (.int .i64) w28 (a4.add 4) fun y33 =>
 K y29 y30 y31 y32 y33 false w28)) (0, ()) w3)
theorem e_ref24_Table_Get (a0 : Option Addr) (a1 : Int) (w : World) (K : Int → Int → Int → Int → Int → Bool → World → Prop) : den Try.prog 35 (bodyOf Try.f39) none (.seq .leaf (.seq (.seq .leaf (.blk (.loop [(6, (.int .i64))] (.seq (.seq .leaf (.cond .leaf .leaf)) (.seq (.blk (.seq .leaf (.cond (.seq .leaf .leaf) .leaf))) .leaf))))) (.seq .leaf .leaf))) (argEnv 0 [(Value.pointer a0), (Value.int .i64 a1)]) [] w (retK Try.prog [.cell 4 68, .tmp 5] [.agg [(.int .i64), (.int .i64), (.int .i64), (.int .i64), (.int .i64)], .one .bool] K) = s_ref24_Table_Get a0 a1 w K := by kernel_rfl
theorem ok_ref24_Table_Get {a0 a1 w K} (h : s_ref24_Table_Get a0 a1 w K) : c_ref24_Table_Get a0 a1 w K :=
  fn_sound pok Try.func39 (fn := Try.f39) (c := bodyOf Try.f39) (nt := 35) (by kernel_rfl) (by kernel_rfl) (rs := [.cell 4 68, .tmp 5]) (by kernel_rfl) [.agg [(.int .i64), (.int .i64), (.int .i64), (.int .i64), (.int .i64)], .one .bool] K (.seq .leaf (.seq (.seq .leaf (.blk (.loop [(6, (.int .i64))] (.seq (.seq .leaf (.cond .leaf .leaf)) (.seq (.blk (.seq .leaf (.cond (.seq .leaf .leaf) .leaf))) .leaf))))) (.seq .leaf .leaf))) [(Value.pointer a0), (Value.int .i64 a1)] (by kernel_rfl) w ((e_ref24_Table_Get a0 a1 w K).mpr h)

/-- (*goosepond/goosepondref24.Table).Find -/
def s_ref24_Table_Find (a0 : Option Addr) (a1 : Int) (a2_0 : Int) (a2_1 : Int) (w : World) (K : Int → Bool → World → Prop) : Prop :=
 (Al w (.cells ⟨[(Value.int .i64 a2_0), (Value.int .i64 a2_1)]⟩ 66) fun a5 w4 =>
 LoopP (S := Int × Unit) (fun s6 w7 next8 =>
 ∃ a9 : Addr, a0 = some a9 ∧
 Ld .slice w7 a9 fun x10 =>
 (bif (decide (s6.1 < (x10.len : Int))) then
 let J11 : Bool → World → Prop := fun j12 w13 =>
 ((bif j12 then
 ∃ a14 : Addr, a0 = some a14 ∧
 Ld .slice w13 a14 fun x15 =>
 AtIx x15 6 s6.1 fun a16 =>
 Ld (.int .i64) w13 a16 fun x17 =>
 K x17 true w13
 else
 next8 ((IntKind.i64.wrap (s6.1 + 1)), ()) w13))
 ∃ a18 : Addr, a0 = some a18 ∧
 Ld .slice w7.drew a18 fun x19 =>
 AtIx x19 6 s6.1 fun a20 =>
 Ld (.int .i64) w7.drew (a20.add 1) fun x21 =>
 (bif (x21 == a1) then
 ∃ a22 : Addr, a0 = some a22 ∧
 Ld .slice w7.drew a22 fun x23 =>
 AtIx x23 6 s6.1 fun a24 =>
 Ld (.int .i64) w7.drew (((a24.add 1).add 3).add 0) fun x25 =>
 Ld (.int .i64) w7.drew (((a24.add 1).add 3).add 1) fun x26 =>
 Ld (.int .i64) w7.drew (a5.add 0) fun x27 =>
 Ld (.int .i64) w7.drew (a5.add 1) fun x28 =>
 J11 ((x25 == x27) && ((x26 == x28) && true)) w7.drew
 else
 J11 false w7.drew)
 else
 K 0 false w7)) (0, ()) w4)
theorem e_ref24_Table_Find (a0 : Option Addr) (a1 : Int) (a2_0 : Int) (a2_1 : Int) (w : World) (K : Int → Bool → World → Prop) : den Try.prog 50 (bodyOf Try.f40) none (.seq .leaf (.seq (.seq .leaf (.blk (.loop [(8, (.int .i64))] (.seq (.seq .leaf (.cond .leaf .leaf)) (.seq (.blk (.seq .leaf (.cond (.seq .leaf .leaf) .leaf))) .leaf))))) (.seq .leaf .leaf))) (argEnv 0 [(Value.pointer a0), (Value.int .i64 a1), (Value.agg ⟨[(Value.int .i64 a2_0), (Value.int .i64 a2_1)]⟩)]) [] w (retK Try.prog [.tmp 6, .tmp 7] [.one (.int .i64), .one .bool] K) = s_ref24_Table_Find a0 a1 a2_0 a2_1 w K := by kernel_rfl
theorem ok_ref24_Table_Find {a0 a1 a2_0 a2_1 w K} (h : s_ref24_Table_Find a0 a1 a2_0 a2_1 w K) : c_ref24_Table_Find a0 a1 a2_0 a2_1 w K :=
  fn_sound pok Try.func40 (fn := Try.f40) (c := bodyOf Try.f40) (nt := 50) (by kernel_rfl) (by kernel_rfl) (rs := [.tmp 6, .tmp 7]) (by kernel_rfl) [.one (.int .i64), .one .bool] K (.seq .leaf (.seq (.seq .leaf (.blk (.loop [(8, (.int .i64))] (.seq (.seq .leaf (.cond .leaf .leaf)) (.seq (.blk (.seq .leaf (.cond (.seq .leaf .leaf) .leaf))) .leaf))))) (.seq .leaf .leaf))) [(Value.pointer a0), (Value.int .i64 a1), (Value.agg ⟨[(Value.int .i64 a2_0), (Value.int .i64 a2_1)]⟩)] (by kernel_rfl) w ((e_ref24_Table_Find a0 a1 a2_0 a2_1 w K).mpr h)

/-- goosepond/goosepondlaw24.same -/
def s_law24_same (a0 : Option Addr) (a1 : Option Addr) (a2 : Int) (w : World) (K : Bool → World → Prop) : Prop :=
 (isOne (Value.pointer a1) = true ∧
 Al w (.cells ⟨[(Value.pointer a1)]⟩ 86) fun a5 w4 =>
 Al w4 (.cells ⟨[(Value.bool false)]⟩ 4) fun a7 w6 =>
 Al w6 (.cells ⟨[(Value.int .i64 0)]⟩ 3) fun a9 w8 =>
 St w8 a9 (Value.int .i64 0) fun w10 =>
 c_session_Table_All a0 w10 fun r11 w12 =>
 RngP Try.prog none [.one (.int .i64), .agg [(.int .i64), (.int .i64), (.int .i64), (.int .i64), (.int .i64)]] r11 w12 (fun l13 x14 W15 Kb16 =>
 Al W15 (.cells ⟨[(Value.int .i64 0), (Value.int .i64 0), (Value.int .i64 0), (Value.int .i64 0), (Value.int .i64 0)]⟩ 68) fun a18 w17 =>
 StN [(Value.int .i64 x14.2.1.1), (Value.int .i64 x14.2.1.2.1), (Value.int .i64 x14.2.1.2.2.1), (Value.int .i64 x14.2.1.2.2.2.1), (Value.int .i64 x14.2.1.2.2.2.2.1)] w17 a18 0 fun w19 =>
 w19.heap[l13]? = W15.heap[l13]? ∧
 let J20 : Bool → World → Prop := fun j21 w22 =>
 ((bif j21 then
 St w22 a7 (Value.bool false) fun w23 =>
 Kb16 .ret w23
 else
 Ld (.int .i64) w22 a9 fun x24 =>
 St w22 a9 (Value.int .i64 (IntKind.i64.wrap (x24 + 1))) fun w25 =>
 Kb16 .normal w25))
 Ld (.int .i64) (busyW w19 l13).drew a9 fun x26 =>
 Ld .ptr (busyW w19 l13).drew a5 fun x27 =>
 ∃ a28 : Addr, x27 = some a28 ∧
 Ld .slice (busyW w19 l13).drew a28 fun x29 =>
 (bif (decide (x26 ≥ (x29.len : Int))) then
 J20 true (busyW w19 l13).drew
 else
 Ld .ptr (busyW w19 l13).drew a5 fun x30 =>
 ∃ a31 : Addr, x30 = some a31 ∧
 Ld .slice (busyW w19 l13).drew a31 fun x32 =>
 Ld (.int .i64) (busyW w19 l13).drew a9 fun x33 =>
 AtIx x32 6 x33 fun a34 =>
 Ld (.int .i64) (busyW w19 l13).drew a34 fun x35 =>
 (bif (x35 != x14.1) then
 J20 true (busyW w19 l13).drew
 else
 Ld .ptr (busyW w19 l13).drew a5 fun x36 =>
 ∃ a37 : Addr, x36 = some a37 ∧
 Ld .slice (busyW w19 l13).drew a37 fun x38 =>
 Ld (.int .i64) (busyW w19 l13).drew a9 fun x39 =>
 AtIx x38 6 x39 fun a40 =>
 Ld (.int .i64) (busyW w19 l13).drew ((a40.add 1).add 0) fun x41 =>
 Ld (.int .i64) (busyW w19 l13).drew ((a40.add 1).add 1) fun x42 =>
 Ld (.int .i64) (busyW w19 l13).drew ((a40.add 1).add 2) fun x43 =>
 Ld (.int .i64) (busyW w19 l13).drew ((a40.add 1).add 3) fun x44 =>
 Ld (.int .i64) (busyW w19 l13).drew ((a40.add 1).add 4) fun x45 =>
 Ld (.int .i64) (busyW w19 l13).drew (a18.add 0) fun x46 =>
 Ld (.int .i64) (busyW w19 l13).drew (a18.add 1) fun x47 =>
 Ld (.int .i64) (busyW w19 l13).drew (a18.add 2) fun x48 =>
 Ld (.int .i64) (busyW w19 l13).drew (a18.add 3) fun x49 =>
 Ld (.int .i64) (busyW w19 l13).drew (a18.add 4) fun x50 =>
 J20 (!((x41 == x46) && ((x42 == x47) && ((x43 == x48) && (((x44 == x49) && ((x45 == x50) && true)) && true))))) (busyW w19 l13).drew)))
 (fun w51 =>
 Ld .ptr w51 a5 fun x52 =>
 c_ref24_Table_Of x52 a2 w51 fun r53 w54 =>
 Al w54 (.cells ⟨[(Value.slice none 0 0)]⟩ 119) fun a56 w55 =>
 St w55 a56 (Value.slice r53.a r53.len r53.cap) fun w57 =>
 Al w57 (.cells ⟨[(Value.int .i64 0)]⟩ 3) fun a59 w58 =>
 St w58 a59 (Value.int .i64 0) fun w60 =>
 c_session_Table_Of a0 a2 w60 fun r61 w62 =>
 RngP Try.prog none [.one (.int .i64), .agg [(.int .i64), (.int .i64), (.int .i64), (.int .i64), (.int .i64)]] r61 w62 (fun l63 x64 W65 Kb66 =>
 Al W65 (.cells ⟨[(Value.int .i64 0), (Value.int .i64 0), (Value.int .i64 0), (Value.int .i64 0), (Value.int .i64 0)]⟩ 68) fun a68 w67 =>
 StN [(Value.int .i64 x64.2.1.1), (Value.int .i64 x64.2.1.2.1), (Value.int .i64 x64.2.1.2.2.1), (Value.int .i64 x64.2.1.2.2.2.1), (Value.int .i64 x64.2.1.2.2.2.2.1)] w67 a68 0 fun w69 =>
 w69.heap[l63]? = W65.heap[l63]? ∧
 let J70 : Bool → World → Prop := fun j71 w72 =>
 ((bif j71 then
 St w72 a7 (Value.bool false) fun w73 =>
 Kb66 .ret w73
 else
 Ld (.int .i64) w72 a59 fun x74 =>
 St w72 a59 (Value.int .i64 (IntKind.i64.wrap (x74 + 1))) fun w75 =>
 Kb66 .normal w75))
 Ld (.int .i64) (busyW w69 l63).drew a59 fun x76 =>
 Ld .slice (busyW w69 l63).drew a56 fun x77 =>
 (bif (decide (x76 ≥ (x77.len : Int))) then
 J70 true (busyW w69 l63).drew
 else
 Ld .slice (busyW w69 l63).drew a56 fun x78 =>
 Ld (.int .i64) (busyW w69 l63).drew a59 fun x79 =>
 AtIx x78 6 x79 fun a80 =>
 Ld (.int .i64) (busyW w69 l63).drew a80 fun x81 =>
 (bif (x81 != x64.1) then
 J70 true (busyW w69 l63).drew
 else
 Ld .slice (busyW w69 l63).drew a56 fun x82 =>
 Ld (.int .i64) (busyW w69 l63).drew a59 fun x83 =>
 AtIx x82 6 x83 fun a84 =>
 Ld (.int .i64) (busyW w69 l63).drew ((a84.add 1).add 0) fun x85 =>
 Ld (.int .i64) (busyW w69 l63).drew ((a84.add 1).add 1) fun x86 =>
 Ld (.int .i64) (busyW w69 l63).drew ((a84.add 1).add 2) fun x87 =>
 Ld (.int .i64) (busyW w69 l63).drew ((a84.add 1).add 3) fun x88 =>
 Ld (.int .i64) (busyW w69 l63).drew ((a84.add 1).add 4) fun x89 =>
 Ld (.int .i64) (busyW w69 l63).drew (a68.add 0) fun x90 =>
 Ld (.int .i64) (busyW w69 l63).drew (a68.add 1) fun x91 =>
 Ld (.int .i64) (busyW w69 l63).drew (a68.add 2) fun x92 =>
 Ld (.int .i64) (busyW w69 l63).drew (a68.add 3) fun x93 =>
 Ld (.int .i64) (busyW w69 l63).drew (a68.add 4) fun x94 =>
 J70 (!((x85 == x90) && ((x86 == x91) && ((x87 == x92) && (((x88 == x93) && ((x89 == x94) && true)) && true))))) (busyW w69 l63).drew)))
 (fun w95 =>
 let J96 : World → Prop := fun w97 =>
 (w97.heap[w62.heap.size]? = some (.deferred (some [])) ∧
 (w97.putObj w62.heap.size (.deferred none)).heap[w12.heap.size]? = some (.deferred (some [])) ∧
 Ld .bool ((w97.putObj w62.heap.size (.deferred none)).putObj w12.heap.size (.deferred none)) a7 fun y98 =>
 K y98 ((w97.putObj w62.heap.size (.deferred none)).putObj w12.heap.size (.deferred none)))
 Ld (.int .i64) w95.drew a9 fun x99 =>
 Ld .ptr w95.drew a5 fun x100 =>
 ∃ a101 : Addr, x100 = some a101 ∧
 Ld .slice w95.drew a101 fun x102 =>
 (bif (x99 == (x102.len : Int)) then
 Ld (.int .i64) w95.drew a59 fun x103 =>
 Ld .slice w95.drew a56 fun x104 =>
 (bif (x103 == (x104.len : Int)) then
 Ld (.int .i64) w95.drew a9 fun x105 =>
 c_session_Table_Len a0 w95.drew fun r106 w107 =>
 w107.cell? a9 = some (Value.int .i64 x105) ∧
 St w107 a7 (Value.bool (r106 == x105)) fun w108 =>
 J96 w108
 else
 St w95.drew a7 (Value.bool false) fun w109 =>
 J96 w109)
 else
 St w95.drew a7 (Value.bool false) fun w110 =>
 J96 w110))
 (fun w111 =>
 w111.heap[w62.heap.size]? = some (.deferred (some [])) ∧
 (w111.putObj w62.heap.size (.deferred none)).heap[w12.heap.size]? = some (.deferred (some [])) ∧
 Ld .bool ((w111.putObj w62.heap.size (.deferred none)).putObj w12.heap.size (.deferred none)) a7 fun y112 =>
 K y112 ((w111.putObj w62.heap.size (.deferred none)).putObj w12.heap.size (.deferred none)))
 [])
 (fun w113 =>
 w113.heap[w12.heap.size]? = some (.deferred (some [])) ∧
 Ld .bool (w113.putObj w12.heap.size (.deferred none)) a7 fun y114 =>
 K y114 (w113.putObj w12.heap.size (.deferred none)))
 [])
theorem e_law24_same (a0 : Option Addr) (a1 : Option Addr) (a2 : Int) (w : World) (K : Bool → World → Prop) : den Try.prog 102 (bodyOf Try.f41) none (.seq .leaf (.seq .leaf (.seq (.seq .leaf (.blk (.rng [.one (.int .i64), .agg [(.int .i64), (.int .i64), (.int .i64), (.int .i64), (.int .i64)]] (.seq .leaf .leaf) (.blk (.seq (.seq .leaf (.cond (.seq .leaf .leaf) .leaf)) .leaf))))) (.seq .leaf (.seq .leaf (.seq (.seq .leaf (.blk (.rng [.one (.int .i64), .agg [(.int .i64), (.int .i64), (.int .i64), (.int .i64), (.int .i64)]] (.seq .leaf .leaf) (.blk (.seq (.seq .leaf (.cond (.seq .leaf .leaf) .leaf)) .leaf))))) (.seq .leaf .leaf))))))) (argEnv 0 [(Value.pointer a0), (Value.pointer a1), (Value.int .i64 a2)]) [] w (retK Try.prog [.cell 6 4] [.one .bool] K) = s_law24_same a0 a1 a2 w K := by kernel_rfl
theorem ok_law24_same {a0 a1 a2 w K} (h : s_law24_same a0 a1 a2 w K) : c_law24_same a0 a1 a2 w K :=
  fn_sound pok Try.func41 (fn := Try.f41) (c := bodyOf Try.f41) (nt := 102) (by kernel_rfl) (by kernel_rfl) (rs := [.cell 6 4]) (by kernel_rfl) [.one .bool] K (.seq .leaf (.seq .leaf (.seq (.seq .leaf (.blk (.rng [.one (.int .i64), .agg [(.int .i64), (.int .i64), (.int .i64), (.int .i64), (.int .i64)]] (.seq .leaf .leaf) (.blk (.seq (.seq .leaf (.cond (.seq .leaf .leaf) .leaf)) .leaf))))) (.seq .leaf (.seq .leaf (.seq (.seq .leaf (.blk (.rng [.one (.int .i64), .agg [(.int .i64), (.int .i64), (.int .i64), (.int .i64), (.int .i64)]] (.seq .leaf .leaf) (.blk (.seq (.seq .leaf (.cond (.seq .leaf .leaf) .leaf)) .leaf))))) (.seq .leaf .leaf))))))) [(Value.pointer a0), (Value.pointer a1), (Value.int .i64 a2)] (by kernel_rfl) w ((e_law24_same a0 a1 a2 w K).mpr h)

/-- goosepond/hash.New -/
def s_hash_New (a0 : Int) (w : World) (K : (Option Addr) → Int → World → Prop) : Prop :=
 (let J2 : Bool → Prop := fun j3 =>
 ((bif j3 then
 K none 1 w
 else
 Al w (.cells ⟨[(Value.slice none 0 0), (Value.int .i64 0), (Value.int .i64 a0), (Value.bool true)]⟩ 127) fun a5 w4 =>
 K (some a5) 0 w4))
 (bif (decide (a0 < 0)) then
 J2 true
 else
 J2 (decide (a0 > 65536))))
theorem e_hash_New (a0 : Int) (w : World) (K : (Option Addr) → Int → World → Prop) : den Try.prog 13 (bodyOf Try.f42) none (.seq .leaf (.seq (.seq .leaf (.cond (.seq .leaf .leaf) .leaf)) (.seq .leaf .leaf))) (argEnv 0 [(Value.int .i64 a0)]) [] w (retK Try.prog [.tmp 2, .tmp 3] [.one .ptr, .one (.int .i64)] K) = s_hash_New a0 w K := by kernel_rfl
theorem ok_hash_New {a0 w K} (h : s_hash_New a0 w K) : c_hash_New a0 w K :=
  fn_sound pok Try.func42 (fn := Try.f42) (c := bodyOf Try.f42) (nt := 13) (by kernel_rfl) (by kernel_rfl) (rs := [.tmp 2, .tmp 3]) (by kernel_rfl) [.one .ptr, .one (.int .i64)] K (.seq .leaf (.seq (.seq .leaf (.cond (.seq .leaf .leaf) .leaf)) (.seq .leaf .leaf))) [(Value.int .i64 a0)] (by kernel_rfl) w ((e_hash_New a0 w K).mpr h)

/-- (*goosepond/hash.Table).Put -/
def s_hash_Table_Put (a0 : Option Addr) (a1 : ByteArray) (a2 : Int) (w : World) (K : Int → World → Prop) : Prop :=
 (c_hash_Table_ready a0 w fun r4 w5 =>
 (bif (!r4) then
 K 2 w5
 else
 c_hash_Table_find a0 a1 w5 fun r6 r7 w8 =>
 (bif r7 then
 ∃ a9 : Addr, a0 = some a9 ∧
 Ld .slice w8 a9 fun x10 =>
 AtIx x10 3 r6 fun a11 =>
 St w8 (a11.add 1) (Value.int .i64 a2) fun w12 =>
 K 0 w12
 else
 ∃ a13 : Addr, a0 = some a13 ∧
 Ld (.int .i64) w8.drew (a13.add 1) fun x14 =>
 ∃ a15 : Addr, a0 = some a15 ∧
 Ld (.int .i64) w8.drew (a15.add 2) fun x16 =>
 (bif (decide (x14 ≥ x16)) then
 K 7 w8.drew
 else
 c_hash_Table_grow a0 w8.drew fun w17 =>
 c_hash_Table_find a0 a1 w17 fun r18 r19 w20 =>
 ∃ a21 : Addr, a0 = some a21 ∧
 Ld .slice w20 a21 fun x22 =>
 AtIx x22 3 r18 fun a23 =>
 StN [(Value.string a1), (Value.int .i64 a2), (Value.bool true)] w20 a23 0 fun w24 =>
 ∃ a25 : Addr, a0 = some a25 ∧
 Ld (.int .i64) w24 (a25.add 1) fun x26 =>
 ∃ a27 : Addr, a0 = some a27 ∧
 St w24 (a27.add 1) (Value.int .i64 (IntKind.i64.wrap (x26 + 1))) fun w28 =>
 K 0 w28))))
theorem e_hash_Table_Put (a0 : Option Addr) (a1 : ByteArray) (a2 : Int) (w : World) (K : Int → World → Prop) : den Try.prog 60 (bodyOf Try.f45) none (.seq .leaf (.seq (.seq .leaf (.cond (.seq .leaf .leaf) .leaf)) (.seq .leaf (.seq (.seq .leaf (.cond (.seq .leaf (.seq .leaf .leaf)) .leaf)) (.seq (.seq .leaf (.cond (.seq .leaf .leaf) .leaf)) (.seq .leaf (.seq .leaf (.seq .leaf (.seq .leaf (.seq .leaf .leaf)))))))))) (argEnv 0 [(Value.pointer a0), (Value.string a1), (Value.int .i64 a2)]) [] w (retK Try.prog [.tmp 6] [.one (.int .i64)] K) = s_hash_Table_Put a0 a1 a2 w K := by kernel_rfl
theorem ok_hash_Table_Put {a0 a1 a2 w K} (h : s_hash_Table_Put a0 a1 a2 w K) : c_hash_Table_Put a0 a1 a2 w K :=
  fn_sound pok Try.func45 (fn := Try.f45) (c := bodyOf Try.f45) (nt := 60) (by kernel_rfl) (by kernel_rfl) (rs := [.tmp 6]) (by kernel_rfl) [.one (.int .i64)] K (.seq .leaf (.seq (.seq .leaf (.cond (.seq .leaf .leaf) .leaf)) (.seq .leaf (.seq (.seq .leaf (.cond (.seq .leaf (.seq .leaf .leaf)) .leaf)) (.seq (.seq .leaf (.cond (.seq .leaf .leaf) .leaf)) (.seq .leaf (.seq .leaf (.seq .leaf (.seq .leaf (.seq .leaf .leaf)))))))))) [(Value.pointer a0), (Value.string a1), (Value.int .i64 a2)] (by kernel_rfl) w ((e_hash_Table_Put a0 a1 a2 w K).mpr h)

/-- (*goosepond/hash.Table).Delete -/
def s_hash_Table_Delete (a0 : Option Addr) (a1 : ByteArray) (w : World) (K : Bool → World → Prop) : Prop :=
 (isOne (Value.pointer a0) = true ∧
 Al w (.cells ⟨[(Value.pointer a0)]⟩ 57) fun a4 w3 =>
 Ld .ptr w3 a4 fun x5 =>
 c_hash_Table_ready x5 w3 fun r6 w7 =>
 (bif (!r6) then
 K false w7
 else
 Ld .ptr w7 a4 fun x8 =>
 c_hash_Table_find x8 a1 w7 fun r9 r10 w11 =>
 (bif (!r10) then
 K false w11
 else
 Ld .ptr w11 a4 fun x12 =>
 ∃ a13 : Addr, x12 = some a13 ∧
 Ld .slice w11 a13 fun x14 =>
 AtIx x14 3 r9 fun a15 =>
 StN [(Value.string (bs [])), (Value.int .i64 0), (Value.bool false)] w11 a15 0 fun w16 =>
 Ld .ptr w16 a4 fun x17 =>
 ∃ a18 : Addr, x17 = some a18 ∧
 Ld (.int .i64) w16 (a18.add 1) fun x19 =>
 ∃ a20 : Addr, x17 = some a20 ∧
 St w16 (a20.add 1) (Value.int .i64 (IntKind.i64.wrap (x19 - 1))) fun w21 =>
 let J22 : List Nat → World → Prop := fun d23 w24 =>
 (CloseP d23 w24 fun w25 =>
 K true w25)
 Ld .ptr w21.drew a4 fun x26 =>
 Ld .ptr w21.drew a4 fun x27 =>
 ∃ a28 : Addr, x27 = some a28 ∧
 Ld .slice w21.drew a28 fun x29 =>
 (x29.len : Int) ≠ 0 ∧
 c_hash_Table_walk x26 (Int.tmod (IntKind.i64.wrap (r9 + 1)) (x29.len : Int)) w21.drew fun r30 w31 =>
 RngP Try.prog none [.one (.int .i64)] r30 w31 (fun l32 x33 W34 Kb35 =>
 W34.heap[l32]? = W34.heap[l32]? ∧
 Ld .ptr (busyW W34 l32) a4 fun x36 =>
 ∃ a37 : Addr, x36 = some a37 ∧
 Ld .slice (busyW W34 l32) a37 fun x38 =>
 AtIx x38 3 x33.1 fun a39 =>
 Ld .str (busyW W34 l32) (a39.add 0) fun x40 =>
 Ld (.int .i64) (busyW W34 l32) (a39.add 1) fun x41 =>
 Ld .bool (busyW W34 l32) (a39.add 2) fun x42 =>
 Al (busyW W34 l32) (.cells ⟨[(Value.string (bs [])), (Value.int .i64 0), (Value.bool false)]⟩ 129) fun a44 w43 =>
 StN [(Value.string x40), (Value.int .i64 x41), (Value.bool x42)] w43 a44 0 fun w45 =>
 Ld .bool w45 (a44.add 2) fun x46 =>
 (bif (!x46) then
 Kb35 (.exit 0) w45
 else
 Ld .ptr w45 a4 fun x47 =>
 ∃ a48 : Addr, x47 = some a48 ∧
 Ld .slice w45 a48 fun x49 =>
 AtIx x49 3 x33.1 fun a50 =>
 StN [(Value.string (bs [])), (Value.int .i64 0), (Value.bool false)] w45 a50 0 fun w51 =>
 Ld .ptr w51 a4 fun x52 =>
 Ld .str w51 a44 fun x53 =>
 c_hash_Table_find x52 x53 w51 fun r54 r55 w56 =>
 Ld .ptr w56.drew a4 fun x57 =>
 ∃ a58 : Addr, x57 = some a58 ∧
 Ld .slice w56.drew a58 fun x59 =>
 Ld .str w56.drew (a44.add 0) fun x60 =>
 Ld (.int .i64) w56.drew (a44.add 1) fun x61 =>
 Ld .bool w56.drew (a44.add 2) fun x62 =>
 AtIx x59 3 r54 fun a63 =>
 StN [(Value.string x60), (Value.int .i64 x61), (Value.bool x62)] w56.drew a63 0 fun w64 =>
 Kb35 .normal w64))
 (fun w66 =>
 J22 (w31.heap.size :: []) w66)
 (fun w67 =>
 w67.heap[w31.heap.size]? = some (.deferred (some [])) ∧
 K false (w67.putObj w31.heap.size (.deferred none)))
 [(0, (fun w65 =>
 J22 (w31.heap.size :: []) w65))])))
theorem e_hash_Table_Delete (a0 : Option Addr) (a1 : ByteArray) (w : World) (K : Bool → World → Prop) : den Try.prog 78 (bodyOf Try.f49) none (.seq .leaf (.seq (.seq .leaf (.cond (.seq .leaf .leaf) .leaf)) (.seq .leaf (.seq (.seq .leaf (.cond (.seq .leaf .leaf) .leaf)) (.seq .leaf (.seq .leaf (.seq .leaf (.seq (.seq .leaf (.blk (.rng [.one (.int .i64)] .leaf (.blk (.seq .leaf (.seq (.seq .leaf (.cond .leaf .leaf)) (.seq .leaf (.seq .leaf .leaf)))))))) (.seq .leaf .leaf))))))))) (argEnv 0 [(Value.pointer a0), (Value.string a1)]) [] w (retK Try.prog [.tmp 4] [.one .bool] K) = s_hash_Table_Delete a0 a1 w K := by kernel_rfl
theorem ok_hash_Table_Delete {a0 a1 w K} (h : s_hash_Table_Delete a0 a1 w K) : c_hash_Table_Delete a0 a1 w K :=
  fn_sound pok Try.func49 (fn := Try.f49) (c := bodyOf Try.f49) (nt := 78) (by kernel_rfl) (by kernel_rfl) (rs := [.tmp 4]) (by kernel_rfl) [.one .bool] K (.seq .leaf (.seq (.seq .leaf (.cond (.seq .leaf .leaf) .leaf)) (.seq .leaf (.seq (.seq .leaf (.cond (.seq .leaf .leaf) .leaf)) (.seq .leaf (.seq .leaf (.seq .leaf (.seq (.seq .leaf (.blk (.rng [.one (.int .i64)] .leaf (.blk (.seq .leaf (.seq (.seq .leaf (.cond .leaf .leaf)) (.seq .leaf (.seq .leaf .leaf)))))))) (.seq .leaf .leaf))))))))) [(Value.pointer a0), (Value.string a1)] (by kernel_rfl) w ((e_hash_Table_Delete a0 a1 w K).mpr h)

/-- (*goosepond/hash.Table).Get -/
def s_hash_Table_Get (a0 : Option Addr) (a1 : ByteArray) (w : World) (K : Int → Bool → World → Prop) : Prop :=
 (c_hash_Table_ready a0 w fun r3 w4 =>
 (bif (!r3) then
 K 0 false w4
 else
 c_hash_Table_find a0 a1 w4 fun r5 r6 w7 =>
 (bif (!r6) then
 K 0 false w7
 else
 ∃ a8 : Addr, a0 = some a8 ∧
 Ld .slice w7 a8 fun x9 =>
 AtIx x9 3 r5 fun a10 =>
 Ld (.int .i64) w7 (a10.add 1) fun x11 =>
 K x11 true w7)))
theorem e_hash_Table_Get (a0 : Option Addr) (a1 : ByteArray) (w : World) (K : Int → Bool → World → Prop) : den Try.prog 27 (bodyOf Try.f51) none (.seq .leaf (.seq (.seq .leaf (.cond (.seq .leaf .leaf) .leaf)) (.seq .leaf (.seq (.seq .leaf (.cond (.seq .leaf .leaf) .leaf)) (.seq .leaf .leaf))))) (argEnv 0 [(Value.pointer a0), (Value.string a1)]) [] w (retK Try.prog [.tmp 4, .tmp 5] [.one (.int .i64), .one .bool] K) = s_hash_Table_Get a0 a1 w K := by kernel_rfl
theorem ok_hash_Table_Get {a0 a1 w K} (h : s_hash_Table_Get a0 a1 w K) : c_hash_Table_Get a0 a1 w K :=
  fn_sound pok Try.func51 (fn := Try.f51) (c := bodyOf Try.f51) (nt := 27) (by kernel_rfl) (by kernel_rfl) (rs := [.tmp 4, .tmp 5]) (by kernel_rfl) [.one (.int .i64), .one .bool] K (.seq .leaf (.seq (.seq .leaf (.cond (.seq .leaf .leaf) .leaf)) (.seq .leaf (.seq (.seq .leaf (.cond (.seq .leaf .leaf) .leaf)) (.seq .leaf .leaf))))) [(Value.pointer a0), (Value.string a1)] (by kernel_rfl) w ((e_hash_Table_Get a0 a1 w K).mpr h)

/-- (*goosepond/session.Table).ready -/
def s_session_Table_ready (a0 : Option Addr) (w : World) (K : Bool → World → Prop) : Prop :=
 (let J2 : Bool → Prop := fun j3 =>
 (K j3 w)
 (bif (!(Option.isNone a0)) then
 ∃ a4 : Addr, a0 = some a4 ∧
 Ld .ptr w (a4.add 1) fun x5 =>
 J2 (!(Option.isNone x5))
 else
 J2 false))
theorem e_session_Table_ready (a0 : Option Addr) (w : World) (K : Bool → World → Prop) : den Try.prog 12 (bodyOf Try.f52) none (.seq .leaf (.seq .leaf .leaf)) (argEnv 0 [(Value.pointer a0)]) [] w (retK Try.prog [.tmp 2] [.one .bool] K) = s_session_Table_ready a0 w K := by kernel_rfl
theorem ok_session_Table_ready {a0 w K} (h : s_session_Table_ready a0 w K) : c_session_Table_ready a0 w K :=
  fn_sound pok Try.func52 (fn := Try.f52) (c := bodyOf Try.f52) (nt := 12) (by kernel_rfl) (by kernel_rfl) (rs := [.tmp 2]) (by kernel_rfl) [.one .bool] K (.seq .leaf (.seq .leaf .leaf)) [(Value.pointer a0)] (by kernel_rfl) w ((e_session_Table_ready a0 w K).mpr h)

/-- slices.IndexFunc[[]goosepond/session.slot,goosepond/session.slot] -/
def s_slices_IndexFunc_session_slot_session_slot (a0 : SliceV) (a1 : Value) (w : World) (K : Int → World → Prop) : Prop :=
 (LoopP (S := Int × Unit) (fun s3 w4 next5 =>
 (bif (decide (s3.1 < (a0.len : Int))) then
 AtIx a0 6 s3.1 fun a6 =>
 Ld (.int .i64) w4 (a6.add 0) fun x7 =>
 Ld (.int .i64) w4 (a6.add 1) fun x8 =>
 Ld (.int .i64) w4 (a6.add 2) fun x9 =>
 Ld (.int .i64) w4 (a6.add 3) fun x10 =>
 Ld (.int .i64) w4 (a6.add 4) fun x11 =>
 Ld .bool w4 (a6.add 5) fun x12 =>
 CallV Try.prog [.one .bool] a1 [(Value.agg ⟨[(Value.int .i64 x7), (Value.int .i64 x8), (Value.int .i64 x9), (Value.int .i64 x10), (Value.int .i64 x11), (Value.bool x12)]⟩)] w4 fun r13 w14 =>
 ∃ r15 : Bool, r13 = (Value.bool r15) ∧
 (bif r15 then
 K s3.1 w14
 else
 next5 ((IntKind.i64.wrap (s3.1 + 1)), ()) w14)
 else
 K (-1) w4)) (0, ()) w)
theorem e_slices_IndexFunc_session_slot_session_slot (a0 : SliceV) (a1 : Value) (w : World) (K : Int → World → Prop) : den Try.prog 19 (bodyOf Try.f53) none (.seq .leaf (.seq (.seq .leaf (.blk (.loop [(8, (.int .i64))] (.seq .leaf (.seq (.cond .leaf .leaf) (.seq (.blk (.seq .leaf (.seq .leaf (.cond (.seq .leaf .leaf) .leaf)))) .leaf)))))) (.seq .leaf .leaf))) (argEnv 0 [(Value.slice a0.a a0.len a0.cap), a1]) [] w (retK Try.prog [.tmp 4] [.one (.int .i64)] K) = s_slices_IndexFunc_session_slot_session_slot a0 a1 w K := by kernel_rfl
theorem ok_slices_IndexFunc_session_slot_session_slot {a0 a1 w K} (h : s_slices_IndexFunc_session_slot_session_slot a0 a1 w K) : c_slices_IndexFunc_session_slot_session_slot a0 a1 w K :=
  fn_sound pok Try.func53 (fn := Try.f53) (c := bodyOf Try.f53) (nt := 19) (by kernel_rfl) (by kernel_rfl) (rs := [.tmp 4]) (by kernel_rfl) [.one (.int .i64)] K (.seq .leaf (.seq (.seq .leaf (.blk (.loop [(8, (.int .i64))] (.seq .leaf (.seq (.cond .leaf .leaf) (.seq (.blk (.seq .leaf (.seq .leaf (.cond (.seq .leaf .leaf) .leaf)))) .leaf)))))) (.seq .leaf .leaf))) [(Value.slice a0.a a0.len a0.cap), a1] (by kernel_rfl) w ((e_slices_IndexFunc_session_slot_session_slot a0 a1 w K).mpr h)

/-- (*goosepond/session.Table).Add$1 -/
def s_session_Table_Add_1 (a0_0 : Int) (a0_1 : Int) (a0_2 : Int) (a0_3 : Int) (a0_4 : Int) (a0_5 : Bool) (w : World) (K : Bool → World → Prop) : Prop :=
 (Al w (.cells ⟨[(Value.int .i64 a0_0), (Value.int .i64 a0_1), (Value.int .i64 a0_2), (Value.int .i64 a0_3), (Value.int .i64 a0_4), (Value.bool a0_5)]⟩ 109) fun a3 w2 =>
 Ld .bool w2 (a3.add 5) fun x4 =>
 K (!x4) w2)
theorem e_session_Table_Add_1 (a0_0 : Int) (a0_1 : Int) (a0_2 : Int) (a0_3 : Int) (a0_4 : Int) (a0_5 : Bool) (w : World) (K : Bool → World → Prop) : den Try.prog 6 (bodyOf Try.f54) none (.seq .leaf (.seq .leaf .leaf)) (argEnv 0 [(Value.agg ⟨[(Value.int .i64 a0_0), (Value.int .i64 a0_1), (Value.int .i64 a0_2), (Value.int .i64 a0_3), (Value.int .i64 a0_4), (Value.bool a0_5)]⟩)]) [] w (retK Try.prog [.tmp 2] [.one .bool] K) = s_session_Table_Add_1 a0_0 a0_1 a0_2 a0_3 a0_4 a0_5 w K := by kernel_rfl
theorem ok_session_Table_Add_1 {a0_0 a0_1 a0_2 a0_3 a0_4 a0_5 w K} (h : s_session_Table_Add_1 a0_0 a0_1 a0_2 a0_3 a0_4 a0_5 w K) : c_session_Table_Add_1 a0_0 a0_1 a0_2 a0_3 a0_4 a0_5 w K :=
  fn_sound pok Try.func54 (fn := Try.f54) (c := bodyOf Try.f54) (nt := 6) (by kernel_rfl) (by kernel_rfl) (rs := [.tmp 2]) (by kernel_rfl) [.one .bool] K (.seq .leaf (.seq .leaf .leaf)) [(Value.agg ⟨[(Value.int .i64 a0_0), (Value.int .i64 a0_1), (Value.int .i64 a0_2), (Value.int .i64 a0_3), (Value.int .i64 a0_4), (Value.bool a0_5)]⟩)] (by kernel_rfl) w ((e_session_Table_Add_1 a0_0 a0_1 a0_2 a0_3 a0_4 a0_5 w K).mpr h)

/-- goosepond/session.key -/
def s_session_key (a0 : Int) (a1_0 : Int) (a1_1 : Int) (w : World) (K : ByteArray → World → Prop) : Prop :=
 (Al w (.cells ⟨[(Value.int .i64 a1_0), (Value.int .i64 a1_1)]⟩ 66) fun a4 w3 =>
 Ld (.int .i64) w3 a4 fun x5 =>
 Ld (.int .i64) w3 (a4.add 1) fun x6 =>
 Al w3 (.cells ⟨[(Value.int .i64 a0), (Value.int .i64 x5), (Value.int .i64 x6)]⟩ 3) fun a8 w7 =>
 LoopP (S := SliceV × Int × Unit) (fun s9 w10 next11 =>
 (bif (decide (s9.2.1 < (3 : Int))) then
 AtIx ⟨(some a8), 3, 3⟩ 1 s9.2.1 fun a12 =>
 Ld (.int .i64) w10 a12 fun x13 =>
 0 ≤ (32 : Int) ∧
 c_be_Put s9.1 (andI .i64 (shrI .i64 x13 32) 4294967295) 4 w10 fun r14 w15 =>
 c_be_Put r14 (andI .i64 x13 4294967295) 4 w15 fun r16 w17 =>
 next11 (r16, (IntKind.i64.wrap (s9.2.1 + 1)), ()) w17
 else
 BytesStr w10 s9.1 fun b18 =>
 K b18 w10)) (⟨none, 0, 0⟩, 0, ()) w7)
theorem e_session_key (a0 : Int) (a1_0 : Int) (a1_1 : Int) (w : World) (K : ByteArray → World → Prop) : den Try.prog 30 (bodyOf Try.f55) none (.seq .leaf (.seq .leaf (.seq (.seq .leaf (.blk (.loop [(5, .slice), (15, (.int .i64))] (.seq .leaf (.seq (.cond .leaf .leaf) (.seq (.blk (.seq .leaf .leaf)) .leaf)))))) (.seq .leaf .leaf)))) (argEnv 0 [(Value.int .i64 a0), (Value.agg ⟨[(Value.int .i64 a1_0), (Value.int .i64 a1_1)]⟩)]) [] w (retK Try.prog [.tmp 4] [.one .str] K) = s_session_key a0 a1_0 a1_1 w K := by kernel_rfl
theorem ok_session_key {a0 a1_0 a1_1 w K} (h : s_session_key a0 a1_0 a1_1 w K) : c_session_key a0 a1_0 a1_1 w K :=
  fn_sound pok Try.func55 (fn := Try.f55) (c := bodyOf Try.f55) (nt := 30) (by kernel_rfl) (by kernel_rfl) (rs := [.tmp 4]) (by kernel_rfl) [.one .str] K (.seq .leaf (.seq .leaf (.seq (.seq .leaf (.blk (.loop [(5, .slice), (15, (.int .i64))] (.seq .leaf (.seq (.cond .leaf .leaf) (.seq (.blk (.seq .leaf .leaf)) .leaf)))))) (.seq .leaf .leaf)))) [(Value.int .i64 a0), (Value.agg ⟨[(Value.int .i64 a1_0), (Value.int .i64 a1_1)]⟩)] (by kernel_rfl) w ((e_session_key a0 a1_0 a1_1 w K).mpr h)

/-- slices.BinarySearch[[]int,int] -/
def s_slices_BinarySearch_int_int (a0 : SliceV) (a1 : Int) (w : World) (K : Int → Bool → World → Prop) : Prop :=
 (LoopP (S := Int × Int × Unit) (fun s3 w4 next5 =>
 (bif (decide (s3.1 < s3.2.1)) then
 0 ≤ (1 : Int) ∧
 AtIx a0 1 (IntKind.i64.wrap (shrI .u64 (IntKind.u64.wrap (IntKind.i64.wrap (s3.1 + s3.2.1))) 1)) fun a6 =>
 Ld (.int .i64) w4 a6 fun x7 =>
 c_cmp_Less_int x7 a1 w4 fun r8 w9 =>
 (bif r8 then
 next5 ((IntKind.i64.wrap ((IntKind.i64.wrap (shrI .u64 (IntKind.u64.wrap (IntKind.i64.wrap (s3.1 + s3.2.1))) 1)) + 1)), s3.2.1, ()) w9
 else
 next5 (s3.1, (IntKind.i64.wrap (shrI .u64 (IntKind.u64.wrap (IntKind.i64.wrap (s3.1 + s3.2.1))) 1)), ()) w9)
 else
 let J10 : Int → Bool → World → Prop := fun j11 j12 w13 =>
 (K j11 j12 w13)
 (bif (decide (s3.1 < (a0.len : Int))) then
 AtIx a0 1 s3.1 fun a14 =>
 Ld (.int .i64) w4 a14 fun x15 =>
 (bif (x15 == a1) then
 J10 s3.1 true w4
 else
 AtIx a0 1 s3.1 fun a16 =>
 Ld (.int .i64) w4 a16 fun x17 =>
 c_slices_isNaN_int x17 w4 fun r18 w19 =>
 (bif r18 then
 c_slices_isNaN_int a1 w19 fun r20 w21 =>
 J10 s3.1 r20 w21
 else
 J10 s3.1 false w19))
 else
 J10 s3.1 false w4))) (0, (a0.len : Int), ()) w)
theorem e_slices_BinarySearch_int_int (a0 : SliceV) (a1 : Int) (w : World) (K : Int → Bool → World → Prop) : den Try.prog 54 (bodyOf Try.f56) none (.seq .leaf (.seq .leaf (.seq .leaf (.seq (.blk (.loop [(7, (.int .i64)), (8, (.int .i64))] (.seq (.seq .leaf (.cond .leaf .leaf)) (.blk (.seq .leaf (.seq .leaf (.cond .leaf .leaf))))))) (.seq .leaf .leaf))))) (argEnv 0 [(Value.slice a0.a a0.len a0.cap), (Value.int .i64 a1)]) [] w (retK Try.prog [.tmp 4, .tmp 5] [.one (.int .i64), .one .bool] K) = s_slices_BinarySearch_int_int a0 a1 w K := by kernel_rfl
theorem ok_slices_BinarySearch_int_int {a0 a1 w K} (h : s_slices_BinarySearch_int_int a0 a1 w K) : c_slices_BinarySearch_int_int a0 a1 w K :=
  fn_sound pok Try.func56 (fn := Try.f56) (c := bodyOf Try.f56) (nt := 54) (by kernel_rfl) (by kernel_rfl) (rs := [.tmp 4, .tmp 5]) (by kernel_rfl) [.one (.int .i64), .one .bool] K (.seq .leaf (.seq .leaf (.seq .leaf (.seq (.blk (.loop [(7, (.int .i64)), (8, (.int .i64))] (.seq (.seq .leaf (.cond .leaf .leaf)) (.blk (.seq .leaf (.seq .leaf (.cond .leaf .leaf))))))) (.seq .leaf .leaf))))) [(Value.slice a0.a a0.len a0.cap), (Value.int .i64 a1)] (by kernel_rfl) w ((e_slices_BinarySearch_int_int a0 a1 w K).mpr h)

/-- slices.Insert[[]int,int] -/
def s_slices_Insert_int_int (a0 : SliceV) (a1 : Int) (a2 : SliceV) (w : World) (K : SliceV → World → Prop) : Prop :=
 (SubSl a0 1 a1 (a0.len : Int) fun s4 =>
 (bif ((a2.len : Int) == 0) then
 K a0 w
 else
 (bif (a1 == (a0.len : Int)) then
 AppSl 3 1 8 [(Value.int .i64 0)] a0 a2 w fun s5 w6 =>
 K s5 w6
 else
 (bif (decide ((IntKind.i64.wrap ((a0.len : Int) + (a2.len : Int))) > (a0.cap : Int))) then
 SubSl a0 1 0 a1 fun s7 =>
 AppMk 3 1 8 [(Value.int .i64 0)] s7 (IntKind.i64.wrap ((IntKind.i64.wrap ((a0.len : Int) + (a2.len : Int))) - a1)) w fun s8 w9 =>
 SubSl s8 1 a1 (s8.len : Int) fun s10 =>
 CopySl 1 s10 a2 w9 fun n11 w12 =>
 SubSl s8 1 (IntKind.i64.wrap (a1 + (a2.len : Int))) (s8.len : Int) fun s13 =>
 SubSl a0 1 a1 (a0.len : Int) fun s14 =>
 CopySl 1 s13 s14 w12.drew fun n15 w16 =>
 K s8 w16
 else
 SubSl a0 1 0 (IntKind.i64.wrap ((a0.len : Int) + (a2.len : Int))) fun s17 =>
 SubSl s17 1 (IntKind.i64.wrap (a1 + (a2.len : Int))) (s17.len : Int) fun s18 =>
 ExtP Try.prog 73 [(Value.slice a2.a a2.len a2.cap), (Value.slice s18.a s18.len s18.cap)] w fun r19 w20 =>
 ∃ r21 : Bool, r19 = (Value.bool r21) ∧
 (bif (!r21) then
 SubSl s17 1 (IntKind.i64.wrap (a1 + (a2.len : Int))) (s17.len : Int) fun s22 =>
 SubSl s17 1 a1 (s17.len : Int) fun s23 =>
 CopySl 1 s22 s23 w20.drew fun n24 w25 =>
 SubSl s17 1 a1 (s17.len : Int) fun s26 =>
 CopySl 1 s26 a2 w25 fun n27 w28 =>
 K s17 w28
 else
 SubSl s17 1 (a0.len : Int) (s17.len : Int) fun s29 =>
 CopySl 1 s29 a2 w20 fun n30 w31 =>
 SubSl s17 1 a1 (s17.len : Int) fun s32 =>
 c_slices_rotateRight_int s32 (a2.len : Int) w31 fun w33 =>
 K s17 w33)))))
theorem e_slices_Insert_int_int (a0 : SliceV) (a1 : Int) (a2 : SliceV) (w : World) (K : SliceV → World → Prop) : den Try.prog 95 (bodyOf Try.f57) none (.seq .leaf (.seq .leaf (.seq .leaf (.seq (.seq .leaf (.cond (.seq .leaf .leaf) .leaf)) (.seq .leaf (.seq (.seq .leaf (.cond (.seq .leaf .leaf) .leaf)) (.seq (.seq .leaf (.cond (.seq .leaf (.seq .leaf (.seq .leaf (.seq .leaf .leaf)))) .leaf)) (.seq .leaf (.seq (.seq .leaf (.cond (.seq .leaf (.seq .leaf (.seq .leaf .leaf))) .leaf)) (.seq .leaf (.seq .leaf (.seq .leaf .leaf)))))))))))) (argEnv 0 [(Value.slice a0.a a0.len a0.cap), (Value.int .i64 a1), (Value.slice a2.a a2.len a2.cap)]) [] w (retK Try.prog [.tmp 6] [.one .slice] K) = s_slices_Insert_int_int a0 a1 a2 w K := by kernel_rfl
theorem ok_slices_Insert_int_int {a0 a1 a2 w K} (h : s_slices_Insert_int_int a0 a1 a2 w K) : c_slices_Insert_int_int a0 a1 a2 w K :=
  fn_sound pok Try.func57 (fn := Try.f57) (c := bodyOf Try.f57) (nt := 95) (by kernel_rfl) (by kernel_rfl) (rs := [.tmp 6]) (by kernel_rfl) [.one .slice] K (.seq .leaf (.seq .leaf (.seq .leaf (.seq (.seq .leaf (.cond (.seq .leaf .leaf) .leaf)) (.seq .leaf (.seq (.seq .leaf (.cond (.seq .leaf .leaf) .leaf)) (.seq (.seq .leaf (.cond (.seq .leaf (.seq .leaf (.seq .leaf (.seq .leaf .leaf)))) .leaf)) (.seq .leaf (.seq (.seq .leaf (.cond (.seq .leaf (.seq .leaf (.seq .leaf .leaf))) .leaf)) (.seq .leaf (.seq .leaf (.seq .leaf .leaf)))))))))))) [(Value.slice a0.a a0.len a0.cap), (Value.int .i64 a1), (Value.slice a2.a a2.len a2.cap)] (by kernel_rfl) w ((e_slices_Insert_int_int a0 a1 a2 w K).mpr h)

/-- (*goosepond/session.Table).has -/
def s_session_Table_has (a0 : Option Addr) (a1 : Int) (w : World) (K : Bool → World → Prop) : Prop :=
 (let J3 : Bool → World → Prop := fun j4 w5 =>
 (K j4 w5)
 c_session_Table_ready a0 w fun r6 w7 =>
 (bif r6 then
 (bif (decide (a1 ≥ 0)) then
 ∃ a8 : Addr, a0 = some a8 ∧
 Ld .slice w7 a8 fun x9 =>
 (bif (decide (a1 < (x9.len : Int))) then
 ∃ a10 : Addr, a0 = some a10 ∧
 Ld .slice w7 a10 fun x11 =>
 AtIx x11 6 a1 fun a12 =>
 Ld .bool w7 (a12.add 5) fun x13 =>
 J3 x13 w7
 else
 J3 false w7)
 else
 J3 false w7)
 else
 J3 false w7))
theorem e_session_Table_has (a0 : Option Addr) (a1 : Int) (w : World) (K : Bool → World → Prop) : den Try.prog 30 (bodyOf Try.f58) none (.seq .leaf (.seq .leaf .leaf)) (argEnv 0 [(Value.pointer a0), (Value.int .i64 a1)]) [] w (retK Try.prog [.tmp 4] [.one .bool] K) = s_session_Table_has a0 a1 w K := by kernel_rfl
theorem ok_session_Table_has {a0 a1 w K} (h : s_session_Table_has a0 a1 w K) : c_session_Table_has a0 a1 w K :=
  fn_sound pok Try.func58 (fn := Try.f58) (c := bodyOf Try.f58) (nt := 30) (by kernel_rfl) (by kernel_rfl) (rs := [.tmp 4]) (by kernel_rfl) [.one .bool] K (.seq .leaf (.seq .leaf .leaf)) [(Value.pointer a0), (Value.int .i64 a1)] (by kernel_rfl) w ((e_session_Table_has a0 a1 w K).mpr h)

/-- slices.DeleteFunc[[]int,int] -/
def s_slices_DeleteFunc_int_int (a0 : SliceV) (a1 : Value) (w : World) (K : SliceV → World → Prop) : Prop :=
 (c_slices_IndexFunc_int_int a0 a1 w fun r3 w4 =>
 (bif (r3 == (-1)) then
 K a0 w4
 else
 LoopP (S := Int × Int × Unit) (fun s5 w6 next7 =>
 (bif (decide (s5.2.1 < (a0.len : Int))) then
 let J8 : Int → World → Prop := fun j9 w10 =>
 (next7 (j9, (IntKind.i64.wrap (s5.2.1 + 1)), ()) w10)
 AtIx a0 1 s5.2.1 fun a11 =>
 Ld (.int .i64) w6 a11 fun x12 =>
 CallV Try.prog [.one .bool] a1 [(Value.int .i64 x12)] w6 fun r13 w14 =>
 ∃ r15 : Bool, r13 = (Value.bool r15) ∧
 (bif (!r15) then
 AtIx a0 1 s5.1 fun a16 =>
 St w14 a16 (Value.int .i64 x12) fun w17 =>
 J8 (IntKind.i64.wrap (s5.1 + 1)) w17
 else
 J8 s5.1 w14)
 else
 SubSl a0 1 s5.1 (a0.len : Int) fun s18 =>
 ClearSl [(Value.int .i64 0)] s18 w6 fun w19 =>
 SubSl a0 1 0 s5.1 fun s20 =>
 K s20 w19)) (r3, (IntKind.i64.wrap (r3 + 1)), ()) w4))
theorem e_slices_DeleteFunc_int_int (a0 : SliceV) (a1 : Value) (w : World) (K : SliceV → World → Prop) : den Try.prog 42 (bodyOf Try.f59) none (.seq .leaf (.seq .leaf (.seq (.seq .leaf (.cond (.seq .leaf .leaf) .leaf)) (.seq (.seq .leaf (.blk (.loop [(5, (.int .i64)), (6, (.int .i64))] (.seq (.seq .leaf (.cond .leaf .leaf)) (.seq (.blk (.seq .leaf (.seq .leaf (.cond (.seq .leaf .leaf) .leaf)))) .leaf))))) (.seq .leaf (.seq .leaf .leaf)))))) (argEnv 0 [(Value.slice a0.a a0.len a0.cap), a1]) [] w (retK Try.prog [.tmp 4] [.one .slice] K) = s_slices_DeleteFunc_int_int a0 a1 w K := by kernel_rfl
theorem ok_slices_DeleteFunc_int_int {a0 a1 w K} (h : s_slices_DeleteFunc_int_int a0 a1 w K) : c_slices_DeleteFunc_int_int a0 a1 w K :=
  fn_sound pok Try.func59 (fn := Try.f59) (c := bodyOf Try.f59) (nt := 42) (by kernel_rfl) (by kernel_rfl) (rs := [.tmp 4]) (by kernel_rfl) [.one .slice] K (.seq .leaf (.seq .leaf (.seq (.seq .leaf (.cond (.seq .leaf .leaf) .leaf)) (.seq (.seq .leaf (.blk (.loop [(5, (.int .i64)), (6, (.int .i64))] (.seq (.seq .leaf (.cond .leaf .leaf)) (.seq (.blk (.seq .leaf (.seq .leaf (.cond (.seq .leaf .leaf) .leaf)))) .leaf))))) (.seq .leaf (.seq .leaf .leaf)))))) [(Value.slice a0.a a0.len a0.cap), a1] (by kernel_rfl) w ((e_slices_DeleteFunc_int_int a0 a1 w K).mpr h)

/-- (*goosepond/session.Table).Remove$1 -/
def s_session_Table_Remove_1 (a0 : Int) (f0 : Addr) (w : World) (K : Bool → World → Prop) : Prop :=
 (Ld (.int .i64) w f0 fun x2 =>
 K (a0 == x2) w)
theorem e_session_Table_Remove_1 (a0 : Int) (f0 : Addr) (w : World) (K : Bool → World → Prop) : den Try.prog 7 (bodyOf Try.f60) none (.seq .leaf (.seq .leaf .leaf)) (argEnv 0 [(Value.int .i64 a0), (Value.pointer (some f0))]) [] w (retK Try.prog [.tmp 3] [.one .bool] K) = s_session_Table_Remove_1 a0 f0 w K := by kernel_rfl
theorem ok_session_Table_Remove_1 {a0 f0 w K} (h : s_session_Table_Remove_1 a0 f0 w K) : c_session_Table_Remove_1 a0 f0 w K :=
  fn_sound pok Try.func60 (fn := Try.f60) (c := bodyOf Try.f60) (nt := 7) (by kernel_rfl) (by kernel_rfl) (rs := [.tmp 3]) (by kernel_rfl) [.one .bool] K (.seq .leaf (.seq .leaf .leaf)) [(Value.int .i64 a0), (Value.pointer (some f0))] (by kernel_rfl) w ((e_session_Table_Remove_1 a0 f0 w K).mpr h)

/-- (*goosepond/session.Table).All$1 -/
def s_session_Table_All_1 (a0 : Value) (f0 : Addr) (w : World) (K : World → Prop) : Prop :=
 (Ld .ptr w f0 fun x2 =>
 c_session_Table_ready x2 w fun r3 w4 =>
 (bif (!r3) then
 K w4
 else
 Ld .ptr w4 f0 fun x5 =>
 ∃ a6 : Addr, x5 = some a6 ∧
 Ld .slice w4 a6 fun x7 =>
 LoopP (S := Int × Unit) (fun s8 w9 next10 =>
 (bif (decide (s8.1 < (x7.len : Int))) then
 AtIx x7 6 s8.1 fun a11 =>
 Ld (.int .i64) w9 (a11.add 0) fun x12 =>
 Ld (.int .i64) w9 (a11.add 1) fun x13 =>
 Ld (.int .i64) w9 (a11.add 2) fun x14 =>
 Ld (.int .i64) w9 (a11.add 3) fun x15 =>
 Ld (.int .i64) w9 (a11.add 4) fun x16 =>
 Ld .bool w9 (a11.add 5) fun x17 =>
 Al w9 (.cells ⟨[(Value.int .i64 0), (Value.int .i64 0), (Value.int .i64 0), (Value.int .i64 0), (Value.int .i64 0), (Value.bool false)]⟩ 109) fun a19 w18 =>
 StN [(Value.int .i64 x12), (Value.int .i64 x13), (Value.int .i64 x14), (Value.int .i64 x15), (Value.int .i64 x16), (Value.bool x17)] w18 a19 0 fun w20 =>
 let J21 : Bool → World → Prop := fun j22 w23 =>
 ((bif j22 then
 K w23
 else
 next10 ((IntKind.i64.wrap (s8.1 + 1)), ()) w23))
 Ld .bool w20 (a19.add 5) fun x24 =>
 (bif x24 then
 Ld (.int .i64) w20 (a19.add 0) fun x25 =>
 Ld (.int .i64) w20 (a19.add 1) fun x26 =>
 Ld (.int .i64) w20 (a19.add 2) fun x27 =>
 Ld (.int .i64) w20 (a19.add 3) fun x28 =>
 Ld (.int .i64) w20 (a19.add 4) fun x29 =>
 CallV Try.prog [.one .bool] a0 [(Value.int .i64 s8.1), (Value.agg ⟨[(Value.int .i64 x25), (Value.int .i64 x26), (Value.int .i64 x27), (Value.int .i64 x28), (Value.int .i64 x29)]⟩)] w20 fun r30 w31 =>
 ∃ r32 : Bool, r30 = (Value.bool r32) ∧
 J21 (!r32) w31
 else
 J21 false w20)
 else
 K w9)) (0, ()) w4))
theorem e_session_Table_All_1 (a0 : Value) (f0 : Addr) (w : World) (K : World → Prop) : den Try.prog 29 (bodyOf Try.f61) none (.seq (.seq .leaf (.cond .leaf .leaf)) (.seq .leaf (.blk (.loop [(13, (.int .i64))] (.seq .leaf (.seq (.cond .leaf .leaf) (.seq (.blk (.seq .leaf (.seq .leaf (.cond .leaf .leaf)))) .leaf))))))) (argEnv 0 [a0, (Value.pointer (some f0))]) [] w (retK Try.prog [] [] K) = s_session_Table_All_1 a0 f0 w K := by kernel_rfl
theorem ok_session_Table_All_1 {a0 f0 w K} (h : s_session_Table_All_1 a0 f0 w K) : c_session_Table_All_1 a0 f0 w K :=
  fn_sound pok Try.func61 (fn := Try.f61) (c := bodyOf Try.f61) (nt := 29) (by kernel_rfl) (by kernel_rfl) (rs := []) (by kernel_rfl) [] K (.seq (.seq .leaf (.cond .leaf .leaf)) (.seq .leaf (.blk (.loop [(13, (.int .i64))] (.seq .leaf (.seq (.cond .leaf .leaf) (.seq (.blk (.seq .leaf (.seq .leaf (.cond .leaf .leaf)))) .leaf))))))) [a0, (Value.pointer (some f0))] (by kernel_rfl) w ((e_session_Table_All_1 a0 f0 w K).mpr h)

/-- (*goosepond/session.Table).Of$1 -/
def s_session_Table_Of_1 (a0 : Value) (f0 : Addr) (f1 : Addr) (w : World) (K : World → Prop) : Prop :=
 (Ld .ptr w f0 fun x2 =>
 c_session_Table_ready x2 w fun r3 w4 =>
 (bif (!r3) then
 K w4
 else
 Ld .ptr w4.drew f0 fun x5 =>
 ∃ a6 : Addr, x5 = some a6 ∧
 Ld .map w4.drew (a6.add 2) fun x7 =>
 Ld (.int .i64) w4.drew f1 fun x8 =>
 MapGet Try.prog 3 .slice x7 (Value.int .i64 x8) (Value.slice none 0 0) w4.drew fun x9 =>
 c_slices_Clone_int_int x9 w4.drew fun r10 w11 =>
 LoopP (S := Int × Unit) (fun s12 w13 next14 =>
 (bif (decide (s12.1 < (r10.len : Int))) then
 AtIx r10 1 s12.1 fun a15 =>
 Ld (.int .i64) w13 a15 fun x16 =>
 Ld .ptr w13 f0 fun x17 =>
 ∃ a18 : Addr, x17 = some a18 ∧
 Ld .slice w13 a18 fun x19 =>
 AtIx x19 6 x16 fun a20 =>
 Ld (.int .i64) w13 (a20.add 0) fun x21 =>
 Ld (.int .i64) w13 (a20.add 1) fun x22 =>
 Ld (.int .i64) w13 (a20.add 2) fun x23 =>
 Ld (.int .i64) w13 (a20.add 3) fun x24 =>
 Ld (.int .i64) w13 (a20.add 4) fun x25 =>
 CallV Try.prog [.one .bool] a0 [(Value.int .i64 x16), (Value.agg ⟨[(Value.int .i64 x21), (Value.int .i64 x22), (Value.int .i64 x23), (Value.int .i64 x24), (Value.int .i64 x25)]⟩)] w13 fun r26 w27 =>
 ∃ r28 : Bool, r26 = (Value.bool r28) ∧
 (bif (!r28) then
 K w27
 else
 next14 ((IntKind.i64.wrap (s12.1 + 1)), ()) w27)
 else
 K w13)) (0, ()) w11))
theorem e_session_Table_Of_1 (a0 : Value) (f0 : Addr) (f1 : Addr) (w : World) (K : World → Prop) : den Try.prog 34 (bodyOf Try.f62) none (.seq (.seq .leaf (.cond .leaf .leaf)) (.seq .leaf (.blk (.loop [(17, (.int .i64))] (.seq .leaf (.seq (.cond .leaf .leaf) (.seq (.blk (.seq .leaf (.seq .leaf (.cond .leaf .leaf)))) .leaf))))))) (argEnv 0 [a0, (Value.pointer (some f0)), (Value.pointer (some f1))]) [] w (retK Try.prog [] [] K) = s_session_Table_Of_1 a0 f0 f1 w K := by kernel_rfl
theorem ok_session_Table_Of_1 {a0 f0 f1 w K} (h : s_session_Table_Of_1 a0 f0 f1 w K) : c_session_Table_Of_1 a0 f0 f1 w K :=
  fn_sound pok Try.func62 (fn := Try.f62) (c := bodyOf Try.f62) (nt := 34) (by kernel_rfl) (by kernel_rfl) (rs := []) (by kernel_rfl) [] K (.seq (.seq .leaf (.cond .leaf .leaf)) (.seq .leaf (.blk (.loop [(17, (.int .i64))] (.seq .leaf (.seq (.cond .leaf .leaf) (.seq (.blk (.seq .leaf (.seq .leaf (.cond .leaf .leaf)))) .leaf))))))) [a0, (Value.pointer (some f0)), (Value.pointer (some f1))] (by kernel_rfl) w ((e_session_Table_Of_1 a0 f0 f1 w K).mpr h)

/-- slices.Clone[[]int,int] -/
def s_slices_Clone_int_int (a0 : SliceV) (w : World) (K : SliceV → World → Prop) : Prop :=
 ((bif (Option.isNone a0.a) then
 K ⟨none, 0, 0⟩ w
 else
 Al w (.cells ⟨[]⟩ 3) fun a3 w2 =>
 AppSl 3 1 8 [(Value.int .i64 0)] ⟨(some a3), 0, 0⟩ a0 w2 fun s4 w5 =>
 K s4 w5))
theorem e_slices_Clone_int_int (a0 : SliceV) (w : World) (K : SliceV → World → Prop) : den Try.prog 8 (bodyOf Try.f63) none (.seq .leaf (.seq (.seq .leaf (.cond (.seq .leaf .leaf) .leaf)) (.seq .leaf .leaf))) (argEnv 0 [(Value.slice a0.a a0.len a0.cap)]) [] w (retK Try.prog [.tmp 2] [.one .slice] K) = s_slices_Clone_int_int a0 w K := by kernel_rfl
theorem ok_slices_Clone_int_int {a0 w K} (h : s_slices_Clone_int_int a0 w K) : c_slices_Clone_int_int a0 w K :=
  fn_sound pok Try.func63 (fn := Try.f63) (c := bodyOf Try.f63) (nt := 8) (by kernel_rfl) (by kernel_rfl) (rs := [.tmp 2]) (by kernel_rfl) [.one .slice] K (.seq .leaf (.seq (.seq .leaf (.cond (.seq .leaf .leaf) .leaf)) (.seq .leaf .leaf))) [(Value.slice a0.a a0.len a0.cap)] (by kernel_rfl) w ((e_slices_Clone_int_int a0 w K).mpr h)

/-- (*goosepond/goosepondref24.Table).Of -/
def s_ref24_Table_Of (a0 : Option Addr) (a1 : Int) (w : World) (K : SliceV → World → Prop) : Prop :=
 (LoopP (S := SliceV × Int × Unit) (fun s3 w4 next5 =>
 ∃ a6 : Addr, a0 = some a6 ∧
 Ld .slice w4 a6 fun x7 =>
 (bif (decide (s3.2.1 < (x7.len : Int))) then
 let J8 : SliceV → World → Prop := fun j9 w10 =>
 (next5 (j9, (IntKind.i64.wrap (s3.2.1 + 1)), ()) w10)
 ∃ a11 : Addr, a0 = some a11 ∧
 Ld .slice w4 a11 fun x12 =>
 AtIx x12 6 s3.2.1 fun a13 =>
 Ld (.int .i64) w4 (a13.add 1) fun x14 =>
 (bif (x14 == a1) then
 ∃ a15 : Addr, a0 = some a15 ∧
 Ld .slice w4 a15 fun x16 =>
 AtIx x16 6 s3.2.1 fun a17 =>
 Ld (.int .i64) w4 (a17.add 0) fun x18 =>
 Ld (.int .i64) w4 (a17.add 1) fun x19 =>
 Ld (.int .i64) w4 (a17.add 2) fun x20 =>
 Ld (.int .i64) w4 (a17.add 3) fun x21 =>
 Ld (.int .i64) w4 (a17.add 4) fun x22 =>
 Ld (.int .i64) w4 (a17.add 5) fun x23 =>
 Al w4 (.cells ⟨[(Value.int .i64 x18), (Value.int .i64 x19), (Value.int .i64 x20), (Value.int .i64 x21), (Value.int .i64 x22), (Value.int .i64 x23)]⟩ 123) fun a25 w24 =>
 AppSl 123 6 48 [(Value.int .i64 0), (Value.int .i64 0), (Value.int .i64 0), (Value.int .i64 0), (Value.int .i64 0), (Value.int .i64 0)] s3.1 ⟨(some a25), 1, 1⟩ w24 fun s26 w27 =>
 J8 s26 w27
 else
 J8 s3.1 w4)
 else
 K s3.1 w4)) (⟨none, 0, 0⟩, 0, ()) w)
theorem e_ref24_Table_Of (a0 : Option Addr) (a1 : Int) (w : World) (K : SliceV → World → Prop) : den Try.prog 38 (bodyOf Try.f64) none (.seq .leaf (.seq .leaf (.seq (.seq .leaf (.blk (.loop [(5, .slice), (6, (.int .i64))] (.seq (.seq .leaf (.cond .leaf .leaf)) (.seq (.blk (.seq .leaf (.cond .leaf .leaf))) .leaf))))) (.seq .leaf .leaf)))) (argEnv 0 [(Value.pointer a0), (Value.int .i64 a1)]) [] w (retK Try.prog [.tmp 4] [.one .slice] K) = s_ref24_Table_Of a0 a1 w K := by kernel_rfl
theorem ok_ref24_Table_Of {a0 a1 w K} (h : s_ref24_Table_Of a0 a1 w K) : c_ref24_Table_Of a0 a1 w K :=
  fn_sound pok Try.func64 (fn := Try.f64) (c := bodyOf Try.f64) (nt := 38) (by kernel_rfl) (by kernel_rfl) (rs := [.tmp 4]) (by kernel_rfl) [.one .slice] K (.seq .leaf (.seq .leaf (.seq (.seq .leaf (.blk (.loop [(5, .slice), (6, (.int .i64))] (.seq (.seq .leaf (.cond .leaf .leaf)) (.seq (.blk (.seq .leaf (.cond .leaf .leaf))) .leaf))))) (.seq .leaf .leaf)))) [(Value.pointer a0), (Value.int .i64 a1)] (by kernel_rfl) w ((e_ref24_Table_Of a0 a1 w K).mpr h)

/-- (*goosepond/hash.Table).ready -/
def s_hash_Table_ready (a0 : Option Addr) (w : World) (K : Bool → World → Prop) : Prop :=
 (let J2 : Bool → Prop := fun j3 =>
 (K j3 w)
 (bif (!(Option.isNone a0)) then
 ∃ a4 : Addr, a0 = some a4 ∧
 Ld .bool w (a4.add 3) fun x5 =>
 J2 x5
 else
 J2 false))
theorem e_hash_Table_ready (a0 : Option Addr) (w : World) (K : Bool → World → Prop) : den Try.prog 11 (bodyOf Try.f65) none (.seq .leaf (.seq .leaf .leaf)) (argEnv 0 [(Value.pointer a0)]) [] w (retK Try.prog [.tmp 2] [.one .bool] K) = s_hash_Table_ready a0 w K := by kernel_rfl
theorem ok_hash_Table_ready {a0 w K} (h : s_hash_Table_ready a0 w K) : c_hash_Table_ready a0 w K :=
  fn_sound pok Try.func65 (fn := Try.f65) (c := bodyOf Try.f65) (nt := 11) (by kernel_rfl) (by kernel_rfl) (rs := [.tmp 2]) (by kernel_rfl) [.one .bool] K (.seq .leaf (.seq .leaf .leaf)) [(Value.pointer a0)] (by kernel_rfl) w ((e_hash_Table_ready a0 w K).mpr h)

/-- (*goosepond/hash.Table).find -/
def s_hash_Table_find (a0 : Option Addr) (a1 : ByteArray) (w : World) (K : Int → Bool → World → Prop) : Prop :=
 (isOne (Value.pointer a0) = true ∧
 Al w (.cells ⟨[(Value.pointer a0)]⟩ 57) fun a4 w3 =>
 isOne (Value.string a1) = true ∧
 Al w3 (.cells ⟨[(Value.string a1)]⟩ 9) fun a6 w5 =>
 Al w5 (.cells ⟨[(Value.int .i64 0)]⟩ 3) fun a8 w7 =>
 Al w7 (.cells ⟨[(Value.bool false)]⟩ 4) fun a10 w9 =>
 Ld .ptr w9 a4 fun x11 =>
 ∃ a12 : Addr, x11 = some a12 ∧
 Ld .slice w9 a12 fun x13 =>
 (bif ((x13.len : Int) == 0) then
 St w9 a8 (Value.int .i64 0) fun w14 =>
 St w14 a10 (Value.bool false) fun w15 =>
 Ld (.int .i64) w15 a8 fun y16 =>
 Ld .bool w15 a10 fun y17 =>
 K y16 y17 w15
 else
 Ld .ptr w9.drew a4 fun x18 =>
 Ld .str w9.drew a6 fun x19 =>
 Ld .ptr w9.drew a4 fun x20 =>
 ∃ a21 : Addr, x20 = some a21 ∧
 Ld .slice w9.drew a21 fun x22 =>
 c_hash_home x19 (x22.len : Int) w9.drew fun r23 w24 =>
 w24.cell? a4 = some (Value.pointer x18) ∧
 c_hash_Table_walk x18 r23 w24 fun r25 w26 =>
 RngP Try.prog none [.one (.int .i64)] r25 w26 (fun l27 x28 W29 Kb30 =>
 W29.heap[l27]? = W29.heap[l27]? ∧
 Ld .ptr (busyW W29 l27) a4 fun x31 =>
 ∃ a32 : Addr, x31 = some a32 ∧
 Ld .slice (busyW W29 l27) a32 fun x33 =>
 AtIx x33 3 x28.1 fun a34 =>
 Ld .str (busyW W29 l27) (a34.add 0) fun x35 =>
 Ld (.int .i64) (busyW W29 l27) (a34.add 1) fun x36 =>
 Ld .bool (busyW W29 l27) (a34.add 2) fun x37 =>
 Al (busyW W29 l27) (.cells ⟨[(Value.string (bs [])), (Value.int .i64 0), (Value.bool false)]⟩ 129) fun a39 w38 =>
 StN [(Value.string x35), (Value.int .i64 x36), (Value.bool x37)] w38 a39 0 fun w40 =>
 Ld .bool w40 (a39.add 2) fun x41 =>
 (bif (!x41) then
 St w40 a8 (Value.int .i64 x28.1) fun w42 =>
 St w42 a10 (Value.bool false) fun w43 =>
 Kb30 .ret w43
 else
 Ld .str w40 a39 fun x44 =>
 Ld .str w40 a6 fun x45 =>
 (bif (strEq x44 x45) then
 St w40 a8 (Value.int .i64 x28.1) fun w46 =>
 St w46 a10 (Value.bool true) fun w47 =>
 Kb30 .ret w47
 else
 Kb30 .normal w40)))
 (fun w48 =>
 St w48 a8 (Value.int .i64 0) fun w49 =>
 St w49 a10 (Value.bool false) fun w50 =>
 w50.heap[w26.heap.size]? = some (.deferred (some [])) ∧
 Ld (.int .i64) (w50.putObj w26.heap.size (.deferred none)) a8 fun y51 =>
 Ld .bool (w50.putObj w26.heap.size (.deferred none)) a10 fun y52 =>
 K y51 y52 (w50.putObj w26.heap.size (.deferred none)))
 (fun w53 =>
 w53.heap[w26.heap.size]? = some (.deferred (some [])) ∧
 Ld (.int .i64) (w53.putObj w26.heap.size (.deferred none)) a8 fun y54 =>
 Ld .bool (w53.putObj w26.heap.size (.deferred none)) a10 fun y55 =>
 K y54 y55 (w53.putObj w26.heap.size (.deferred none)))
 []))
theorem e_hash_Table_find (a0 : Option Addr) (a1 : ByteArray) (w : World) (K : Int → Bool → World → Prop) : den Try.prog 40 (bodyOf Try.f66) none (.seq .leaf (.seq (.seq .leaf (.cond (.seq .leaf .leaf) .leaf)) (.seq (.seq .leaf (.blk (.rng [.one (.int .i64)] .leaf (.blk (.seq .leaf (.seq (.seq .leaf (.cond (.seq .leaf .leaf) .leaf)) (.seq .leaf (.cond (.seq .leaf .leaf) .leaf)))))))) (.seq .leaf .leaf)))) (argEnv 0 [(Value.pointer a0), (Value.string a1)]) [] w (retK Try.prog [.cell 4 3, .cell 5 4] [.one (.int .i64), .one .bool] K) = s_hash_Table_find a0 a1 w K := by kernel_rfl
theorem ok_hash_Table_find {a0 a1 w K} (h : s_hash_Table_find a0 a1 w K) : c_hash_Table_find a0 a1 w K :=
  fn_sound pok Try.func66 (fn := Try.f66) (c := bodyOf Try.f66) (nt := 40) (by kernel_rfl) (by kernel_rfl) (rs := [.cell 4 3, .cell 5 4]) (by kernel_rfl) [.one (.int .i64), .one .bool] K (.seq .leaf (.seq (.seq .leaf (.cond (.seq .leaf .leaf) .leaf)) (.seq (.seq .leaf (.blk (.rng [.one (.int .i64)] .leaf (.blk (.seq .leaf (.seq (.seq .leaf (.cond (.seq .leaf .leaf) .leaf)) (.seq .leaf (.cond (.seq .leaf .leaf) .leaf)))))))) (.seq .leaf .leaf)))) [(Value.pointer a0), (Value.string a1)] (by kernel_rfl) w ((e_hash_Table_find a0 a1 w K).mpr h)

/-- (*goosepond/hash.Table).grow -/
def s_hash_Table_grow (a0 : Option Addr) (w : World) (K : World → Prop) : Prop :=
 (∃ a2 : Addr, a0 = some a2 ∧
 Ld (.int .i64) w.drew (a2.add 1) fun x3 =>
 ∃ a4 : Addr, a0 = some a4 ∧
 Ld .slice w.drew a4 fun x5 =>
 (bif (decide ((IntKind.i64.wrap (2 * (IntKind.i64.wrap (x3 + 1)))) ≤ (x5.len : Int))) then
 K w.drew
 else
 ∃ a6 : Addr, a0 = some a6 ∧
 Ld .slice w.drew a6 fun x7 =>
 MkSl 129 3 32 [(Value.string (bs [])), (Value.int .i64 0), (Value.bool false)] (if (IntKind.i64.wrap (2 * (x7.len : Int))) > 8 then (IntKind.i64.wrap (2 * (x7.len : Int))) else 8) (if (IntKind.i64.wrap (2 * (x7.len : Int))) > 8 then (IntKind.i64.wrap (2 * (x7.len : Int))) else 8) w.drew fun s8 w9 =>
 ∃ a10 : Addr, a0 = some a10 ∧
 St w9 a10 (Value.slice s8.a s8.len s8.cap) fun w11 =>
 LoopP (S := Int × Unit) (fun s12 w13 next14 =>
 (bif (decide (s12.1 < (x7.len : Int))) then
 let J15 : World → Prop := fun w16 =>
 (next14 ((IntKind.i64.wrap (s12.1 + 1)), ()) w16)
 AtIx x7 3 s12.1 fun a17 =>
 Ld .str w13 (a17.add 0) fun x18 =>
 Ld (.int .i64) w13 (a17.add 1) fun x19 =>
 Ld .bool w13 (a17.add 2) fun x20 =>
 Al w13 (.cells ⟨[(Value.string (bs [])), (Value.int .i64 0), (Value.bool false)]⟩ 129) fun a22 w21 =>
 StN [(Value.string x18), (Value.int .i64 x19), (Value.bool x20)] w21 a22 0 fun w23 =>
 Ld .bool w23 (a22.add 2) fun x24 =>
 (bif x24 then
 Ld .str w23 a22 fun x25 =>
 c_hash_Table_find a0 x25 w23 fun r26 r27 w28 =>
 ∃ a29 : Addr, a0 = some a29 ∧
 Ld .slice w28.drew a29 fun x30 =>
 Ld .str w28.drew (a22.add 0) fun x31 =>
 Ld (.int .i64) w28.drew (a22.add 1) fun x32 =>
 Ld .bool w28.drew (a22.add 2) fun x33 =>
 AtIx x30 3 r26 fun a34 =>
 StN [(Value.string x31), (Value.int .i64 x32), (Value.bool x33)] w28.drew a34 0 fun w35 =>
 J15 w35
 else
 J15 w23)
 else
 K w13)) (0, ()) w11))
theorem e_hash_Table_grow (a0 : Option Addr) (w : World) (K : World → Prop) : den Try.prog 54 (bodyOf Try.f67) none (.seq (.seq .leaf (.cond .leaf .leaf)) (.seq .leaf (.seq .leaf (.seq .leaf (.blk (.loop [(33, (.int .i64))] (.seq .leaf (.seq (.cond .leaf .leaf) (.seq (.blk (.seq .leaf (.seq .leaf (.cond (.seq .leaf .leaf) .leaf)))) .leaf))))))))) (argEnv 0 [(Value.pointer a0)]) [] w (retK Try.prog [] [] K) = s_hash_Table_grow a0 w K := by kernel_rfl
theorem ok_hash_Table_grow {a0 w K} (h : s_hash_Table_grow a0 w K) : c_hash_Table_grow a0 w K :=
  fn_sound pok Try.func67 (fn := Try.f67) (c := bodyOf Try.f67) (nt := 54) (by kernel_rfl) (by kernel_rfl) (rs := []) (by kernel_rfl) [] K (.seq (.seq .leaf (.cond .leaf .leaf)) (.seq .leaf (.seq .leaf (.seq .leaf (.blk (.loop [(33, (.int .i64))] (.seq .leaf (.seq (.cond .leaf .leaf) (.seq (.blk (.seq .leaf (.seq .leaf (.cond (.seq .leaf .leaf) .leaf)))) .leaf))))))))) [(Value.pointer a0)] (by kernel_rfl) w ((e_hash_Table_grow a0 w K).mpr h)

/-- (*goosepond/hash.Table).walk -/
def s_hash_Table_walk (a0 : Option Addr) (a1 : Int) (w : World) (K : Value → World → Prop) : Prop :=
 (isOne (Value.pointer a0) = true ∧
 Al w (.cells ⟨[(Value.pointer a0)]⟩ 57) fun a4 w3 =>
 isOne (Value.int .i64 a1) = true ∧
 Al w3 (.cells ⟨[(Value.int .i64 a1)]⟩ 3) fun a6 w5 =>
 K (Value.func (.func 77) #[] #[(Value.pointer (some a4)), (Value.pointer (some a6))]) w5)
theorem e_hash_Table_walk (a0 : Option Addr) (a1 : Int) (w : World) (K : Value → World → Prop) : den Try.prog 6 (bodyOf Try.f69) none (.seq .leaf (.seq .leaf .leaf)) (argEnv 0 [(Value.pointer a0), (Value.int .i64 a1)]) [] w (retK Try.prog [.tmp 4] [.one .any] K) = s_hash_Table_walk a0 a1 w K := by kernel_rfl
theorem ok_hash_Table_walk {a0 a1 w K} (h : s_hash_Table_walk a0 a1 w K) : c_hash_Table_walk a0 a1 w K :=
  fn_sound pok Try.func69 (fn := Try.f69) (c := bodyOf Try.f69) (nt := 6) (by kernel_rfl) (by kernel_rfl) (rs := [.tmp 4]) (by kernel_rfl) [.one .any] K (.seq .leaf (.seq .leaf .leaf)) [(Value.pointer a0), (Value.int .i64 a1)] (by kernel_rfl) w ((e_hash_Table_walk a0 a1 w K).mpr h)

/-- goosepond/be.Put -/
def s_be_Put (a0 : SliceV) (a1 : Int) (a2 : Int) (w : World) (K : SliceV → World → Prop) : Prop :=
 (c_slices_Clone_byte_byte a0 w fun r4 w5 =>
 c_be_Fits a1 a2 w5 fun r6 w7 =>
 (bif (!r6) then
 K r4 w7
 else
 c_be_digits a1 a2 w7 fun r8 w9 =>
 c_slices_AppendSeq_byte_byte r4 r8 w9 fun r10 w11 =>
 K r10 w11))
theorem e_be_Put (a0 : SliceV) (a1 : Int) (a2 : Int) (w : World) (K : SliceV → World → Prop) : den Try.prog 20 (bodyOf Try.f70) none (.seq .leaf (.seq .leaf (.seq (.seq .leaf (.cond (.seq .leaf .leaf) .leaf)) (.seq .leaf .leaf)))) (argEnv 0 [(Value.slice a0.a a0.len a0.cap), (Value.int .i64 a1), (Value.int .i64 a2)]) [] w (retK Try.prog [.tmp 6] [.one .slice] K) = s_be_Put a0 a1 a2 w K := by kernel_rfl
theorem ok_be_Put {a0 a1 a2 w K} (h : s_be_Put a0 a1 a2 w K) : c_be_Put a0 a1 a2 w K :=
  fn_sound pok Try.func70 (fn := Try.f70) (c := bodyOf Try.f70) (nt := 20) (by kernel_rfl) (by kernel_rfl) (rs := [.tmp 6]) (by kernel_rfl) [.one .slice] K (.seq .leaf (.seq .leaf (.seq (.seq .leaf (.cond (.seq .leaf .leaf) .leaf)) (.seq .leaf .leaf)))) [(Value.slice a0.a a0.len a0.cap), (Value.int .i64 a1), (Value.int .i64 a2)] (by kernel_rfl) w ((e_be_Put a0 a1 a2 w K).mpr h)

/-- cmp.Less[int] -/
def s_cmp_Less_int (a0 : Int) (a1 : Int) (w : World) (K : Bool → World → Prop) : Prop :=
 (let J3 : Bool → World → Prop := fun j4 w5 =>
 (K j4 w5)
 c_cmp_isNaN_int a0 w fun r6 w7 =>
 (bif r6 then
 c_cmp_isNaN_int a1 w7 fun r8 w9 =>
 (bif (!r8) then
 J3 true w9
 else
 J3 (decide (a0 < a1)) w9)
 else
 J3 (decide (a0 < a1)) w7))
theorem e_cmp_Less_int (a0 : Int) (a1 : Int) (w : World) (K : Bool → World → Prop) : den Try.prog 17 (bodyOf Try.f71) none (.seq .leaf (.seq .leaf .leaf)) (argEnv 0 [(Value.int .i64 a0), (Value.int .i64 a1)]) [] w (retK Try.prog [.tmp 4] [.one .bool] K) = s_cmp_Less_int a0 a1 w K := by kernel_rfl
theorem ok_cmp_Less_int {a0 a1 w K} (h : s_cmp_Less_int a0 a1 w K) : c_cmp_Less_int a0 a1 w K :=
  fn_sound pok Try.func71 (fn := Try.f71) (c := bodyOf Try.f71) (nt := 17) (by kernel_rfl) (by kernel_rfl) (rs := [.tmp 4]) (by kernel_rfl) [.one .bool] K (.seq .leaf (.seq .leaf .leaf)) [(Value.int .i64 a0), (Value.int .i64 a1)] (by kernel_rfl) w ((e_cmp_Less_int a0 a1 w K).mpr h)

/-- slices.isNaN[int] -/
def s_slices_isNaN_int (a0 : Int) (w : World) (K : Bool → World → Prop) : Prop :=
 (K (a0 != a0) w)
theorem e_slices_isNaN_int (a0 : Int) (w : World) (K : Bool → World → Prop) : den Try.prog 6 (bodyOf Try.f72) none (.seq .leaf (.seq .leaf .leaf)) (argEnv 0 [(Value.int .i64 a0)]) [] w (retK Try.prog [.tmp 2] [.one .bool] K) = s_slices_isNaN_int a0 w K := by kernel_rfl
theorem ok_slices_isNaN_int {a0 w K} (h : s_slices_isNaN_int a0 w K) : c_slices_isNaN_int a0 w K :=
  fn_sound pok Try.func72 (fn := Try.f72) (c := bodyOf Try.f72) (nt := 6) (by kernel_rfl) (by kernel_rfl) (rs := [.tmp 2]) (by kernel_rfl) [.one .bool] K (.seq .leaf (.seq .leaf .leaf)) [(Value.int .i64 a0)] (by kernel_rfl) w ((e_slices_isNaN_int a0 w K).mpr h)

/-- slices.rotateRight[int] -/
def s_slices_rotateRight_int (a0 : SliceV) (a1 : Int) (w : World) (K : World → Prop) : Prop :=
 (c_slices_rotateLeft_int a0 (IntKind.i64.wrap ((a0.len : Int) - a1)) w fun w3 =>
 K w3)
theorem e_slices_rotateRight_int (a0 : SliceV) (a1 : Int) (w : World) (K : World → Prop) : den Try.prog 10 (bodyOf Try.f74) none .leaf (argEnv 0 [(Value.slice a0.a a0.len a0.cap), (Value.int .i64 a1)]) [] w (retK Try.prog [] [] K) = s_slices_rotateRight_int a0 a1 w K := by kernel_rfl
theorem ok_slices_rotateRight_int {a0 a1 w K} (h : s_slices_rotateRight_int a0 a1 w K) : c_slices_rotateRight_int a0 a1 w K :=
  fn_sound pok Try.func74 (fn := Try.f74) (c := bodyOf Try.f74) (nt := 10) (by kernel_rfl) (by kernel_rfl) (rs := []) (by kernel_rfl) [] K .leaf [(Value.slice a0.a a0.len a0.cap), (Value.int .i64 a1)] (by kernel_rfl) w ((e_slices_rotateRight_int a0 a1 w K).mpr h)

/-- slices.IndexFunc[[]int,int] -/
def s_slices_IndexFunc_int_int (a0 : SliceV) (a1 : Value) (w : World) (K : Int → World → Prop) : Prop :=
 (LoopP (S := Int × Unit) (fun s3 w4 next5 =>
 (bif (decide (s3.1 < (a0.len : Int))) then
 AtIx a0 1 s3.1 fun a6 =>
 Ld (.int .i64) w4 a6 fun x7 =>
 CallV Try.prog [.one .bool] a1 [(Value.int .i64 x7)] w4 fun r8 w9 =>
 ∃ r10 : Bool, r8 = (Value.bool r10) ∧
 (bif r10 then
 K s3.1 w9
 else
 next5 ((IntKind.i64.wrap (s3.1 + 1)), ()) w9)
 else
 K (-1) w4)) (0, ()) w)
theorem e_slices_IndexFunc_int_int (a0 : SliceV) (a1 : Value) (w : World) (K : Int → World → Prop) : den Try.prog 19 (bodyOf Try.f75) none (.seq .leaf (.seq (.seq .leaf (.blk (.loop [(8, (.int .i64))] (.seq .leaf (.seq (.cond .leaf .leaf) (.seq (.blk (.seq .leaf (.seq .leaf (.cond (.seq .leaf .leaf) .leaf)))) .leaf)))))) (.seq .leaf .leaf))) (argEnv 0 [(Value.slice a0.a a0.len a0.cap), a1]) [] w (retK Try.prog [.tmp 4] [.one (.int .i64)] K) = s_slices_IndexFunc_int_int a0 a1 w K := by kernel_rfl
theorem ok_slices_IndexFunc_int_int {a0 a1 w K} (h : s_slices_IndexFunc_int_int a0 a1 w K) : c_slices_IndexFunc_int_int a0 a1 w K :=
  fn_sound pok Try.func75 (fn := Try.f75) (c := bodyOf Try.f75) (nt := 19) (by kernel_rfl) (by kernel_rfl) (rs := [.tmp 4]) (by kernel_rfl) [.one (.int .i64)] K (.seq .leaf (.seq (.seq .leaf (.blk (.loop [(8, (.int .i64))] (.seq .leaf (.seq (.cond .leaf .leaf) (.seq (.blk (.seq .leaf (.seq .leaf (.cond (.seq .leaf .leaf) .leaf)))) .leaf)))))) (.seq .leaf .leaf))) [(Value.slice a0.a a0.len a0.cap), a1] (by kernel_rfl) w ((e_slices_IndexFunc_int_int a0 a1 w K).mpr h)

/-- goosepond/hash.home -/
def s_hash_home (a0 : ByteArray) (a1 : Int) (w : World) (K : Int → World → Prop) : Prop :=
 (LoopP (S := Int × Int × Unit) (fun s3 w4 next5 =>
 (bif (decide (s3.2.1 < (a0.size : Int))) then
 StrIx a0 s3.2.1 fun x6 =>
 next5 ((IntKind.u32.wrap ((xorI .u32 s3.1 (IntKind.u32.wrap x6)) * 16777619)), (IntKind.i64.wrap (s3.2.1 + 1)), ()) w4
 else
 (IntKind.u32.wrap a1) ≠ 0 ∧
 K (IntKind.i64.wrap (Int.tmod s3.1 (IntKind.u32.wrap a1))) w4)) (2166136261, 0, ()) w)
theorem e_hash_home (a0 : ByteArray) (a1 : Int) (w : World) (K : Int → World → Prop) : den Try.prog 25 (bodyOf Try.f76) none (.seq .leaf (.seq .leaf (.seq (.seq .leaf (.blk (.loop [(5, (.int .u32)), (9, (.int .i64))] (.seq .leaf (.seq (.cond .leaf .leaf) (.seq (.blk (.seq .leaf .leaf)) .leaf)))))) (.seq .leaf .leaf)))) (argEnv 0 [(Value.string a0), (Value.int .i64 a1)]) [] w (retK Try.prog [.tmp 4] [.one (.int .i64)] K) = s_hash_home a0 a1 w K := by kernel_rfl
theorem ok_hash_home {a0 a1 w K} (h : s_hash_home a0 a1 w K) : c_hash_home a0 a1 w K :=
  fn_sound pok Try.func76 (fn := Try.f76) (c := bodyOf Try.f76) (nt := 25) (by kernel_rfl) (by kernel_rfl) (rs := [.tmp 4]) (by kernel_rfl) [.one (.int .i64)] K (.seq .leaf (.seq .leaf (.seq (.seq .leaf (.blk (.loop [(5, (.int .u32)), (9, (.int .i64))] (.seq .leaf (.seq (.cond .leaf .leaf) (.seq (.blk (.seq .leaf .leaf)) .leaf)))))) (.seq .leaf .leaf)))) [(Value.string a0), (Value.int .i64 a1)] (by kernel_rfl) w ((e_hash_home a0 a1 w K).mpr h)

/-- (*goosepond/hash.Table).walk$1 -/
def s_hash_Table_walk_1 (a0 : Value) (f0 : Addr) (f1 : Addr) (w : World) (K : World → Prop) : Prop :=
 (Ld .ptr w f0 fun x2 =>
 ∃ a3 : Addr, x2 = some a3 ∧
 Ld .slice w a3 fun x4 =>
 LoopP (S := Int × Unit) (fun s5 w6 next7 =>
 (bif (decide (s5.1 < (x4.len : Int))) then
 Ld (.int .i64) w6.drew f1 fun x8 =>
 Ld .ptr w6.drew f0 fun x9 =>
 ∃ a10 : Addr, x9 = some a10 ∧
 Ld .slice w6.drew a10 fun x11 =>
 (x11.len : Int) ≠ 0 ∧
 CallV Try.prog [.one .bool] a0 [(Value.int .i64 (Int.tmod (IntKind.i64.wrap (x8 + s5.1)) (x11.len : Int)))] w6.drew fun r12 w13 =>
 ∃ r14 : Bool, r12 = (Value.bool r14) ∧
 (bif (!r14) then
 K w13
 else
 next7 ((IntKind.i64.wrap (s5.1 + 1)), ()) w13)
 else
 K w6)) (0, ()) w)
theorem e_hash_Table_walk_1 (a0 : Value) (f0 : Addr) (f1 : Addr) (w : World) (K : World → Prop) : den Try.prog 26 (bodyOf Try.f77) none (.seq .leaf (.blk (.loop [(10, (.int .i64))] (.seq .leaf (.seq (.cond .leaf .leaf) (.seq (.blk (.seq .leaf (.seq .leaf (.cond .leaf .leaf)))) .leaf)))))) (argEnv 0 [a0, (Value.pointer (some f0)), (Value.pointer (some f1))]) [] w (retK Try.prog [] [] K) = s_hash_Table_walk_1 a0 f0 f1 w K := by kernel_rfl
theorem ok_hash_Table_walk_1 {a0 f0 f1 w K} (h : s_hash_Table_walk_1 a0 f0 f1 w K) : c_hash_Table_walk_1 a0 f0 f1 w K :=
  fn_sound pok Try.func77 (fn := Try.f77) (c := bodyOf Try.f77) (nt := 26) (by kernel_rfl) (by kernel_rfl) (rs := []) (by kernel_rfl) [] K (.seq .leaf (.blk (.loop [(10, (.int .i64))] (.seq .leaf (.seq (.cond .leaf .leaf) (.seq (.blk (.seq .leaf (.seq .leaf (.cond .leaf .leaf)))) .leaf)))))) [a0, (Value.pointer (some f0)), (Value.pointer (some f1))] (by kernel_rfl) w ((e_hash_Table_walk_1 a0 f0 f1 w K).mpr h)

/-- slices.Clone[[]byte,byte] -/
def s_slices_Clone_byte_byte (a0 : SliceV) (w : World) (K : SliceV → World → Prop) : Prop :=
 ((bif (Option.isNone a0.a) then
 K ⟨none, 0, 0⟩ w
 else
 Al w (.cells ⟨[]⟩ 5) fun a3 w2 =>
 AppSl 5 1 1 [(Value.int .u8 0)] ⟨(some a3), 0, 0⟩ a0 w2 fun s4 w5 =>
 K s4 w5))
theorem e_slices_Clone_byte_byte (a0 : SliceV) (w : World) (K : SliceV → World → Prop) : den Try.prog 8 (bodyOf Try.f78) none (.seq .leaf (.seq (.seq .leaf (.cond (.seq .leaf .leaf) .leaf)) (.seq .leaf .leaf))) (argEnv 0 [(Value.slice a0.a a0.len a0.cap)]) [] w (retK Try.prog [.tmp 2] [.one .slice] K) = s_slices_Clone_byte_byte a0 w K := by kernel_rfl
theorem ok_slices_Clone_byte_byte {a0 w K} (h : s_slices_Clone_byte_byte a0 w K) : c_slices_Clone_byte_byte a0 w K :=
  fn_sound pok Try.func78 (fn := Try.f78) (c := bodyOf Try.f78) (nt := 8) (by kernel_rfl) (by kernel_rfl) (rs := [.tmp 2]) (by kernel_rfl) [.one .slice] K (.seq .leaf (.seq (.seq .leaf (.cond (.seq .leaf .leaf) .leaf)) (.seq .leaf .leaf))) [(Value.slice a0.a a0.len a0.cap)] (by kernel_rfl) w ((e_slices_Clone_byte_byte a0 w K).mpr h)

/-- goosepond/be.Fits -/
def s_be_Fits (a0 : Int) (a1 : Int) (w : World) (K : Bool → World → Prop) : Prop :=
 (let J3 : Bool → World → Prop := fun j4 w5 =>
 (K j4 w5)
 c_be_right a1 w fun r6 w7 =>
 (bif r6 then
 (bif (decide (a0 ≥ 0)) then
 0 ≤ (IntKind.i64.wrap (8 * a1)) ∧
 J3 ((shrI .i64 a0 (IntKind.i64.wrap (8 * a1))) == 0) w7
 else
 J3 false w7)
 else
 J3 false w7))
theorem e_be_Fits (a0 : Int) (a1 : Int) (w : World) (K : Bool → World → Prop) : den Try.prog 18 (bodyOf Try.f79) none (.seq .leaf (.seq .leaf .leaf)) (argEnv 0 [(Value.int .i64 a0), (Value.int .i64 a1)]) [] w (retK Try.prog [.tmp 4] [.one .bool] K) = s_be_Fits a0 a1 w K := by kernel_rfl
theorem ok_be_Fits {a0 a1 w K} (h : s_be_Fits a0 a1 w K) : c_be_Fits a0 a1 w K :=
  fn_sound pok Try.func79 (fn := Try.f79) (c := bodyOf Try.f79) (nt := 18) (by kernel_rfl) (by kernel_rfl) (rs := [.tmp 4]) (by kernel_rfl) [.one .bool] K (.seq .leaf (.seq .leaf .leaf)) [(Value.int .i64 a0), (Value.int .i64 a1)] (by kernel_rfl) w ((e_be_Fits a0 a1 w K).mpr h)

/-- slices.AppendSeq[[]byte,byte] -/
def s_slices_AppendSeq_byte_byte (a0 : SliceV) (a1 : Value) (w : World) (K : SliceV → World → Prop) : Prop :=
 (isOne (Value.slice a0.a a0.len a0.cap) = true ∧
 Al w (.cells ⟨[(Value.slice a0.a a0.len a0.cap)]⟩ 134) fun a4 w3 =>
 RngP Try.prog none [.one (.int .u8)] a1 w3 (fun l5 x6 W7 Kb8 =>
 W7.heap[l5]? = W7.heap[l5]? ∧
 Ld .slice (busyW W7 l5) a4 fun x9 =>
 Al (busyW W7 l5) (.cells ⟨[(Value.int .u8 x6.1)]⟩ 5) fun a11 w10 =>
 AppSl 5 1 1 [(Value.int .u8 0)] x9 ⟨(some a11), 1, 1⟩ w10 fun s12 w13 =>
 St w13 a4 (Value.slice s12.a s12.len s12.cap) fun w14 =>
 Kb8 .normal w14)
 (fun w15 =>
 Ld .slice w15 a4 fun x16 =>
 w15.heap[w3.heap.size]? = some (.deferred (some [])) ∧
 K x16 (w15.putObj w3.heap.size (.deferred none)))
 (fun w17 =>
 w17.heap[w3.heap.size]? = some (.deferred (some [])) ∧
 K ⟨none, 0, 0⟩ (w17.putObj w3.heap.size (.deferred none)))
 [])
theorem e_slices_AppendSeq_byte_byte (a0 : SliceV) (a1 : Value) (w : World) (K : SliceV → World → Prop) : den Try.prog 13 (bodyOf Try.f80) none (.seq .leaf (.seq (.seq .leaf (.blk (.rng [.one (.int .u8)] .leaf (.blk .leaf)))) (.seq .leaf .leaf))) (argEnv 0 [(Value.slice a0.a a0.len a0.cap), a1]) [] w (retK Try.prog [.tmp 4] [.one .slice] K) = s_slices_AppendSeq_byte_byte a0 a1 w K := by kernel_rfl
theorem ok_slices_AppendSeq_byte_byte {a0 a1 w K} (h : s_slices_AppendSeq_byte_byte a0 a1 w K) : c_slices_AppendSeq_byte_byte a0 a1 w K :=
  fn_sound pok Try.func80 (fn := Try.f80) (c := bodyOf Try.f80) (nt := 13) (by kernel_rfl) (by kernel_rfl) (rs := [.tmp 4]) (by kernel_rfl) [.one .slice] K (.seq .leaf (.seq (.seq .leaf (.blk (.rng [.one (.int .u8)] .leaf (.blk .leaf)))) (.seq .leaf .leaf))) [(Value.slice a0.a a0.len a0.cap), a1] (by kernel_rfl) w ((e_slices_AppendSeq_byte_byte a0 a1 w K).mpr h)

/-- goosepond/be.digits -/
def s_be_digits (a0 : Int) (a1 : Int) (w : World) (K : Value → World → Prop) : Prop :=
 (isOne (Value.int .i64 a0) = true ∧
 Al w (.cells ⟨[(Value.int .i64 a0)]⟩ 3) fun a4 w3 =>
 isOne (Value.int .i64 a1) = true ∧
 Al w3 (.cells ⟨[(Value.int .i64 a1)]⟩ 3) fun a6 w5 =>
 K (Value.func (.func 85) #[] #[(Value.pointer (some a6)), (Value.pointer (some a4))]) w5)
theorem e_be_digits (a0 : Int) (a1 : Int) (w : World) (K : Value → World → Prop) : den Try.prog 6 (bodyOf Try.f81) none (.seq .leaf (.seq .leaf .leaf)) (argEnv 0 [(Value.int .i64 a0), (Value.int .i64 a1)]) [] w (retK Try.prog [.tmp 4] [.one .any] K) = s_be_digits a0 a1 w K := by kernel_rfl
theorem ok_be_digits {a0 a1 w K} (h : s_be_digits a0 a1 w K) : c_be_digits a0 a1 w K :=
  fn_sound pok Try.func81 (fn := Try.f81) (c := bodyOf Try.f81) (nt := 6) (by kernel_rfl) (by kernel_rfl) (rs := [.tmp 4]) (by kernel_rfl) [.one .any] K (.seq .leaf (.seq .leaf .leaf)) [(Value.int .i64 a0), (Value.int .i64 a1)] (by kernel_rfl) w ((e_be_digits a0 a1 w K).mpr h)

/-- cmp.isNaN[int] -/
def s_cmp_isNaN_int (a0 : Int) (w : World) (K : Bool → World → Prop) : Prop :=
 (K (a0 != a0) w)
theorem e_cmp_isNaN_int (a0 : Int) (w : World) (K : Bool → World → Prop) : den Try.prog 6 (bodyOf Try.f82) none (.seq .leaf (.seq .leaf .leaf)) (argEnv 0 [(Value.int .i64 a0)]) [] w (retK Try.prog [.tmp 2] [.one .bool] K) = s_cmp_isNaN_int a0 w K := by kernel_rfl
theorem ok_cmp_isNaN_int {a0 w K} (h : s_cmp_isNaN_int a0 w K) : c_cmp_isNaN_int a0 w K :=
  fn_sound pok Try.func82 (fn := Try.f82) (c := bodyOf Try.f82) (nt := 6) (by kernel_rfl) (by kernel_rfl) (rs := [.tmp 2]) (by kernel_rfl) [.one .bool] K (.seq .leaf (.seq .leaf .leaf)) [(Value.int .i64 a0)] (by kernel_rfl) w ((e_cmp_isNaN_int a0 w K).mpr h)

/-- slices.rotateLeft[int] -/
def s_slices_rotateLeft_int (a0 : SliceV) (a1 : Int) (w : World) (K : World → Prop) : Prop :=
 (SubSl a0 1 0 a1 fun s3 =>
 c_slices_Reverse_int_int s3 w fun w4 =>
 SubSl a0 1 a1 (a0.len : Int) fun s5 =>
 c_slices_Reverse_int_int s5 w4 fun w6 =>
 c_slices_Reverse_int_int a0 w6 fun w7 =>
 K w7)
theorem e_slices_rotateLeft_int (a0 : SliceV) (a1 : Int) (w : World) (K : World → Prop) : den Try.prog 14 (bodyOf Try.f83) none (.seq .leaf (.seq .leaf .leaf)) (argEnv 0 [(Value.slice a0.a a0.len a0.cap), (Value.int .i64 a1)]) [] w (retK Try.prog [] [] K) = s_slices_rotateLeft_int a0 a1 w K := by kernel_rfl
theorem ok_slices_rotateLeft_int {a0 a1 w K} (h : s_slices_rotateLeft_int a0 a1 w K) : c_slices_rotateLeft_int a0 a1 w K :=
  fn_sound pok Try.func83 (fn := Try.f83) (c := bodyOf Try.f83) (nt := 14) (by kernel_rfl) (by kernel_rfl) (rs := []) (by kernel_rfl) [] K (.seq .leaf (.seq .leaf .leaf)) [(Value.slice a0.a a0.len a0.cap), (Value.int .i64 a1)] (by kernel_rfl) w ((e_slices_rotateLeft_int a0 a1 w K).mpr h)

/-- goosepond/be.right -/
def s_be_right (a0 : Int) (w : World) (K : Bool → World → Prop) : Prop :=
 (let J2 : Bool → Prop := fun j3 =>
 (K j3 w)
 (bif (decide (a0 ≥ 1)) then
 J2 (decide (a0 ≤ 4))
 else
 J2 false))
theorem e_be_right (a0 : Int) (w : World) (K : Bool → World → Prop) : den Try.prog 9 (bodyOf Try.f84) none (.seq .leaf (.seq .leaf .leaf)) (argEnv 0 [(Value.int .i64 a0)]) [] w (retK Try.prog [.tmp 2] [.one .bool] K) = s_be_right a0 w K := by kernel_rfl
theorem ok_be_right {a0 w K} (h : s_be_right a0 w K) : c_be_right a0 w K :=
  fn_sound pok Try.func84 (fn := Try.f84) (c := bodyOf Try.f84) (nt := 9) (by kernel_rfl) (by kernel_rfl) (rs := [.tmp 2]) (by kernel_rfl) [.one .bool] K (.seq .leaf (.seq .leaf .leaf)) [(Value.int .i64 a0)] (by kernel_rfl) w ((e_be_right a0 w K).mpr h)

/-- goosepond/be.digits$1 -/
def s_be_digits_1 (a0 : Value) (f0 : Addr) (f1 : Addr) (w : World) (K : World → Prop) : Prop :=
 (Ld (.int .i64) w f0 fun x2 =>
 LoopP (S := Int × Unit) (fun s3 w4 next5 =>
 (bif (decide (s3.1 ≥ 0)) then
 Ld (.int .i64) w4 f1 fun x6 =>
 0 ≤ (IntKind.i64.wrap (8 * s3.1)) ∧
 CallV Try.prog [.one .bool] a0 [(Value.int .u8 (IntKind.u8.wrap (shrI .i64 x6 (IntKind.i64.wrap (8 * s3.1)))))] w4 fun r7 w8 =>
 ∃ r9 : Bool, r7 = (Value.bool r9) ∧
 (bif (!r9) then
 K w8
 else
 next5 ((IntKind.i64.wrap (s3.1 - 1)), ()) w8)
 else
 K w4)) ((IntKind.i64.wrap (x2 - 1)), ()) w)
theorem e_be_digits_1 (a0 : Value) (f0 : Addr) (f1 : Addr) (w : World) (K : World → Prop) : den Try.prog 19 (bodyOf Try.f85) none (.seq .leaf (.blk (.loop [(4, (.int .i64))] (.seq (.seq .leaf (.cond .leaf .leaf)) (.seq (.blk (.seq .leaf (.cond .leaf .leaf))) .leaf))))) (argEnv 0 [a0, (Value.pointer (some f0)), (Value.pointer (some f1))]) [] w (retK Try.prog [] [] K) = s_be_digits_1 a0 f0 f1 w K := by kernel_rfl
theorem ok_be_digits_1 {a0 f0 f1 w K} (h : s_be_digits_1 a0 f0 f1 w K) : c_be_digits_1 a0 f0 f1 w K :=
  fn_sound pok Try.func85 (fn := Try.f85) (c := bodyOf Try.f85) (nt := 19) (by kernel_rfl) (by kernel_rfl) (rs := []) (by kernel_rfl) [] K (.seq .leaf (.blk (.loop [(4, (.int .i64))] (.seq (.seq .leaf (.cond .leaf .leaf)) (.seq (.blk (.seq .leaf (.cond .leaf .leaf))) .leaf))))) [a0, (Value.pointer (some f0)), (Value.pointer (some f1))] (by kernel_rfl) w ((e_be_digits_1 a0 f0 f1 w K).mpr h)

/-- slices.Reverse[[]int,int] -/
def s_slices_Reverse_int_int (a0 : SliceV) (w : World) (K : World → Prop) : Prop :=
 (LoopP (S := Int × Int × Unit) (fun s2 w3 next4 =>
 (bif (decide (s2.1 < s2.2.1)) then
 AtIx a0 1 s2.2.1 fun a5 =>
 Ld (.int .i64) w3.drew a5 fun x6 =>
 AtIx a0 1 s2.1 fun a7 =>
 Ld (.int .i64) w3.drew a7 fun x8 =>
 AtIx a0 1 s2.1 fun a9 =>
 St w3.drew a9 (Value.int .i64 x6) fun w10 =>
 AtIx a0 1 s2.2.1 fun a11 =>
 St w10 a11 (Value.int .i64 x8) fun w12 =>
 next4 ((IntKind.i64.wrap (s2.1 + 1)), (IntKind.i64.wrap (s2.2.1 - 1)), ()) w12
 else
 K w3)) (0, (IntKind.i64.wrap ((a0.len : Int) - 1)), ()) w)
theorem e_slices_Reverse_int_int (a0 : SliceV) (w : World) (K : World → Prop) : den Try.prog 28 (bodyOf Try.f86) none (.seq .leaf (.blk (.loop [(2, (.int .i64)), (3, (.int .i64))] (.seq (.seq .leaf (.cond .leaf .leaf)) (.seq (.blk .leaf) .leaf))))) (argEnv 0 [(Value.slice a0.a a0.len a0.cap)]) [] w (retK Try.prog [] [] K) = s_slices_Reverse_int_int a0 w K := by kernel_rfl
theorem ok_slices_Reverse_int_int {a0 w K} (h : s_slices_Reverse_int_int a0 w K) : c_slices_Reverse_int_int a0 w K :=
  fn_sound pok Try.func86 (fn := Try.f86) (c := bodyOf Try.f86) (nt := 28) (by kernel_rfl) (by kernel_rfl) (rs := []) (by kernel_rfl) [] K (.seq .leaf (.blk (.loop [(2, (.int .i64)), (3, (.int .i64))] (.seq (.seq .leaf (.cond .leaf .leaf)) (.seq (.blk .leaf) .leaf))))) [(Value.slice a0.a a0.len a0.cap)] (by kernel_rfl) w ((e_slices_Reverse_int_int a0 w K).mpr h)

end Go.Proofs
