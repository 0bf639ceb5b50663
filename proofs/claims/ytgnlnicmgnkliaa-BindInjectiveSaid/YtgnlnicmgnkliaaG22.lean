import Derived.Test.YtgnlnicmgnkliaaFn
import Derived.Test.YtgnlnicmgnkliaaProg
import Derived.KernelRfl
namespace Go.Proofs
open Gp
set_option maxRecDepth 100000
set_option maxHeartbeats 4000000
theorem pok : POk Try.prog := POk.of_all (by kernel_rfl) (by kernel_rfl)

/-- goosepond/goosepondlaw22.BindInjective -/
abbrev n_law22_BindInjective : FuncId := 3
def c_law22_BindInjective (a0 : SliceV) (w : World) (K : Bool → World → Prop) : Prop :=
  Calls Try.prog 3 ⟨[(Value.slice a0.a a0.len a0.cap)]⟩ w fun e w' => ∃ y132 : Bool, e = .returned (Value.bool y132) ∧ K y132 w'
theorem cm_law22_BindInjective {a0 w K K'} (h : c_law22_BindInjective a0 w K) (hk : ∀ x0 w', K x0 w' → K' x0 w') : c_law22_BindInjective a0 w K' :=
  Calls.mono h fun e w' hh => by obtain ⟨x0, he, hx⟩ := hh; exact ⟨x0, he, hk _ _ hx⟩

/-- goosepond/goosepondlaw22.BindLives -/
abbrev n_law22_BindLives : FuncId := 4
def c_law22_BindLives (a0 : Int) (a1 : SliceV) (w : World) (K : Bool → World → Prop) : Prop :=
  Calls Try.prog 4 ⟨[(Value.int .i64 a0), (Value.slice a1.a a1.len a1.cap)]⟩ w fun e w' => ∃ y144 : Bool, e = .returned (Value.bool y144) ∧ K y144 w'
theorem cm_law22_BindLives {a0 a1 w K K'} (h : c_law22_BindLives a0 a1 w K) (hk : ∀ x0 w', K x0 w' → K' x0 w') : c_law22_BindLives a0 a1 w K' :=
  Calls.mono h fun e w' hh => by obtain ⟨x0, he, hx⟩ := hh; exact ⟨x0, he, hk _ _ hx⟩

/-- goosepond/goosepondlaw22.BindNobody -/
abbrev n_law22_BindNobody : FuncId := 5
def c_law22_BindNobody (a0_0 : Int) (a0_1 : Int) (a0_2 : Int) (a0_3 : Int) (a0_4 : Int) (a0_5 : Int) (a0_6 : Int) (a0_7 : Bool) (a1 : Int) (w : World) (K : Bool → World → Prop) : Prop :=
  Calls Try.prog 5 ⟨[(Value.agg ⟨[(Value.int .i64 a0_0), (Value.int .i64 a0_1), (Value.int .i64 a0_2), (Value.int .i64 a0_3), (Value.int .i64 a0_4), (Value.int .i64 a0_5), (Value.int .i64 a0_6), (Value.bool a0_7)]⟩), (Value.int .i64 a1)]⟩ w fun e w' => ∃ y91 : Bool, e = .returned (Value.bool y91) ∧ K y91 w'
theorem cm_law22_BindNobody {a0_0 a0_1 a0_2 a0_3 a0_4 a0_5 a0_6 a0_7 a1 w K K'} (h : c_law22_BindNobody a0_0 a0_1 a0_2 a0_3 a0_4 a0_5 a0_6 a0_7 a1 w K) (hk : ∀ x0 w', K x0 w' → K' x0 w') : c_law22_BindNobody a0_0 a0_1 a0_2 a0_3 a0_4 a0_5 a0_6 a0_7 a1 w K' :=
  Calls.mono h fun e w' hh => by obtain ⟨x0, he, hx⟩ := hh; exact ⟨x0, he, hk _ _ hx⟩

/-- goosepond/goosepondlaw22.awake -/
abbrev n_law22_awake : FuncId := 9
def c_law22_awake  (w : World) (K : Bool → World → Prop) : Prop :=
  Calls Try.prog 9 ⟨[]⟩ w fun e w' => ∃ y38 : Bool, e = .returned (Value.bool y38) ∧ K y38 w'
theorem cm_law22_awake { w K K'} (h : c_law22_awake  w K) (hk : ∀ x0 w', K x0 w' → K' x0 w') : c_law22_awake  w K' :=
  Calls.mono h fun e w' hh => by obtain ⟨x0, he, hx⟩ := hh; exact ⟨x0, he, hk _ _ hx⟩

/-- goosepond/bind.New -/
abbrev n_bind_New : FuncId := 10
def c_bind_New (a0 : Int) (w : World) (K : (Option Addr) → Int → World → Prop) : Prop :=
  Calls Try.prog 10 ⟨[(Value.int .i64 a0)]⟩ w fun e w' => ∃ y16 : Option Addr, ∃ y17 : Int, e = .returned (Value.tuple ⟨[(Value.pointer y16), (Value.int .i64 y17)]⟩) ∧ K y16 y17 w'
theorem cm_bind_New {a0 w K K'} (h : c_bind_New a0 w K) (hk : ∀ x0 x1 w', K x0 x1 w' → K' x0 x1 w') : c_bind_New a0 w K' :=
  Calls.mono h fun e w' hh => by obtain ⟨x0, x1, he, hx⟩ := hh; exact ⟨x0, x1, he, hk _ _ _ hx⟩

/-- (*goosepond/bind.DB).Add -/
abbrev n_bind_DB_Add : FuncId := 11
def c_bind_DB_Add (a0 : Option Addr) (a1_0 : Int) (a1_1 : Int) (a1_2 : Int) (a1_3 : Int) (a1_4 : Int) (a1_5 : Int) (a1_6 : Int) (a1_7 : Bool) (w : World) (K : Int → Int → World → Prop) : Prop :=
  Calls Try.prog 11 ⟨[(Value.pointer a0), (Value.agg ⟨[(Value.int .i64 a1_0), (Value.int .i64 a1_1), (Value.int .i64 a1_2), (Value.int .i64 a1_3), (Value.int .i64 a1_4), (Value.int .i64 a1_5), (Value.int .i64 a1_6), (Value.bool a1_7)]⟩)]⟩ w fun e w' => ∃ y60 : Int, ∃ y61 : Int, e = .returned (Value.tuple ⟨[(Value.int .i64 y60), (Value.int .i64 y61)]⟩) ∧ K y60 y61 w'
theorem cm_bind_DB_Add {a0 a1_0 a1_1 a1_2 a1_3 a1_4 a1_5 a1_6 a1_7 w K K'} (h : c_bind_DB_Add a0 a1_0 a1_1 a1_2 a1_3 a1_4 a1_5 a1_6 a1_7 w K) (hk : ∀ x0 x1 w', K x0 x1 w' → K' x0 x1 w') : c_bind_DB_Add a0 a1_0 a1_1 a1_2 a1_3 a1_4 a1_5 a1_6 a1_7 w K' :=
  Calls.mono h fun e w' hh => by obtain ⟨x0, x1, he, hx⟩ := hh; exact ⟨x0, x1, he, hk _ _ _ hx⟩

/-- (*goosepond/bind.DB).Remove -/
abbrev n_bind_DB_Remove : FuncId := 12
def c_bind_DB_Remove (a0 : Option Addr) (a1 : Int) (w : World) (K : Bool → World → Prop) : Prop :=
  Calls Try.prog 12 ⟨[(Value.pointer a0), (Value.int .i64 a1)]⟩ w fun e w' => ∃ y47 : Bool, e = .returned (Value.bool y47) ∧ K y47 w'
theorem cm_bind_DB_Remove {a0 a1 w K K'} (h : c_bind_DB_Remove a0 a1 w K) (hk : ∀ x0 w', K x0 w' → K' x0 w') : c_bind_DB_Remove a0 a1 w K' :=
  Calls.mono h fun e w' hh => by obtain ⟨x0, he, hx⟩ := hh; exact ⟨x0, he, hk _ _ hx⟩

/-- (*goosepond/bind.DB).All -/
abbrev n_bind_DB_All : FuncId := 13
def c_bind_DB_All (a0 : Option Addr) (w : World) (K : Value → World → Prop) : Prop :=
  Calls Try.prog 13 ⟨[(Value.pointer a0)]⟩ w fun e w' => ∃ y4 : Value, e = .returned y4 ∧ K y4 w'
theorem cm_bind_DB_All {a0 w K K'} (h : c_bind_DB_All a0 w K) (hk : ∀ x0 w', K x0 w' → K' x0 w') : c_bind_DB_All a0 w K' :=
  Calls.mono h fun e w' hh => by obtain ⟨x0, he, hx⟩ := hh; exact ⟨x0, he, hk _ _ hx⟩

/-- (*goosepond/bind.DB).Find -/
abbrev n_bind_DB_Find : FuncId := 14
def c_bind_DB_Find (a0 : Option Addr) (a1_0 : Int) (a1_1 : Int) (a1_2 : Int) (a1_3 : Int) (w : World) (K : Int → Bool → World → Prop) : Prop :=
  Calls Try.prog 14 ⟨[(Value.pointer a0), (Value.agg ⟨[(Value.int .i64 a1_0), (Value.int .i64 a1_1), (Value.int .i64 a1_2), (Value.int .i64 a1_3)]⟩)]⟩ w fun e w' => ∃ y18 : Int, ∃ y19 : Bool, e = .returned (Value.tuple ⟨[(Value.int .i64 y18), (Value.bool y19)]⟩) ∧ K y18 y19 w'
theorem cm_bind_DB_Find {a0 a1_0 a1_1 a1_2 a1_3 w K K'} (h : c_bind_DB_Find a0 a1_0 a1_1 a1_2 a1_3 w K) (hk : ∀ x0 x1 w', K x0 x1 w' → K' x0 x1 w') : c_bind_DB_Find a0 a1_0 a1_1 a1_2 a1_3 w K' :=
  Calls.mono h fun e w' hh => by obtain ⟨x0, x1, he, hx⟩ := hh; exact ⟨x0, x1, he, hk _ _ _ hx⟩

/-- (*goosepond/bind.DB).Back -/
abbrev n_bind_DB_Back : FuncId := 15
def c_bind_DB_Back (a0 : Option Addr) (a1_0 : Int) (a1_1 : Int) (a1_2 : Int) (w : World) (K : Int → Bool → World → Prop) : Prop :=
  Calls Try.prog 15 ⟨[(Value.pointer a0), (Value.agg ⟨[(Value.int .i64 a1_0), (Value.int .i64 a1_1), (Value.int .i64 a1_2)]⟩)]⟩ w fun e w' => ∃ y17 : Int, ∃ y18 : Bool, e = .returned (Value.tuple ⟨[(Value.int .i64 y17), (Value.bool y18)]⟩) ∧ K y17 y18 w'
theorem cm_bind_DB_Back {a0 a1_0 a1_1 a1_2 w K K'} (h : c_bind_DB_Back a0 a1_0 a1_1 a1_2 w K) (hk : ∀ x0 x1 w', K x0 x1 w' → K' x0 x1 w') : c_bind_DB_Back a0 a1_0 a1_1 a1_2 w K' :=
  Calls.mono h fun e w' hh => by obtain ⟨x0, x1, he, hx⟩ := hh; exact ⟨x0, x1, he, hk _ _ _ hx⟩

/-- (*goosepond/bind.DB).Len -/
abbrev n_bind_DB_Len : FuncId := 16
def c_bind_DB_Len (a0 : Option Addr) (w : World) (K : Int → World → Prop) : Prop :=
  Calls Try.prog 16 ⟨[(Value.pointer a0)]⟩ w fun e w' => ∃ y6 : Int, e = .returned (Value.int .i64 y6) ∧ K y6 w'
theorem cm_bind_DB_Len {a0 w K K'} (h : c_bind_DB_Len a0 w K) (hk : ∀ x0 w', K x0 w' → K' x0 w') : c_bind_DB_Len a0 w K' :=
  Calls.mono h fun e w' hh => by obtain ⟨x0, he, hx⟩ := hh; exact ⟨x0, he, hk _ _ hx⟩

/-- goosepond/goosepondref22.New -/
abbrev n_ref22_New : FuncId := 17
def c_ref22_New (a0 : Int) (w : World) (K : (Option Addr) → Int → World → Prop) : Prop :=
  Calls Try.prog 17 ⟨[(Value.int .i64 a0)]⟩ w fun e w' => ∃ y6 : Option Addr, ∃ y7 : Int, e = .returned (Value.tuple ⟨[(Value.pointer y6), (Value.int .i64 y7)]⟩) ∧ K y6 y7 w'
theorem cm_ref22_New {a0 w K K'} (h : c_ref22_New a0 w K) (hk : ∀ x0 x1 w', K x0 x1 w' → K' x0 x1 w') : c_ref22_New a0 w K' :=
  Calls.mono h fun e w' hh => by obtain ⟨x0, x1, he, hx⟩ := hh; exact ⟨x0, x1, he, hk _ _ _ hx⟩

/-- (*goosepond/goosepondref22.DB).Add -/
abbrev n_ref22_DB_Add : FuncId := 18
def c_ref22_DB_Add (a0 : Option Addr) (a1_0 : Int) (a1_1 : Int) (a1_2 : Int) (a1_3 : Int) (a1_4 : Int) (a1_5 : Int) (a1_6 : Int) (a1_7 : Bool) (w : World) (K : Int → Int → World → Prop) : Prop :=
  Calls Try.prog 18 ⟨[(Value.pointer a0), (Value.agg ⟨[(Value.int .i64 a1_0), (Value.int .i64 a1_1), (Value.int .i64 a1_2), (Value.int .i64 a1_3), (Value.int .i64 a1_4), (Value.int .i64 a1_5), (Value.int .i64 a1_6), (Value.bool a1_7)]⟩)]⟩ w fun e w' => ∃ y69 : Int, ∃ y70 : Int, e = .returned (Value.tuple ⟨[(Value.int .i64 y69), (Value.int .i64 y70)]⟩) ∧ K y69 y70 w'
theorem cm_ref22_DB_Add {a0 a1_0 a1_1 a1_2 a1_3 a1_4 a1_5 a1_6 a1_7 w K K'} (h : c_ref22_DB_Add a0 a1_0 a1_1 a1_2 a1_3 a1_4 a1_5 a1_6 a1_7 w K) (hk : ∀ x0 x1 w', K x0 x1 w' → K' x0 x1 w') : c_ref22_DB_Add a0 a1_0 a1_1 a1_2 a1_3 a1_4 a1_5 a1_6 a1_7 w K' :=
  Calls.mono h fun e w' hh => by obtain ⟨x0, x1, he, hx⟩ := hh; exact ⟨x0, x1, he, hk _ _ _ hx⟩

/-- (*goosepond/goosepondref22.DB).Remove -/
abbrev n_ref22_DB_Remove : FuncId := 19
def c_ref22_DB_Remove (a0 : Option Addr) (a1 : Int) (w : World) (K : Bool → World → Prop) : Prop :=
  Calls Try.prog 19 ⟨[(Value.pointer a0), (Value.int .i64 a1)]⟩ w fun e w' => ∃ y35 : Bool, e = .returned (Value.bool y35) ∧ K y35 w'
theorem cm_ref22_DB_Remove {a0 a1 w K K'} (h : c_ref22_DB_Remove a0 a1 w K) (hk : ∀ x0 w', K x0 w' → K' x0 w') : c_ref22_DB_Remove a0 a1 w K' :=
  Calls.mono h fun e w' hh => by obtain ⟨x0, he, hx⟩ := hh; exact ⟨x0, he, hk _ _ hx⟩

/-- (*goosepond/bind.DB).Get -/
abbrev n_bind_DB_Get : FuncId := 20
def c_bind_DB_Get (a0 : Option Addr) (a1 : Int) (w : World) (K : Int → Int → Int → Int → Int → Int → Int → Bool → Bool → World → Prop) : Prop :=
  Calls Try.prog 20 ⟨[(Value.pointer a0), (Value.int .i64 a1)]⟩ w fun e w' => ∃ y36 : Int, ∃ y37 : Int, ∃ y38 : Int, ∃ y39 : Int, ∃ y40 : Int, ∃ y41 : Int, ∃ y42 : Int, ∃ y43 : Bool, ∃ y44 : Bool, e = .returned (Value.tuple ⟨[(Value.agg ⟨[(Value.int .i64 y36), (Value.int .i64 y37), (Value.int .i64 y38), (Value.int .i64 y39), (Value.int .i64 y40), (Value.int .i64 y41), (Value.int .i64 y42), (Value.bool y43)]⟩), (Value.bool y44)]⟩) ∧ K y36 y37 y38 y39 y40 y41 y42 y43 y44 w'
theorem cm_bind_DB_Get {a0 a1 w K K'} (h : c_bind_DB_Get a0 a1 w K) (hk : ∀ x0 x1 x2 x3 x4 x5 x6 x7 x8 w', K x0 x1 x2 x3 x4 x5 x6 x7 x8 w' → K' x0 x1 x2 x3 x4 x5 x6 x7 x8 w') : c_bind_DB_Get a0 a1 w K' :=
  Calls.mono h fun e w' hh => by obtain ⟨x0, x1, x2, x3, x4, x5, x6, x7, x8, he, hx⟩ := hh; exact ⟨x0, x1, x2, x3, x4, x5, x6, x7, x8, he, hk _ _ _ _ _ _ _ _ _ _ hx⟩

/-- (*goosepond/goosepondref22.DB).Get -/
abbrev n_ref22_DB_Get : FuncId := 21
def c_ref22_DB_Get (a0 : Option Addr) (a1 : Int) (w : World) (K : Int → Int → Int → Int → Int → Int → Int → Bool → Bool → World → Prop) : Prop :=
  Calls Try.prog 21 ⟨[(Value.pointer a0), (Value.int .i64 a1)]⟩ w fun e w' => ∃ y43 : Int, ∃ y44 : Int, ∃ y45 : Int, ∃ y46 : Int, ∃ y47 : Int, ∃ y48 : Int, ∃ y49 : Int, ∃ y50 : Bool, ∃ y51 : Bool, e = .returned (Value.tuple ⟨[(Value.agg ⟨[(Value.int .i64 y43), (Value.int .i64 y44), (Value.int .i64 y45), (Value.int .i64 y46), (Value.int .i64 y47), (Value.int .i64 y48), (Value.int .i64 y49), (Value.bool y50)]⟩), (Value.bool y51)]⟩) ∧ K y43 y44 y45 y46 y47 y48 y49 y50 y51 w'
theorem cm_ref22_DB_Get {a0 a1 w K K'} (h : c_ref22_DB_Get a0 a1 w K) (hk : ∀ x0 x1 x2 x3 x4 x5 x6 x7 x8 w', K x0 x1 x2 x3 x4 x5 x6 x7 x8 w' → K' x0 x1 x2 x3 x4 x5 x6 x7 x8 w') : c_ref22_DB_Get a0 a1 w K' :=
  Calls.mono h fun e w' hh => by obtain ⟨x0, x1, x2, x3, x4, x5, x6, x7, x8, he, hx⟩ := hh; exact ⟨x0, x1, x2, x3, x4, x5, x6, x7, x8, he, hk _ _ _ _ _ _ _ _ _ _ hx⟩

/-- (*goosepond/goosepondref22.DB).Find -/
abbrev n_ref22_DB_Find : FuncId := 22
def c_ref22_DB_Find (a0 : Option Addr) (a1_0 : Int) (a1_1 : Int) (a1_2 : Int) (a1_3 : Int) (w : World) (K : Int → Bool → World → Prop) : Prop :=
  Calls Try.prog 22 ⟨[(Value.pointer a0), (Value.agg ⟨[(Value.int .i64 a1_0), (Value.int .i64 a1_1), (Value.int .i64 a1_2), (Value.int .i64 a1_3)]⟩)]⟩ w fun e w' => ∃ y25 : Int, ∃ y26 : Bool, e = .returned (Value.tuple ⟨[(Value.int .i64 y25), (Value.bool y26)]⟩) ∧ K y25 y26 w'
theorem cm_ref22_DB_Find {a0 a1_0 a1_1 a1_2 a1_3 w K K'} (h : c_ref22_DB_Find a0 a1_0 a1_1 a1_2 a1_3 w K) (hk : ∀ x0 x1 w', K x0 x1 w' → K' x0 x1 w') : c_ref22_DB_Find a0 a1_0 a1_1 a1_2 a1_3 w K' :=
  Calls.mono h fun e w' hh => by obtain ⟨x0, x1, he, hx⟩ := hh; exact ⟨x0, x1, he, hk _ _ _ hx⟩

/-- (*goosepond/goosepondref22.DB).Back -/
abbrev n_ref22_DB_Back : FuncId := 23
def c_ref22_DB_Back (a0 : Option Addr) (a1_0 : Int) (a1_1 : Int) (a1_2 : Int) (w : World) (K : Int → Bool → World → Prop) : Prop :=
  Calls Try.prog 23 ⟨[(Value.pointer a0), (Value.agg ⟨[(Value.int .i64 a1_0), (Value.int .i64 a1_1), (Value.int .i64 a1_2)]⟩)]⟩ w fun e w' => ∃ y23 : Int, ∃ y24 : Bool, e = .returned (Value.tuple ⟨[(Value.int .i64 y23), (Value.bool y24)]⟩) ∧ K y23 y24 w'
theorem cm_ref22_DB_Back {a0 a1_0 a1_1 a1_2 w K K'} (h : c_ref22_DB_Back a0 a1_0 a1_1 a1_2 w K) (hk : ∀ x0 x1 w', K x0 x1 w' → K' x0 x1 w') : c_ref22_DB_Back a0 a1_0 a1_1 a1_2 w K' :=
  Calls.mono h fun e w' hh => by obtain ⟨x0, x1, he, hx⟩ := hh; exact ⟨x0, x1, he, hk _ _ _ hx⟩

/-- goosepond/goosepondlaw22.same -/
abbrev n_law22_same : FuncId := 24
def c_law22_same (a0 : Option Addr) (a1 : Option Addr) (w : World) (K : Bool → World → Prop) : Prop :=
  Calls Try.prog 24 ⟨[(Value.pointer a0), (Value.pointer a1)]⟩ w fun e w' => ∃ y71 : Bool, e = .returned (Value.bool y71) ∧ K y71 w'
theorem cm_law22_same {a0 a1 w K K'} (h : c_law22_same a0 a1 w K) (hk : ∀ x0 w', K x0 w' → K' x0 w') : c_law22_same a0 a1 w K' :=
  Calls.mono h fun e w' hh => by obtain ⟨x0, he, hx⟩ := hh; exact ⟨x0, he, hk _ _ hx⟩

/-- goosepond/hash.New -/
abbrev n_hash_New : FuncId := 42
def c_hash_New (a0 : Int) (w : World) (K : (Option Addr) → Int → World → Prop) : Prop :=
  Calls Try.prog 42 ⟨[(Value.int .i64 a0)]⟩ w fun e w' => ∃ y6 : Option Addr, ∃ y7 : Int, e = .returned (Value.tuple ⟨[(Value.pointer y6), (Value.int .i64 y7)]⟩) ∧ K y6 y7 w'
theorem cm_hash_New {a0 w K K'} (h : c_hash_New a0 w K) (hk : ∀ x0 x1 w', K x0 x1 w' → K' x0 x1 w') : c_hash_New a0 w K' :=
  Calls.mono h fun e w' hh => by obtain ⟨x0, x1, he, hx⟩ := hh; exact ⟨x0, x1, he, hk _ _ _ hx⟩

/-- (*goosepond/bind.DB).ready -/
abbrev n_bind_DB_ready : FuncId := 43
def c_bind_DB_ready (a0 : Option Addr) (w : World) (K : Bool → World → Prop) : Prop :=
  Calls Try.prog 43 ⟨[(Value.pointer a0)]⟩ w fun e w' => ∃ y6 : Bool, e = .returned (Value.bool y6) ∧ K y6 w'
theorem cm_bind_DB_ready {a0 w K K'} (h : c_bind_DB_ready a0 w K) (hk : ∀ x0 w', K x0 w' → K' x0 w') : c_bind_DB_ready a0 w K' :=
  Calls.mono h fun e w' hh => by obtain ⟨x0, he, hx⟩ := hh; exact ⟨x0, he, hk _ _ hx⟩

/-- (*goosepond/bind.DB).free -/
abbrev n_bind_DB_free : FuncId := 44
def c_bind_DB_free (a0 : Option Addr) (w : World) (K : Int → Bool → World → Prop) : Prop :=
  Calls Try.prog 44 ⟨[(Value.pointer a0)]⟩ w fun e w' => ∃ y11 : Int, ∃ y12 : Bool, e = .returned (Value.tuple ⟨[(Value.int .i64 y11), (Value.bool y12)]⟩) ∧ K y11 y12 w'
theorem cm_bind_DB_free {a0 w K K'} (h : c_bind_DB_free a0 w K) (hk : ∀ x0 x1 w', K x0 x1 w' → K' x0 x1 w') : c_bind_DB_free a0 w K' :=
  Calls.mono h fun e w' hh => by obtain ⟨x0, x1, he, hx⟩ := hh; exact ⟨x0, x1, he, hk _ _ _ hx⟩

/-- (*goosepond/hash.Table).Put -/
abbrev n_hash_Table_Put : FuncId := 45
def c_hash_Table_Put (a0 : Option Addr) (a1 : ByteArray) (a2 : Int) (w : World) (K : Int → World → Prop) : Prop :=
  Calls Try.prog 45 ⟨[(Value.pointer a0), (Value.string a1), (Value.int .i64 a2)]⟩ w fun e w' => ∃ y29 : Int, e = .returned (Value.int .i64 y29) ∧ K y29 w'
theorem cm_hash_Table_Put {a0 a1 a2 w K K'} (h : c_hash_Table_Put a0 a1 a2 w K) (hk : ∀ x0 w', K x0 w' → K' x0 w') : c_hash_Table_Put a0 a1 a2 w K' :=
  Calls.mono h fun e w' hh => by obtain ⟨x0, he, hx⟩ := hh; exact ⟨x0, he, hk _ _ hx⟩

/-- goosepond/bind.innerKey -/
abbrev n_bind_innerKey : FuncId := 46
def c_bind_innerKey (a0_0 : Int) (a0_1 : Int) (a0_2 : Int) (a0_3 : Int) (w : World) (K : ByteArray → World → Prop) : Prop :=
  Calls Try.prog 46 ⟨[(Value.agg ⟨[(Value.int .i64 a0_0), (Value.int .i64 a0_1), (Value.int .i64 a0_2), (Value.int .i64 a0_3)]⟩)]⟩ w fun e w' => ∃ y12 : ByteArray, e = .returned (Value.string y12) ∧ K y12 w'
theorem cm_bind_innerKey {a0_0 a0_1 a0_2 a0_3 w K K'} (h : c_bind_innerKey a0_0 a0_1 a0_2 a0_3 w K) (hk : ∀ x0 w', K x0 w' → K' x0 w') : c_bind_innerKey a0_0 a0_1 a0_2 a0_3 w K' :=
  Calls.mono h fun e w' hh => by obtain ⟨x0, he, hx⟩ := hh; exact ⟨x0, he, hk _ _ hx⟩

/-- goosepond/bind.outerKey -/
abbrev n_bind_outerKey : FuncId := 47
def c_bind_outerKey (a0_0 : Int) (a0_1 : Int) (a0_2 : Int) (w : World) (K : ByteArray → World → Prop) : Prop :=
  Calls Try.prog 47 ⟨[(Value.agg ⟨[(Value.int .i64 a0_0), (Value.int .i64 a0_1), (Value.int .i64 a0_2)]⟩)]⟩ w fun e w' => ∃ y11 : ByteArray, e = .returned (Value.string y11) ∧ K y11 w'
theorem cm_bind_outerKey {a0_0 a0_1 a0_2 w K K'} (h : c_bind_outerKey a0_0 a0_1 a0_2 w K) (hk : ∀ x0 w', K x0 w' → K' x0 w') : c_bind_outerKey a0_0 a0_1 a0_2 w K' :=
  Calls.mono h fun e w' hh => by obtain ⟨x0, he, hx⟩ := hh; exact ⟨x0, he, hk _ _ hx⟩

/-- (*goosepond/bind.DB).has -/
abbrev n_bind_DB_has : FuncId := 48
def c_bind_DB_has (a0 : Option Addr) (a1 : Int) (w : World) (K : Bool → World → Prop) : Prop :=
  Calls Try.prog 48 ⟨[(Value.pointer a0), (Value.int .i64 a1)]⟩ w fun e w' => ∃ y14 : Bool, e = .returned (Value.bool y14) ∧ K y14 w'
theorem cm_bind_DB_has {a0 a1 w K K'} (h : c_bind_DB_has a0 a1 w K) (hk : ∀ x0 w', K x0 w' → K' x0 w') : c_bind_DB_has a0 a1 w K' :=
  Calls.mono h fun e w' hh => by obtain ⟨x0, he, hx⟩ := hh; exact ⟨x0, he, hk _ _ hx⟩

/-- (*goosepond/hash.Table).Delete -/
abbrev n_hash_Table_Delete : FuncId := 49
def c_hash_Table_Delete (a0 : Option Addr) (a1 : ByteArray) (w : World) (K : Bool → World → Prop) : Prop :=
  Calls Try.prog 49 ⟨[(Value.pointer a0), (Value.string a1)]⟩ w fun e w' => ∃ y68 : Bool, e = .returned (Value.bool y68) ∧ K y68 w'
theorem cm_hash_Table_Delete {a0 a1 w K K'} (h : c_hash_Table_Delete a0 a1 w K) (hk : ∀ x0 w', K x0 w' → K' x0 w') : c_hash_Table_Delete a0 a1 w K' :=
  Calls.mono h fun e w' hh => by obtain ⟨x0, he, hx⟩ := hh; exact ⟨x0, he, hk _ _ hx⟩

/-- (*goosepond/bind.DB).All$1 -/
abbrev n_bind_DB_All_1 : FuncId := 50
def c_bind_DB_All_1 (a0 : Value) (f0 : Addr) (w : World) (K : World → Prop) : Prop :=
  Calls Try.prog 50 ⟨[a0, (Value.pointer (some f0))]⟩ w fun e w' => e = .returned (Value.tuple ⟨[]⟩) ∧ K w'
theorem cm_bind_DB_All_1 {a0 f0 w K K'} (h : c_bind_DB_All_1 a0 f0 w K) (hk : ∀  w', K  w' → K'  w') : c_bind_DB_All_1 a0 f0 w K' :=
  Calls.mono h fun e w' hh => by obtain ⟨he, hx⟩ := hh; exact ⟨he, hk  _ hx⟩

/-- (*goosepond/hash.Table).Get -/
abbrev n_hash_Table_Get : FuncId := 51
def c_hash_Table_Get (a0 : Option Addr) (a1 : ByteArray) (w : World) (K : Int → Bool → World → Prop) : Prop :=
  Calls Try.prog 51 ⟨[(Value.pointer a0), (Value.string a1)]⟩ w fun e w' => ∃ y12 : Int, ∃ y13 : Bool, e = .returned (Value.tuple ⟨[(Value.int .i64 y12), (Value.bool y13)]⟩) ∧ K y12 y13 w'
theorem cm_hash_Table_Get {a0 a1 w K K'} (h : c_hash_Table_Get a0 a1 w K) (hk : ∀ x0 x1 w', K x0 x1 w' → K' x0 x1 w') : c_hash_Table_Get a0 a1 w K' :=
  Calls.mono h fun e w' hh => by obtain ⟨x0, x1, he, hx⟩ := hh; exact ⟨x0, x1, he, hk _ _ _ hx⟩

/-- (*goosepond/hash.Table).ready -/
abbrev n_hash_Table_ready : FuncId := 65
def c_hash_Table_ready (a0 : Option Addr) (w : World) (K : Bool → World → Prop) : Prop :=
  Calls Try.prog 65 ⟨[(Value.pointer a0)]⟩ w fun e w' => ∃ y6 : Bool, e = .returned (Value.bool y6) ∧ K y6 w'
theorem cm_hash_Table_ready {a0 w K K'} (h : c_hash_Table_ready a0 w K) (hk : ∀ x0 w', K x0 w' → K' x0 w') : c_hash_Table_ready a0 w K' :=
  Calls.mono h fun e w' hh => by obtain ⟨x0, he, hx⟩ := hh; exact ⟨x0, he, hk _ _ hx⟩

/-- (*goosepond/hash.Table).find -/
abbrev n_hash_Table_find : FuncId := 66
def c_hash_Table_find (a0 : Option Addr) (a1 : ByteArray) (w : World) (K : Int → Bool → World → Prop) : Prop :=
  Calls Try.prog 66 ⟨[(Value.pointer a0), (Value.string a1)]⟩ w fun e w' => ∃ y56 : Int, ∃ y57 : Bool, e = .returned (Value.tuple ⟨[(Value.int .i64 y56), (Value.bool y57)]⟩) ∧ K y56 y57 w'
theorem cm_hash_Table_find {a0 a1 w K K'} (h : c_hash_Table_find a0 a1 w K) (hk : ∀ x0 x1 w', K x0 x1 w' → K' x0 x1 w') : c_hash_Table_find a0 a1 w K' :=
  Calls.mono h fun e w' hh => by obtain ⟨x0, x1, he, hx⟩ := hh; exact ⟨x0, x1, he, hk _ _ _ hx⟩

/-- (*goosepond/hash.Table).grow -/
abbrev n_hash_Table_grow : FuncId := 67
def c_hash_Table_grow (a0 : Option Addr) (w : World) (K : World → Prop) : Prop :=
  Calls Try.prog 67 ⟨[(Value.pointer a0)]⟩ w fun e w' => e = .returned (Value.tuple ⟨[]⟩) ∧ K w'
theorem cm_hash_Table_grow {a0 w K K'} (h : c_hash_Table_grow a0 w K) (hk : ∀  w', K  w' → K'  w') : c_hash_Table_grow a0 w K' :=
  Calls.mono h fun e w' hh => by obtain ⟨he, hx⟩ := hh; exact ⟨he, hk  _ hx⟩

/-- goosepond/bind.key -/
abbrev n_bind_key : FuncId := 68
def c_bind_key (a0 : SliceV) (w : World) (K : ByteArray → World → Prop) : Prop :=
  Calls Try.prog 68 ⟨[(Value.slice a0.a a0.len a0.cap)]⟩ w fun e w' => ∃ y12 : ByteArray, e = .returned (Value.string y12) ∧ K y12 w'
theorem cm_bind_key {a0 w K K'} (h : c_bind_key a0 w K) (hk : ∀ x0 w', K x0 w' → K' x0 w') : c_bind_key a0 w K' :=
  Calls.mono h fun e w' hh => by obtain ⟨x0, he, hx⟩ := hh; exact ⟨x0, he, hk _ _ hx⟩

/-- (*goosepond/hash.Table).walk -/
abbrev n_hash_Table_walk : FuncId := 69
def c_hash_Table_walk (a0 : Option Addr) (a1 : Int) (w : World) (K : Value → World → Prop) : Prop :=
  Calls Try.prog 69 ⟨[(Value.pointer a0), (Value.int .i64 a1)]⟩ w fun e w' => ∃ y7 : Value, e = .returned y7 ∧ K y7 w'
theorem cm_hash_Table_walk {a0 a1 w K K'} (h : c_hash_Table_walk a0 a1 w K) (hk : ∀ x0 w', K x0 w' → K' x0 w') : c_hash_Table_walk a0 a1 w K' :=
  Calls.mono h fun e w' hh => by obtain ⟨x0, he, hx⟩ := hh; exact ⟨x0, he, hk _ _ hx⟩

/-- goosepond/be.Put -/
abbrev n_be_Put : FuncId := 70
def c_be_Put (a0 : SliceV) (a1 : Int) (a2 : Int) (w : World) (K : SliceV → World → Prop) : Prop :=
  Calls Try.prog 70 ⟨[(Value.slice a0.a a0.len a0.cap), (Value.int .i64 a1), (Value.int .i64 a2)]⟩ w fun e w' => ∃ y12 : SliceV, e = .returned (Value.slice y12.a y12.len y12.cap) ∧ K y12 w'
theorem cm_be_Put {a0 a1 a2 w K K'} (h : c_be_Put a0 a1 a2 w K) (hk : ∀ x0 w', K x0 w' → K' x0 w') : c_be_Put a0 a1 a2 w K' :=
  Calls.mono h fun e w' hh => by obtain ⟨x0, he, hx⟩ := hh; exact ⟨x0, he, hk _ _ hx⟩

/-- goosepond/hash.home -/
abbrev n_hash_home : FuncId := 76
def c_hash_home (a0 : ByteArray) (a1 : Int) (w : World) (K : Int → World → Prop) : Prop :=
  Calls Try.prog 76 ⟨[(Value.string a0), (Value.int .i64 a1)]⟩ w fun e w' => ∃ y7 : Int, e = .returned (Value.int .i64 y7) ∧ K y7 w'
theorem cm_hash_home {a0 a1 w K K'} (h : c_hash_home a0 a1 w K) (hk : ∀ x0 w', K x0 w' → K' x0 w') : c_hash_home a0 a1 w K' :=
  Calls.mono h fun e w' hh => by obtain ⟨x0, he, hx⟩ := hh; exact ⟨x0, he, hk _ _ hx⟩

/-- (*goosepond/hash.Table).walk$1 -/
abbrev n_hash_Table_walk_1 : FuncId := 77
def c_hash_Table_walk_1 (a0 : Value) (f0 : Addr) (f1 : Addr) (w : World) (K : World → Prop) : Prop :=
  Calls Try.prog 77 ⟨[a0, (Value.pointer (some f0)), (Value.pointer (some f1))]⟩ w fun e w' => e = .returned (Value.tuple ⟨[]⟩) ∧ K w'
theorem cm_hash_Table_walk_1 {a0 f0 f1 w K K'} (h : c_hash_Table_walk_1 a0 f0 f1 w K) (hk : ∀  w', K  w' → K'  w') : c_hash_Table_walk_1 a0 f0 f1 w K' :=
  Calls.mono h fun e w' hh => by obtain ⟨he, hx⟩ := hh; exact ⟨he, hk  _ hx⟩

/-- slices.Clone[[]byte,byte] -/
abbrev n_slices_Clone_byte_byte : FuncId := 78
def c_slices_Clone_byte_byte (a0 : SliceV) (w : World) (K : SliceV → World → Prop) : Prop :=
  Calls Try.prog 78 ⟨[(Value.slice a0.a a0.len a0.cap)]⟩ w fun e w' => ∃ y6 : SliceV, e = .returned (Value.slice y6.a y6.len y6.cap) ∧ K y6 w'
theorem cm_slices_Clone_byte_byte {a0 w K K'} (h : c_slices_Clone_byte_byte a0 w K) (hk : ∀ x0 w', K x0 w' → K' x0 w') : c_slices_Clone_byte_byte a0 w K' :=
  Calls.mono h fun e w' hh => by obtain ⟨x0, he, hx⟩ := hh; exact ⟨x0, he, hk _ _ hx⟩

/-- goosepond/be.Fits -/
abbrev n_be_Fits : FuncId := 79
def c_be_Fits (a0 : Int) (a1 : Int) (w : World) (K : Bool → World → Prop) : Prop :=
  Calls Try.prog 79 ⟨[(Value.int .i64 a0), (Value.int .i64 a1)]⟩ w fun e w' => ∃ y8 : Bool, e = .returned (Value.bool y8) ∧ K y8 w'
theorem cm_be_Fits {a0 a1 w K K'} (h : c_be_Fits a0 a1 w K) (hk : ∀ x0 w', K x0 w' → K' x0 w') : c_be_Fits a0 a1 w K' :=
  Calls.mono h fun e w' hh => by obtain ⟨x0, he, hx⟩ := hh; exact ⟨x0, he, hk _ _ hx⟩

/-- slices.AppendSeq[[]byte,byte] -/
abbrev n_slices_AppendSeq_byte_byte : FuncId := 80
def c_slices_AppendSeq_byte_byte (a0 : SliceV) (a1 : Value) (w : World) (K : SliceV → World → Prop) : Prop :=
  Calls Try.prog 80 ⟨[(Value.slice a0.a a0.len a0.cap), a1]⟩ w fun e w' => ∃ y18 : SliceV, e = .returned (Value.slice y18.a y18.len y18.cap) ∧ K y18 w'
theorem cm_slices_AppendSeq_byte_byte {a0 a1 w K K'} (h : c_slices_AppendSeq_byte_byte a0 a1 w K) (hk : ∀ x0 w', K x0 w' → K' x0 w') : c_slices_AppendSeq_byte_byte a0 a1 w K' :=
  Calls.mono h fun e w' hh => by obtain ⟨x0, he, hx⟩ := hh; exact ⟨x0, he, hk _ _ hx⟩

/-- goosepond/be.digits -/
abbrev n_be_digits : FuncId := 81
def c_be_digits (a0 : Int) (a1 : Int) (w : World) (K : Value → World → Prop) : Prop :=
  Calls Try.prog 81 ⟨[(Value.int .i64 a0), (Value.int .i64 a1)]⟩ w fun e w' => ∃ y7 : Value, e = .returned y7 ∧ K y7 w'
theorem cm_be_digits {a0 a1 w K K'} (h : c_be_digits a0 a1 w K) (hk : ∀ x0 w', K x0 w' → K' x0 w') : c_be_digits a0 a1 w K' :=
  Calls.mono h fun e w' hh => by obtain ⟨x0, he, hx⟩ := hh; exact ⟨x0, he, hk _ _ hx⟩

/-- goosepond/be.right -/
abbrev n_be_right : FuncId := 84
def c_be_right (a0 : Int) (w : World) (K : Bool → World → Prop) : Prop :=
  Calls Try.prog 84 ⟨[(Value.int .i64 a0)]⟩ w fun e w' => ∃ y4 : Bool, e = .returned (Value.bool y4) ∧ K y4 w'
theorem cm_be_right {a0 w K K'} (h : c_be_right a0 w K) (hk : ∀ x0 w', K x0 w' → K' x0 w') : c_be_right a0 w K' :=
  Calls.mono h fun e w' hh => by obtain ⟨x0, he, hx⟩ := hh; exact ⟨x0, he, hk _ _ hx⟩

/-- goosepond/be.digits$1 -/
abbrev n_be_digits_1 : FuncId := 85
def c_be_digits_1 (a0 : Value) (f0 : Addr) (f1 : Addr) (w : World) (K : World → Prop) : Prop :=
  Calls Try.prog 85 ⟨[a0, (Value.pointer (some f0)), (Value.pointer (some f1))]⟩ w fun e w' => e = .returned (Value.tuple ⟨[]⟩) ∧ K w'
theorem cm_be_digits_1 {a0 f0 f1 w K K'} (h : c_be_digits_1 a0 f0 f1 w K) (hk : ∀  w', K  w' → K'  w') : c_be_digits_1 a0 f0 f1 w K' :=
  Calls.mono h fun e w' hh => by obtain ⟨he, hx⟩ := hh; exact ⟨he, hk  _ hx⟩

/-- goosepond/goosepondlaw22.BindInjective -/
def s_law22_BindInjective (a0 : SliceV) (w : World) (K : Bool → World → Prop) : Prop :=
 (Al w (.cells ⟨[(Value.bool false)]⟩ 4) fun a3 w2 =>
 c_law22_awake  w2 fun r4 w5 =>
 (bif (!r4) then
 St w5 a3 (Value.bool false) fun w6 =>
 Ld .bool w6 a3 fun y7 =>
 K y7 w6
 else
 c_bind_New 50 w5 fun r8 r9 w10 =>
 Al w10 (.cells ⟨[(Value.pointer none)]⟩ 24) fun a12 w11 =>
 St w11 a12 (Value.pointer r8) fun w13 =>
 let J14 : Bool → Prop := fun j15 =>
 ((bif j15 then
 St w13 a3 (Value.bool false) fun w16 =>
 Ld .bool w16 a3 fun y17 =>
 K y17 w16
 else
 let J18 : World → Prop := fun w19 =>
 (Al w19 (.map #[] 0) fun a21 w20 =>
 Al w20 (.map #[] 0) fun a23 w22 =>
 Al w22 (.cells ⟨[(Value.map none)]⟩ 39) fun a25 w24 =>
 Al w24 (.cells ⟨[(Value.map none)]⟩ 40) fun a27 w26 =>
 St w26 a25 (Value.map (some w19.heap.size)) fun w28 =>
 St w28 a27 (Value.map (some w20.heap.size)) fun w29 =>
 Ld .ptr w29 a12 fun x30 =>
 c_bind_DB_All x30 w29 fun r31 w32 =>
 RngP Try.prog none [.one (.int .i64), .agg [(.int .i64), (.int .i64), (.int .i64), (.int .i64), (.int .i64), (.int .i64), (.int .i64), .bool]] r31 w32 (fun l33 x34 W35 Kb36 =>
 Al W35 (.cells ⟨[(Value.int .i64 0), (Value.int .i64 0), (Value.int .i64 0), (Value.int .i64 0), (Value.int .i64 0), (Value.int .i64 0), (Value.int .i64 0), (Value.bool false)]⟩ 33) fun a38 w37 =>
 StN [(Value.int .i64 x34.2.1.1), (Value.int .i64 x34.2.1.2.1), (Value.int .i64 x34.2.1.2.2.1), (Value.int .i64 x34.2.1.2.2.2.1), (Value.int .i64 x34.2.1.2.2.2.2.1), (Value.int .i64 x34.2.1.2.2.2.2.2.1), (Value.int .i64 x34.2.1.2.2.2.2.2.2.1), (Value.bool x34.2.1.2.2.2.2.2.2.2.1)] w37 a38 0 fun w39 =>
 w39.heap[l33]? = W35.heap[l33]? ∧
 Ld .ptr (busyW w39 l33) a12 fun x40 =>
 Ld (.int .i64) (busyW w39 l33) (a38.add 0) fun x41 =>
 Ld (.int .i64) (busyW w39 l33) (a38.add 1) fun x42 =>
 Ld (.int .i64) (busyW w39 l33) (a38.add 2) fun x43 =>
 Ld (.int .i64) (busyW w39 l33) (a38.add 3) fun x44 =>
 c_bind_DB_Find x40 x41 x42 x43 x44 (busyW w39 l33) fun r45 r46 w47 =>
 Ld .ptr w47 a12 fun x48 =>
 Ld (.int .i64) w47 ((a38.add 4).add 0) fun x49 =>
 Ld (.int .i64) w47 ((a38.add 4).add 1) fun x50 =>
 Ld (.int .i64) w47 ((a38.add 4).add 2) fun x51 =>
 c_bind_DB_Back x48 x49 x50 x51 w47 fun r52 r53 w54 =>
 let J55 : Bool → Prop := fun j56 =>
 ((bif j56 then
 St w54 a3 (Value.bool false) fun w57 =>
 Kb36 .ret w57
 else
 Ld .map w54.drew a25 fun x58 =>
 Ld (.int .i64) w54.drew (a38.add 0) fun x59 =>
 Ld (.int .i64) w54.drew (a38.add 1) fun x60 =>
 Ld (.int .i64) w54.drew (a38.add 2) fun x61 =>
 Ld (.int .i64) w54.drew (a38.add 3) fun x62 =>
 Ld .map w54.drew a27 fun x63 =>
 Ld (.int .i64) w54.drew ((a38.add 4).add 0) fun x64 =>
 Ld (.int .i64) w54.drew ((a38.add 4).add 1) fun x65 =>
 Ld (.int .i64) w54.drew ((a38.add 4).add 2) fun x66 =>
 MapSet Try.prog 29 x58 (Value.agg ⟨[(Value.int .i64 x59), (Value.int .i64 x60), (Value.int .i64 x61), (Value.int .i64 x62)]⟩) (Value.bool true) w54.drew fun w67 =>
 w67.cell? ((a38.add 4).add 0) = some (Value.int .i64 x64) ∧
 w67.cell? ((a38.add 4).add 1) = some (Value.int .i64 x65) ∧
 w67.cell? ((a38.add 4).add 2) = some (Value.int .i64 x66) ∧
 w67.cell? a27 = some (Value.map x63) ∧
 MapSet Try.prog 31 x63 (Value.agg ⟨[(Value.int .i64 x64), (Value.int .i64 x65), (Value.int .i64 x66)]⟩) (Value.bool true) w67 fun w68 =>
 Kb36 .normal w68))
 Ld .map w54 a25 fun x69 =>
 Ld (.int .i64) w54 (a38.add 0) fun x70 =>
 Ld (.int .i64) w54 (a38.add 1) fun x71 =>
 Ld (.int .i64) w54 (a38.add 2) fun x72 =>
 Ld (.int .i64) w54 (a38.add 3) fun x73 =>
 MapGet Try.prog 29 .bool x69 (Value.agg ⟨[(Value.int .i64 x70), (Value.int .i64 x71), (Value.int .i64 x72), (Value.int .i64 x73)]⟩) (Value.bool false) w54 fun x74 =>
 (bif x74 then
 J55 true
 else
 Ld .map w54 a27 fun x75 =>
 Ld (.int .i64) w54 ((a38.add 4).add 0) fun x76 =>
 Ld (.int .i64) w54 ((a38.add 4).add 1) fun x77 =>
 Ld (.int .i64) w54 ((a38.add 4).add 2) fun x78 =>
 MapGet Try.prog 31 .bool x75 (Value.agg ⟨[(Value.int .i64 x76), (Value.int .i64 x77), (Value.int .i64 x78)]⟩) (Value.bool false) w54 fun x79 =>
 (bif x79 then
 J55 true
 else
 (bif (!r46) then
 J55 true
 else
 (bif (!r53) then
 J55 true
 else
 (bif (r45 != x34.1) then
 J55 true
 else
 J55 (r52 != x34.1)))))))
 (fun w80 =>
 let J81 : World → Prop := fun w82 =>
 (w82.heap[w32.heap.size]? = some (.deferred (some [])) ∧
 Ld .bool (w82.putObj w32.heap.size (.deferred none)) a3 fun y83 =>
 K y83 (w82.putObj w32.heap.size (.deferred none)))
 Ld .map w80 a25 fun x84 =>
 MapLen w80 x84 fun n85 =>
 Ld .ptr w80 a12 fun x86 =>
 c_bind_DB_Len x86 w80 fun r87 w88 =>
 (bif (n85 == r87) then
 c_law22_awake  w88 fun r89 w90 =>
 St w90 a3 (Value.bool r89) fun w91 =>
 J81 w91
 else
 St w88 a3 (Value.bool false) fun w92 =>
 J81 w92))
 (fun w93 =>
 w93.heap[w32.heap.size]? = some (.deferred (some [])) ∧
 Ld .bool (w93.putObj w32.heap.size (.deferred none)) a3 fun y94 =>
 K y94 (w93.putObj w32.heap.size (.deferred none)))
 [])
 LoopP (S := Int × Unit) (fun s95 w96 next97 =>
 (bif (decide (s95.1 < (a0.len : Int))) then
 let J98 : World → Prop := fun w99 =>
 (next97 ((IntKind.i64.wrap (s95.1 + 1)), ()) w99)
 AtIx a0 10 s95.1 fun a100 =>
 Ld (.int .i64) w96 (a100.add 0) fun x101 =>
 Ld (.int .i64) w96 (a100.add 1) fun x102 =>
 Ld (.int .i64) w96 (a100.add 2) fun x103 =>
 Ld (.int .i64) w96 (a100.add 3) fun x104 =>
 Ld (.int .i64) w96 (a100.add 4) fun x105 =>
 Ld (.int .i64) w96 (a100.add 5) fun x106 =>
 Ld (.int .i64) w96 (a100.add 6) fun x107 =>
 Ld (.int .i64) w96 (a100.add 7) fun x108 =>
 Ld (.int .i64) w96 (a100.add 8) fun x109 =>
 Ld .bool w96 (a100.add 9) fun x110 =>
 Al w96 (.cells ⟨[(Value.int .i64 0), (Value.int .i64 0), (Value.int .i64 0), (Value.int .i64 0), (Value.int .i64 0), (Value.int .i64 0), (Value.int .i64 0), (Value.int .i64 0), (Value.int .i64 0), (Value.bool false)]⟩ 35) fun a112 w111 =>
 StN [(Value.int .i64 x101), (Value.int .i64 x102), (Value.int .i64 x103), (Value.int .i64 x104), (Value.int .i64 x105), (Value.int .i64 x106), (Value.int .i64 x107), (Value.int .i64 x108), (Value.int .i64 x109), (Value.bool x110)] w111 a112 0 fun w113 =>
 (bif (decide (s95.1 ≥ 60)) then
 J18 w113
 else
 Ld (.int .i64) w113 a112 fun x114 =>
 (bif (decide (x114 < 3)) then
 Ld .ptr w113 a12 fun x115 =>
 Ld (.int .i64) w113 ((a112.add 2).add 0) fun x116 =>
 Ld (.int .i64) w113 ((a112.add 2).add 1) fun x117 =>
 Ld (.int .i64) w113 ((a112.add 2).add 2) fun x118 =>
 Ld (.int .i64) w113 ((a112.add 2).add 3) fun x119 =>
 Ld (.int .i64) w113 ((a112.add 2).add 4) fun x120 =>
 Ld (.int .i64) w113 ((a112.add 2).add 5) fun x121 =>
 Ld (.int .i64) w113 ((a112.add 2).add 6) fun x122 =>
 Ld .bool w113 ((a112.add 2).add 7) fun x123 =>
 c_bind_DB_Add x115 x116 x117 x118 x119 x120 x121 x122 x123 w113 fun r124 r125 w126 =>
 J98 w126
 else
 Ld .ptr w113 a12 fun x127 =>
 Ld (.int .i64) w113 (a112.add 1) fun x128 =>
 c_bind_DB_Remove x127 x128 w113 fun r129 w130 =>
 J98 w130))
 else
 J18 w96)) (0, ()) w13))
 Ld .ptr w13 a12 fun x131 =>
 (bif (Option.isNone x131) then
 J14 true
 else
 J14 (r9 != 0))))
theorem e_law22_BindInjective (a0 : SliceV) (w : World) (K : Bool → World → Prop) : den Try.prog 110 (bodyOf Try.f3) none (.seq .leaf (.seq (.seq .leaf (.cond (.seq .leaf .leaf) .leaf)) (.seq .leaf (.seq (.seq .leaf (.cond (.seq .leaf .leaf) .leaf)) (.seq (.seq .leaf (.blk (.loop [(29, (.int .i64))] (.seq .leaf (.seq (.cond .leaf .leaf) (.seq (.blk (.seq .leaf (.seq (.seq .leaf (.cond .leaf .leaf)) (.seq .leaf (.cond .leaf .leaf))))) .leaf)))))) (.seq .leaf (.seq (.seq .leaf (.blk (.rng [.one (.int .i64), .agg [(.int .i64), (.int .i64), (.int .i64), (.int .i64), (.int .i64), (.int .i64), (.int .i64), .bool]] (.seq .leaf .leaf) (.blk (.seq .leaf (.seq .leaf (.seq (.seq .leaf (.cond (.seq .leaf .leaf) .leaf)) .leaf))))))) (.seq .leaf .leaf)))))))) (argEnv 0 [(Value.slice a0.a a0.len a0.cap)]) [] w (retK Try.prog [.cell 2 4] [.one .bool] K) = s_law22_BindInjective a0 w K := by kernel_rfl
theorem ok_law22_BindInjective {a0 w K} (h : s_law22_BindInjective a0 w K) : c_law22_BindInjective a0 w K :=
  fn_sound pok Try.func3 (fn := Try.f3) (c := bodyOf Try.f3) (nt := 110) (by kernel_rfl) (by kernel_rfl) (rs := [.cell 2 4]) (by kernel_rfl) [.one .bool] K (.seq .leaf (.seq (.seq .leaf (.cond (.seq .leaf .leaf) .leaf)) (.seq .leaf (.seq (.seq .leaf (.cond (.seq .leaf .leaf) .leaf)) (.seq (.seq .leaf (.blk (.loop [(29, (.int .i64))] (.seq .leaf (.seq (.cond .leaf .leaf) (.seq (.blk (.seq .leaf (.seq (.seq .leaf (.cond .leaf .leaf)) (.seq .leaf (.cond .leaf .leaf))))) .leaf)))))) (.seq .leaf (.seq (.seq .leaf (.blk (.rng [.one (.int .i64), .agg [(.int .i64), (.int .i64), (.int .i64), (.int .i64), (.int .i64), (.int .i64), (.int .i64), .bool]] (.seq .leaf .leaf) (.blk (.seq .leaf (.seq .leaf (.seq (.seq .leaf (.cond (.seq .leaf .leaf) .leaf)) .leaf))))))) (.seq .leaf .leaf)))))))) [(Value.slice a0.a a0.len a0.cap)] (by kernel_rfl) w ((e_law22_BindInjective a0 w K).mpr h)

/-- goosepond/goosepondlaw22.BindLives -/
def s_law22_BindLives (a0 : Int) (a1 : SliceV) (w : World) (K : Bool → World → Prop) : Prop :=
 (c_law22_awake  w fun r3 w4 =>
 (bif (!r3) then
 K false w4
 else
 c_bind_New a0 w4 fun r5 r6 w7 =>
 c_ref22_New a0 w7 fun r8 r9 w10 =>
 let J11 : Bool → Prop := fun j12 =>
 ((bif j12 then
 K false w10
 else
 let J13 : World → Prop := fun w14 =>
 (c_law22_awake  w14 fun r15 w16 =>
 K r15 w16)
 LoopP (S := Int × Unit) (fun s17 w18 next19 =>
 (bif (decide (s17.1 < (a1.len : Int))) then
 AtIx a1 10 s17.1 fun a20 =>
 Ld (.int .i64) w18 (a20.add 0) fun x21 =>
 Ld (.int .i64) w18 (a20.add 1) fun x22 =>
 Ld (.int .i64) w18 (a20.add 2) fun x23 =>
 Ld (.int .i64) w18 (a20.add 3) fun x24 =>
 Ld (.int .i64) w18 (a20.add 4) fun x25 =>
 Ld (.int .i64) w18 (a20.add 5) fun x26 =>
 Ld (.int .i64) w18 (a20.add 6) fun x27 =>
 Ld (.int .i64) w18 (a20.add 7) fun x28 =>
 Ld (.int .i64) w18 (a20.add 8) fun x29 =>
 Ld .bool w18 (a20.add 9) fun x30 =>
 Al w18 (.cells ⟨[(Value.int .i64 0), (Value.int .i64 0), (Value.int .i64 0), (Value.int .i64 0), (Value.int .i64 0), (Value.int .i64 0), (Value.int .i64 0), (Value.int .i64 0), (Value.int .i64 0), (Value.bool false)]⟩ 35) fun a32 w31 =>
 StN [(Value.int .i64 x21), (Value.int .i64 x22), (Value.int .i64 x23), (Value.int .i64 x24), (Value.int .i64 x25), (Value.int .i64 x26), (Value.int .i64 x27), (Value.int .i64 x28), (Value.int .i64 x29), (Value.bool x30)] w31 a32 0 fun w33 =>
 let J34 : Bool → Prop := fun j35 =>
 ((bif j35 then
 J13 w33
 else
 let J36 : World → Prop := fun w37 =>
 (Ld (.int .i64) w37 (a32.add 1) fun x38 =>
 c_bind_DB_Get r5 x38 w37 fun r39 r40 r41 r42 r43 r44 r45 r46 r47 w48 =>
 Al w48 (.cells ⟨[(Value.int .i64 0), (Value.int .i64 0), (Value.int .i64 0), (Value.int .i64 0), (Value.int .i64 0), (Value.int .i64 0), (Value.int .i64 0), (Value.bool false)]⟩ 33) fun a50 w49 =>
 StN [(Value.int .i64 r39), (Value.int .i64 r40), (Value.int .i64 r41), (Value.int .i64 r42), (Value.int .i64 r43), (Value.int .i64 r44), (Value.int .i64 r45), (Value.bool r46)] w49 a50 0 fun w51 =>
 Ld (.int .i64) w51 (a32.add 1) fun x52 =>
 c_ref22_DB_Get r8 x52 w51 fun r53 r54 r55 r56 r57 r58 r59 r60 r61 w62 =>
 Al w62 (.cells ⟨[(Value.int .i64 0), (Value.int .i64 0), (Value.int .i64 0), (Value.int .i64 0), (Value.int .i64 0), (Value.int .i64 0), (Value.int .i64 0), (Value.bool false)]⟩ 33) fun a64 w63 =>
 StN [(Value.int .i64 r53), (Value.int .i64 r54), (Value.int .i64 r55), (Value.int .i64 r56), (Value.int .i64 r57), (Value.int .i64 r58), (Value.int .i64 r59), (Value.bool r60)] w63 a64 0 fun w65 =>
 Ld (.int .i64) w65 ((a32.add 2).add 0) fun x66 =>
 Ld (.int .i64) w65 ((a32.add 2).add 1) fun x67 =>
 Ld (.int .i64) w65 ((a32.add 2).add 2) fun x68 =>
 Ld (.int .i64) w65 ((a32.add 2).add 3) fun x69 =>
 c_bind_DB_Find r5 x66 x67 x68 x69 w65 fun r70 r71 w72 =>
 Ld (.int .i64) w72 ((a32.add 2).add 0) fun x73 =>
 Ld (.int .i64) w72 ((a32.add 2).add 1) fun x74 =>
 Ld (.int .i64) w72 ((a32.add 2).add 2) fun x75 =>
 Ld (.int .i64) w72 ((a32.add 2).add 3) fun x76 =>
 c_ref22_DB_Find r8 x73 x74 x75 x76 w72 fun r77 r78 w79 =>
 Ld (.int .i64) w79 (((a32.add 2).add 4).add 0) fun x80 =>
 Ld (.int .i64) w79 (((a32.add 2).add 4).add 1) fun x81 =>
 Ld (.int .i64) w79 (((a32.add 2).add 4).add 2) fun x82 =>
 c_bind_DB_Back r5 x80 x81 x82 w79 fun r83 r84 w85 =>
 Ld (.int .i64) w85 (((a32.add 2).add 4).add 0) fun x86 =>
 Ld (.int .i64) w85 (((a32.add 2).add 4).add 1) fun x87 =>
 Ld (.int .i64) w85 (((a32.add 2).add 4).add 2) fun x88 =>
 c_ref22_DB_Back r8 x86 x87 x88 w85 fun r89 r90 w91 =>
 let J92 : Bool → World → Prop := fun j93 w94 =>
 ((bif j93 then
 K false w94
 else
 next19 ((IntKind.i64.wrap (s17.1 + 1)), ()) w94))
 Ld (.int .i64) w91 (a50.add 0) fun x95 =>
 Ld (.int .i64) w91 (a50.add 1) fun x96 =>
 Ld (.int .i64) w91 (a50.add 2) fun x97 =>
 Ld (.int .i64) w91 (a50.add 3) fun x98 =>
 Ld (.int .i64) w91 (a50.add 4) fun x99 =>
 Ld (.int .i64) w91 (a50.add 5) fun x100 =>
 Ld (.int .i64) w91 (a50.add 6) fun x101 =>
 Ld .bool w91 (a50.add 7) fun x102 =>
 Ld (.int .i64) w91 (a64.add 0) fun x103 =>
 Ld (.int .i64) w91 (a64.add 1) fun x104 =>
 Ld (.int .i64) w91 (a64.add 2) fun x105 =>
 Ld (.int .i64) w91 (a64.add 3) fun x106 =>
 Ld (.int .i64) w91 (a64.add 4) fun x107 =>
 Ld (.int .i64) w91 (a64.add 5) fun x108 =>
 Ld (.int .i64) w91 (a64.add 6) fun x109 =>
 Ld .bool w91 (a64.add 7) fun x110 =>
 (bif (!(((x95 == x103) && ((x96 == x104) && ((x97 == x105) && ((x98 == x106) && true)))) && (((x99 == x107) && ((x100 == x108) && ((x101 == x109) && true))) && (((x102 : Bool) == x110) && true)))) then
 J92 true w91
 else
 (bif (!((r47 : Bool) == r61)) then
 J92 true w91
 else
 (bif (r70 != r77) then
 J92 true w91
 else
 (bif (!((r71 : Bool) == r78)) then
 J92 true w91
 else
 (bif (r83 != r89) then
 J92 true w91
 else
 (bif (!((r84 : Bool) == r90)) then
 J92 true w91
 else
 c_law22_same r5 r8 w91 fun r111 w112 =>
 J92 (!r111) w112)))))))
 Ld (.int .i64) w33 a32 fun x113 =>
 (bif (decide (x113 < 3)) then
 Ld (.int .i64) w33 ((a32.add 2).add 0) fun x114 =>
 Ld (.int .i64) w33 ((a32.add 2).add 1) fun x115 =>
 Ld (.int .i64) w33 ((a32.add 2).add 2) fun x116 =>
 Ld (.int .i64) w33 ((a32.add 2).add 3) fun x117 =>
 Ld (.int .i64) w33 ((a32.add 2).add 4) fun x118 =>
 Ld (.int .i64) w33 ((a32.add 2).add 5) fun x119 =>
 Ld (.int .i64) w33 ((a32.add 2).add 6) fun x120 =>
 Ld .bool w33 ((a32.add 2).add 7) fun x121 =>
 c_bind_DB_Add r5 x114 x115 x116 x117 x118 x119 x120 x121 w33 fun r122 r123 w124 =>
 Ld (.int .i64) w124 ((a32.add 2).add 0) fun x125 =>
 Ld (.int .i64) w124 ((a32.add 2).add 1) fun x126 =>
 Ld (.int .i64) w124 ((a32.add 2).add 2) fun x127 =>
 Ld (.int .i64) w124 ((a32.add 2).add 3) fun x128 =>
 Ld (.int .i64) w124 ((a32.add 2).add 4) fun x129 =>
 Ld (.int .i64) w124 ((a32.add 2).add 5) fun x130 =>
 Ld (.int .i64) w124 ((a32.add 2).add 6) fun x131 =>
 Ld .bool w124 ((a32.add 2).add 7) fun x132 =>
 c_ref22_DB_Add r8 x125 x126 x127 x128 x129 x130 x131 x132 w124 fun r133 r134 w135 =>
 let J136 : Bool → Prop := fun j137 =>
 ((bif j137 then
 K false w135
 else
 J36 w135))
 (bif (r122 != r133) then
 J136 true
 else
 J136 (r123 != r134))
 else
 Ld (.int .i64) w33.drew (a32.add 1) fun x138 =>
 Ld (.int .i64) w33.drew (a32.add 1) fun x139 =>
 c_bind_DB_Remove r5 x138 w33.drew fun r140 w141 =>
 w141.cell? (a32.add 1) = some (Value.int .i64 x139) ∧
 c_ref22_DB_Remove r8 x139 w141 fun r142 w143 =>
 (bif (!((r140 : Bool) == r142)) then
 K false w143
 else
 J36 w143))))
 (bif (decide (s17.1 ≥ 60)) then
 J34 true
 else
 J34 (Option.isNone r8))
 else
 J13 w18)) (0, ()) w10))
 (bif (r6 != r9) then
 J11 true
 else
 J11 (!(((Option.isNone r5) : Bool) == (Option.isNone r8))))))
theorem e_law22_BindLives (a0 : Int) (a1 : SliceV) (w : World) (K : Bool → World → Prop) : den Try.prog 178 (bodyOf Try.f4) none (.seq .leaf (.seq (.seq .leaf (.cond (.seq .leaf .leaf) .leaf)) (.seq .leaf (.seq .leaf (.seq (.seq .leaf (.cond (.seq .leaf .leaf) .leaf)) (.seq (.seq .leaf (.blk (.loop [(51, (.int .i64))] (.seq .leaf (.seq (.cond .leaf .leaf) (.seq (.blk (.seq .leaf (.seq (.seq .leaf (.cond .leaf .leaf)) (.seq (.seq .leaf (.cond (.seq .leaf (.seq .leaf (.seq .leaf (.cond (.seq .leaf .leaf) .leaf)))) (.seq .leaf (.cond (.seq .leaf .leaf) .leaf)))) (.seq .leaf (.seq .leaf (.seq .leaf (.seq .leaf (.seq .leaf (.seq .leaf (.seq .leaf (.cond (.seq .leaf .leaf) .leaf)))))))))))) .leaf)))))) (.seq .leaf .leaf))))))) (argEnv 0 [(Value.int .i64 a0), (Value.slice a1.a a1.len a1.cap)]) [] w (retK Try.prog [.tmp 4] [.one .bool] K) = s_law22_BindLives a0 a1 w K := by kernel_rfl
theorem ok_law22_BindLives {a0 a1 w K} (h : s_law22_BindLives a0 a1 w K) : c_law22_BindLives a0 a1 w K :=
  fn_sound pok Try.func4 (fn := Try.f4) (c := bodyOf Try.f4) (nt := 178) (by kernel_rfl) (by kernel_rfl) (rs := [.tmp 4]) (by kernel_rfl) [.one .bool] K (.seq .leaf (.seq (.seq .leaf (.cond (.seq .leaf .leaf) .leaf)) (.seq .leaf (.seq .leaf (.seq (.seq .leaf (.cond (.seq .leaf .leaf) .leaf)) (.seq (.seq .leaf (.blk (.loop [(51, (.int .i64))] (.seq .leaf (.seq (.cond .leaf .leaf) (.seq (.blk (.seq .leaf (.seq (.seq .leaf (.cond .leaf .leaf)) (.seq (.seq .leaf (.cond (.seq .leaf (.seq .leaf (.seq .leaf (.cond (.seq .leaf .leaf) .leaf)))) (.seq .leaf (.cond (.seq .leaf .leaf) .leaf)))) (.seq .leaf (.seq .leaf (.seq .leaf (.seq .leaf (.seq .leaf (.seq .leaf (.seq .leaf (.cond (.seq .leaf .leaf) .leaf)))))))))))) .leaf)))))) (.seq .leaf .leaf))))))) [(Value.int .i64 a0), (Value.slice a1.a a1.len a1.cap)] (by kernel_rfl) w ((e_law22_BindLives a0 a1 w K).mpr h)

/-- goosepond/goosepondlaw22.BindNobody -/
def s_law22_BindNobody (a0_0 : Int) (a0_1 : Int) (a0_2 : Int) (a0_3 : Int) (a0_4 : Int) (a0_5 : Int) (a0_6 : Int) (a0_7 : Bool) (a1 : Int) (w : World) (K : Bool → World → Prop) : Prop :=
 (Al w (.cells ⟨[(Value.int .i64 a0_0), (Value.int .i64 a0_1), (Value.int .i64 a0_2), (Value.int .i64 a0_3), (Value.int .i64 a0_4), (Value.int .i64 a0_5), (Value.int .i64 a0_6), (Value.bool a0_7)]⟩ 33) fun a4 w3 =>
 Al w3 (.cells ⟨[(Value.bool false)]⟩ 4) fun a6 w5 =>
 c_law22_awake  w5 fun r7 w8 =>
 (bif (!r7) then
 St w8 a6 (Value.bool false) fun w9 =>
 Ld .bool w9 a6 fun y10 =>
 K y10 w9
 else
 Al w8 (.cells ⟨[(Value.slice none 0 0), (Value.pointer none), (Value.pointer none), (Value.int .i64 0)]⟩ 59) fun a12 w11 =>
 Ld (.int .i64) w11 (a4.add 0) fun x13 =>
 Ld (.int .i64) w11 (a4.add 1) fun x14 =>
 Ld (.int .i64) w11 (a4.add 2) fun x15 =>
 Ld (.int .i64) w11 (a4.add 3) fun x16 =>
 Ld (.int .i64) w11 (a4.add 4) fun x17 =>
 Ld (.int .i64) w11 (a4.add 5) fun x18 =>
 Ld (.int .i64) w11 (a4.add 6) fun x19 =>
 Ld .bool w11 (a4.add 7) fun x20 =>
 c_bind_DB_Add none x13 x14 x15 x16 x17 x18 x19 x20 w11 fun r21 r22 w23 =>
 Ld (.int .i64) w23 (a4.add 0) fun x24 =>
 Ld (.int .i64) w23 (a4.add 1) fun x25 =>
 Ld (.int .i64) w23 (a4.add 2) fun x26 =>
 Ld (.int .i64) w23 (a4.add 3) fun x27 =>
 Ld (.int .i64) w23 (a4.add 4) fun x28 =>
 Ld (.int .i64) w23 (a4.add 5) fun x29 =>
 Ld (.int .i64) w23 (a4.add 6) fun x30 =>
 Ld .bool w23 (a4.add 7) fun x31 =>
 c_bind_DB_Add (some a12) x24 x25 x26 x27 x28 x29 x30 x31 w23 fun r32 r33 w34 =>
 c_bind_DB_Get none a1 w34 fun r35 r36 r37 r38 r39 r40 r41 r42 r43 w44 =>
 Al w44 (.cells ⟨[(Value.int .i64 0), (Value.int .i64 0), (Value.int .i64 0), (Value.int .i64 0), (Value.int .i64 0), (Value.int .i64 0), (Value.int .i64 0), (Value.bool false)]⟩ 33) fun a46 w45 =>
 StN [(Value.int .i64 r35), (Value.int .i64 r36), (Value.int .i64 r37), (Value.int .i64 r38), (Value.int .i64 r39), (Value.int .i64 r40), (Value.int .i64 r41), (Value.bool r42)] w45 a46 0 fun w47 =>
 Ld (.int .i64) w47 (a4.add 0) fun x48 =>
 Ld (.int .i64) w47 (a4.add 1) fun x49 =>
 Ld (.int .i64) w47 (a4.add 2) fun x50 =>
 Ld (.int .i64) w47 (a4.add 3) fun x51 =>
 c_bind_DB_Find (some a12) x48 x49 x50 x51 w47 fun r52 r53 w54 =>
 Ld (.int .i64) w54 ((a4.add 4).add 0) fun x55 =>
 Ld (.int .i64) w54 ((a4.add 4).add 1) fun x56 =>
 Ld (.int .i64) w54 ((a4.add 4).add 2) fun x57 =>
 c_bind_DB_Back none x55 x56 x57 w54 fun r58 r59 w60 =>
 c_bind_DB_All none w60 fun r61 w62 =>
 RngP Try.prog none [.one (.int .i64), .agg [(.int .i64), (.int .i64), (.int .i64), (.int .i64), (.int .i64), (.int .i64), (.int .i64), .bool]] r61 w62 (fun l63 x64 W65 Kb66 =>
 W65.heap[l63]? = W65.heap[l63]? ∧
 St (busyW W65 l63) a6 (Value.bool false) fun w67 =>
 Kb66 .ret w67)
 (fun w68 =>
 let J69 : World → Prop := fun w70 =>
 (w70.heap[w62.heap.size]? = some (.deferred (some [])) ∧
 Ld .bool (w70.putObj w62.heap.size (.deferred none)) a6 fun y71 =>
 K y71 (w70.putObj w62.heap.size (.deferred none)))
 (bif (r22 == 2) then
 (bif (r33 == 2) then
 (bif (!r43) then
 (bif (!r53) then
 (bif (!r59) then
 c_bind_DB_Remove none a1 w68 fun r72 w73 =>
 (bif (!r72) then
 c_bind_DB_Remove (some a12) a1 w73 fun r74 w75 =>
 (bif (!r74) then
 c_bind_DB_Len none w75 fun r76 w77 =>
 (bif (r76 == 0) then
 c_law22_awake  w77 fun r78 w79 =>
 St w79 a6 (Value.bool r78) fun w80 =>
 J69 w80
 else
 St w77 a6 (Value.bool false) fun w81 =>
 J69 w81)
 else
 St w75 a6 (Value.bool false) fun w82 =>
 J69 w82)
 else
 St w73 a6 (Value.bool false) fun w83 =>
 J69 w83)
 else
 St w68 a6 (Value.bool false) fun w84 =>
 J69 w84)
 else
 St w68 a6 (Value.bool false) fun w85 =>
 J69 w85)
 else
 St w68 a6 (Value.bool false) fun w86 =>
 J69 w86)
 else
 St w68 a6 (Value.bool false) fun w87 =>
 J69 w87)
 else
 St w68 a6 (Value.bool false) fun w88 =>
 J69 w88))
 (fun w89 =>
 w89.heap[w62.heap.size]? = some (.deferred (some [])) ∧
 Ld .bool (w89.putObj w62.heap.size (.deferred none)) a6 fun y90 =>
 K y90 (w89.putObj w62.heap.size (.deferred none)))
 []))
theorem e_law22_BindNobody (a0_0 : Int) (a0_1 : Int) (a0_2 : Int) (a0_3 : Int) (a0_4 : Int) (a0_5 : Int) (a0_6 : Int) (a0_7 : Bool) (a1 : Int) (w : World) (K : Bool → World → Prop) : den Try.prog 90 (bodyOf Try.f5) none (.seq .leaf (.seq (.seq .leaf (.cond (.seq .leaf .leaf) .leaf)) (.seq .leaf (.seq .leaf (.seq .leaf (.seq .leaf (.seq .leaf (.seq .leaf (.seq .leaf (.seq (.seq .leaf (.blk (.rng [.one (.int .i64), .agg [(.int .i64), (.int .i64), (.int .i64), (.int .i64), (.int .i64), (.int .i64), (.int .i64), .bool]] .leaf (.blk (.seq .leaf .leaf))))) (.seq .leaf .leaf))))))))))) (argEnv 0 [(Value.agg ⟨[(Value.int .i64 a0_0), (Value.int .i64 a0_1), (Value.int .i64 a0_2), (Value.int .i64 a0_3), (Value.int .i64 a0_4), (Value.int .i64 a0_5), (Value.int .i64 a0_6), (Value.bool a0_7)]⟩), (Value.int .i64 a1)]) [] w (retK Try.prog [.cell 4 4] [.one .bool] K) = s_law22_BindNobody a0_0 a0_1 a0_2 a0_3 a0_4 a0_5 a0_6 a0_7 a1 w K := by kernel_rfl
theorem ok_law22_BindNobody {a0_0 a0_1 a0_2 a0_3 a0_4 a0_5 a0_6 a0_7 a1 w K} (h : s_law22_BindNobody a0_0 a0_1 a0_2 a0_3 a0_4 a0_5 a0_6 a0_7 a1 w K) : c_law22_BindNobody a0_0 a0_1 a0_2 a0_3 a0_4 a0_5 a0_6 a0_7 a1 w K :=
  fn_sound pok Try.func5 (fn := Try.f5) (c := bodyOf Try.f5) (nt := 90) (by kernel_rfl) (by kernel_rfl) (rs := [.cell 4 4]) (by kernel_rfl) [.one .bool] K (.seq .leaf (.seq (.seq .leaf (.cond (.seq .leaf .leaf) .leaf)) (.seq .leaf (.seq .leaf (.seq .leaf (.seq .leaf (.seq .leaf (.seq .leaf (.seq .leaf (.seq (.seq .leaf (.blk (.rng [.one (.int .i64), .agg [(.int .i64), (.int .i64), (.int .i64), (.int .i64), (.int .i64), (.int .i64), (.int .i64), .bool]] .leaf (.blk (.seq .leaf .leaf))))) (.seq .leaf .leaf))))))))))) [(Value.agg ⟨[(Value.int .i64 a0_0), (Value.int .i64 a0_1), (Value.int .i64 a0_2), (Value.int .i64 a0_3), (Value.int .i64 a0_4), (Value.int .i64 a0_5), (Value.int .i64 a0_6), (Value.bool a0_7)]⟩), (Value.int .i64 a1)] (by kernel_rfl) w ((e_law22_BindNobody a0_0 a0_1 a0_2 a0_3 a0_4 a0_5 a0_6 a0_7 a1 w K).mpr h)

/-- goosepond/goosepondlaw22.awake -/
def s_law22_awake  (w : World) (K : Bool → World → Prop) : Prop :=
 (c_bind_New 2 w fun r1 r2 w3 =>
 let J4 : Bool → Prop := fun j5 =>
 ((bif j5 then
 K false w3
 else
 Al w3 (.cells ⟨[(Value.int .i64 0), (Value.int .i64 0), (Value.int .i64 0), (Value.int .i64 0), (Value.int .i64 0), (Value.int .i64 0), (Value.int .i64 0), (Value.bool false)]⟩ 33) fun a7 w6 =>
 StN [(Value.int .i64 0), (Value.int .i64 17), (Value.int .i64 0), (Value.int .i64 1), (Value.int .i64 17), (Value.int .i64 0), (Value.int .i64 2), (Value.bool false)] w6 a7 0 fun w8 =>
 Ld (.int .i64) w8 (a7.add 0) fun x9 =>
 Ld (.int .i64) w8 (a7.add 1) fun x10 =>
 Ld (.int .i64) w8 (a7.add 2) fun x11 =>
 Ld (.int .i64) w8 (a7.add 3) fun x12 =>
 Ld (.int .i64) w8 (a7.add 4) fun x13 =>
 Ld (.int .i64) w8 (a7.add 5) fun x14 =>
 Ld (.int .i64) w8 (a7.add 6) fun x15 =>
 Ld .bool w8 (a7.add 7) fun x16 =>
 c_bind_DB_Add r1 x9 x10 x11 x12 x13 x14 x15 x16 w8 fun r17 r18 w19 =>
 Ld (.int .i64) w19 (a7.add 0) fun x20 =>
 Ld (.int .i64) w19 (a7.add 1) fun x21 =>
 Ld (.int .i64) w19 (a7.add 2) fun x22 =>
 Ld (.int .i64) w19 (a7.add 3) fun x23 =>
 c_bind_DB_Find r1 x20 x21 x22 x23 w19 fun r24 r25 w26 =>
 Ld (.int .i64) w26 ((a7.add 4).add 0) fun x27 =>
 Ld (.int .i64) w26 ((a7.add 4).add 1) fun x28 =>
 Ld (.int .i64) w26 ((a7.add 4).add 2) fun x29 =>
 c_bind_DB_Back r1 x27 x28 x29 w26 fun r30 r31 w32 =>
 let J33 : Bool → World → Prop := fun j34 w35 =>
 (K j34 w35)
 (bif (r18 == 0) then
 (bif (r17 == 0) then
 (bif r25 then
 (bif r31 then
 (bif (r24 == 0) then
 (bif (r30 == 0) then
 c_bind_DB_Len r1 w32 fun r36 w37 =>
 J33 (r36 == 1) w37
 else
 J33 false w32)
 else
 J33 false w32)
 else
 J33 false w32)
 else
 J33 false w32)
 else
 J33 false w32)
 else
 J33 false w32)))
 (bif (Option.isNone r1) then
 J4 true
 else
 J4 (r2 != 0)))
theorem e_law22_awake  (w : World) (K : Bool → World → Prop) : den Try.prog 68 (bodyOf Try.f9) none (.seq .leaf (.seq .leaf (.seq (.seq .leaf (.cond (.seq .leaf .leaf) .leaf)) (.seq .leaf (.seq .leaf (.seq .leaf (.seq .leaf (.seq .leaf .leaf)))))))) (argEnv 0 []) [] w (retK Try.prog [.tmp 0] [.one .bool] K) = s_law22_awake  w K := by kernel_rfl
theorem ok_law22_awake { w K} (h : s_law22_awake  w K) : c_law22_awake  w K :=
  fn_sound pok Try.func9 (fn := Try.f9) (c := bodyOf Try.f9) (nt := 68) (by kernel_rfl) (by kernel_rfl) (rs := [.tmp 0]) (by kernel_rfl) [.one .bool] K (.seq .leaf (.seq .leaf (.seq (.seq .leaf (.cond (.seq .leaf .leaf) .leaf)) (.seq .leaf (.seq .leaf (.seq .leaf (.seq .leaf (.seq .leaf .leaf)))))))) [] (by kernel_rfl) w ((e_law22_awake  w K).mpr h)

/-- goosepond/bind.New -/
def s_bind_New (a0 : Int) (w : World) (K : (Option Addr) → Int → World → Prop) : Prop :=
 (let J2 : Bool → Prop := fun j3 =>
 ((bif j3 then
 K none 1 w
 else
 c_hash_New a0 w fun r4 r5 w6 =>
 c_hash_New a0 w6 fun r7 r8 w9 =>
 let J10 : Bool → Prop := fun j11 =>
 ((bif j11 then
 K none 1 w9
 else
 MkSl 95 9 72 [(Value.int .i64 0), (Value.int .i64 0), (Value.int .i64 0), (Value.int .i64 0), (Value.int .i64 0), (Value.int .i64 0), (Value.int .i64 0), (Value.bool false), (Value.bool false)] a0 a0 w9 fun s12 w13 =>
 Al w13 (.cells ⟨[(Value.slice s12.a s12.len s12.cap), (Value.pointer r4), (Value.pointer r7), (Value.int .i64 0)]⟩ 59) fun a15 w14 =>
 K (some a15) 0 w14))
 (bif (r5 != 0) then
 J10 true
 else
 J10 (r8 != 0))))
 (bif (decide (a0 < 0)) then
 J2 true
 else
 J2 (decide (a0 > 4096))))
theorem e_bind_New (a0 : Int) (w : World) (K : (Option Addr) → Int → World → Prop) : den Try.prog 36 (bodyOf Try.f10) none (.seq .leaf (.seq (.seq .leaf (.cond (.seq .leaf .leaf) .leaf)) (.seq .leaf (.seq .leaf (.seq (.seq .leaf (.cond (.seq .leaf .leaf) .leaf)) (.seq .leaf .leaf)))))) (argEnv 0 [(Value.int .i64 a0)]) [] w (retK Try.prog [.tmp 2, .tmp 3] [.one .ptr, .one (.int .i64)] K) = s_bind_New a0 w K := by kernel_rfl
theorem ok_bind_New {a0 w K} (h : s_bind_New a0 w K) : c_bind_New a0 w K :=
  fn_sound pok Try.func10 (fn := Try.f10) (c := bodyOf Try.f10) (nt := 36) (by kernel_rfl) (by kernel_rfl) (rs := [.tmp 2, .tmp 3]) (by kernel_rfl) [.one .ptr, .one (.int .i64)] K (.seq .leaf (.seq (.seq .leaf (.cond (.seq .leaf .leaf) .leaf)) (.seq .leaf (.seq .leaf (.seq (.seq .leaf (.cond (.seq .leaf .leaf) .leaf)) (.seq .leaf .leaf)))))) [(Value.int .i64 a0)] (by kernel_rfl) w ((e_bind_New a0 w K).mpr h)

/-- (*goosepond/bind.DB).Add -/
def s_bind_DB_Add (a0 : Option Addr) (a1_0 : Int) (a1_1 : Int) (a1_2 : Int) (a1_3 : Int) (a1_4 : Int) (a1_5 : Int) (a1_6 : Int) (a1_7 : Bool) (w : World) (K : Int → Int → World → Prop) : Prop :=
 (Al w (.cells ⟨[(Value.int .i64 a1_0), (Value.int .i64 a1_1), (Value.int .i64 a1_2), (Value.int .i64 a1_3), (Value.int .i64 a1_4), (Value.int .i64 a1_5), (Value.int .i64 a1_6), (Value.bool a1_7)]⟩ 33) fun a4 w3 =>
 c_bind_DB_ready a0 w3 fun r5 w6 =>
 (bif (!r5) then
 K 0 2 w6
 else
 Ld (.int .i64) w6 (a4.add 0) fun x7 =>
 Ld (.int .i64) w6 (a4.add 1) fun x8 =>
 Ld (.int .i64) w6 (a4.add 2) fun x9 =>
 Ld (.int .i64) w6 (a4.add 3) fun x10 =>
 c_bind_DB_Find a0 x7 x8 x9 x10 w6 fun r11 r12 w13 =>
 Ld (.int .i64) w13 ((a4.add 4).add 0) fun x14 =>
 Ld (.int .i64) w13 ((a4.add 4).add 1) fun x15 =>
 Ld (.int .i64) w13 ((a4.add 4).add 2) fun x16 =>
 c_bind_DB_Back a0 x14 x15 x16 w13 fun r17 r18 w19 =>
 let J20 : Bool → Prop := fun j21 =>
 ((bif j21 then
 K 0 9 w19
 else
 c_bind_DB_free a0 w19 fun r22 r23 w24 =>
 (bif (!r23) then
 K 0 7 w24
 else
 ∃ a25 : Addr, a0 = some a25 ∧
 Ld .slice w24.drew a25 fun x26 =>
 Ld (.int .i64) w24.drew (a4.add 0) fun x27 =>
 Ld (.int .i64) w24.drew (a4.add 1) fun x28 =>
 Ld (.int .i64) w24.drew (a4.add 2) fun x29 =>
 Ld (.int .i64) w24.drew (a4.add 3) fun x30 =>
 Ld (.int .i64) w24.drew (a4.add 4) fun x31 =>
 Ld (.int .i64) w24.drew (a4.add 5) fun x32 =>
 Ld (.int .i64) w24.drew (a4.add 6) fun x33 =>
 Ld .bool w24.drew (a4.add 7) fun x34 =>
 AtIx x26 9 r22 fun a35 =>
 StN [(Value.int .i64 x27), (Value.int .i64 x28), (Value.int .i64 x29), (Value.int .i64 x30), (Value.int .i64 x31), (Value.int .i64 x32), (Value.int .i64 x33), (Value.bool x34), (Value.bool true)] w24.drew a35 0 fun w36 =>
 ∃ a37 : Addr, a0 = some a37 ∧
 Ld .ptr w36.drew (a37.add 1) fun x38 =>
 Ld (.int .i64) w36.drew (a4.add 0) fun x39 =>
 Ld (.int .i64) w36.drew (a4.add 1) fun x40 =>
 Ld (.int .i64) w36.drew (a4.add 2) fun x41 =>
 Ld (.int .i64) w36.drew (a4.add 3) fun x42 =>
 c_bind_innerKey x39 x40 x41 x42 w36.drew fun r43 w44 =>
 w44.cell? (a37.add 1) = some (Value.pointer x38) ∧
 c_hash_Table_Put x38 r43 r22 w44 fun r45 w46 =>
 ∃ a47 : Addr, a0 = some a47 ∧
 Ld .ptr w46.drew (a47.add 2) fun x48 =>
 Ld (.int .i64) w46.drew ((a4.add 4).add 0) fun x49 =>
 Ld (.int .i64) w46.drew ((a4.add 4).add 1) fun x50 =>
 Ld (.int .i64) w46.drew ((a4.add 4).add 2) fun x51 =>
 c_bind_outerKey x49 x50 x51 w46.drew fun r52 w53 =>
 w53.cell? (a47.add 2) = some (Value.pointer x48) ∧
 c_hash_Table_Put x48 r52 r22 w53 fun r54 w55 =>
 ∃ a56 : Addr, a0 = some a56 ∧
 Ld (.int .i64) w55 (a56.add 3) fun x57 =>
 ∃ a58 : Addr, a0 = some a58 ∧
 St w55 (a58.add 3) (Value.int .i64 (IntKind.i64.wrap (x57 + 1))) fun w59 =>
 K r22 0 w59)))
 (bif r12 then
 J20 true
 else
 J20 r18)))
theorem e_bind_DB_Add (a0 : Option Addr) (a1_0 : Int) (a1_1 : Int) (a1_2 : Int) (a1_3 : Int) (a1_4 : Int) (a1_5 : Int) (a1_6 : Int) (a1_7 : Bool) (w : World) (K : Int → Int → World → Prop) : den Try.prog 74 (bodyOf Try.f11) none (.seq .leaf (.seq (.seq .leaf (.cond (.seq .leaf .leaf) .leaf)) (.seq .leaf (.seq .leaf (.seq (.seq .leaf (.cond (.seq .leaf .leaf) .leaf)) (.seq .leaf (.seq (.seq .leaf (.cond (.seq .leaf .leaf) .leaf)) (.seq .leaf (.seq .leaf (.seq .leaf (.seq .leaf (.seq .leaf .leaf)))))))))))) (argEnv 0 [(Value.pointer a0), (Value.agg ⟨[(Value.int .i64 a1_0), (Value.int .i64 a1_1), (Value.int .i64 a1_2), (Value.int .i64 a1_3), (Value.int .i64 a1_4), (Value.int .i64 a1_5), (Value.int .i64 a1_6), (Value.bool a1_7)]⟩)]) [] w (retK Try.prog [.tmp 4, .tmp 5] [.one (.int .i64), .one (.int .i64)] K) = s_bind_DB_Add a0 a1_0 a1_1 a1_2 a1_3 a1_4 a1_5 a1_6 a1_7 w K := by kernel_rfl
theorem ok_bind_DB_Add {a0 a1_0 a1_1 a1_2 a1_3 a1_4 a1_5 a1_6 a1_7 w K} (h : s_bind_DB_Add a0 a1_0 a1_1 a1_2 a1_3 a1_4 a1_5 a1_6 a1_7 w K) : c_bind_DB_Add a0 a1_0 a1_1 a1_2 a1_3 a1_4 a1_5 a1_6 a1_7 w K :=
  fn_sound pok Try.func11 (fn := Try.f11) (c := bodyOf Try.f11) (nt := 74) (by kernel_rfl) (by kernel_rfl) (rs := [.tmp 4, .tmp 5]) (by kernel_rfl) [.one (.int .i64), .one (.int .i64)] K (.seq .leaf (.seq (.seq .leaf (.cond (.seq .leaf .leaf) .leaf)) (.seq .leaf (.seq .leaf (.seq (.seq .leaf (.cond (.seq .leaf .leaf) .leaf)) (.seq .leaf (.seq (.seq .leaf (.cond (.seq .leaf .leaf) .leaf)) (.seq .leaf (.seq .leaf (.seq .leaf (.seq .leaf (.seq .leaf .leaf)))))))))))) [(Value.pointer a0), (Value.agg ⟨[(Value.int .i64 a1_0), (Value.int .i64 a1_1), (Value.int .i64 a1_2), (Value.int .i64 a1_3), (Value.int .i64 a1_4), (Value.int .i64 a1_5), (Value.int .i64 a1_6), (Value.bool a1_7)]⟩)] (by kernel_rfl) w ((e_bind_DB_Add a0 a1_0 a1_1 a1_2 a1_3 a1_4 a1_5 a1_6 a1_7 w K).mpr h)

/-- (*goosepond/bind.DB).Remove -/
def s_bind_DB_Remove (a0 : Option Addr) (a1 : Int) (w : World) (K : Bool → World → Prop) : Prop :=
 (c_bind_DB_has a0 a1 w fun r3 w4 =>
 (bif (!r3) then
 K false w4
 else
 ∃ a5 : Addr, a0 = some a5 ∧
 Ld .slice w4 a5 fun x6 =>
 AtIx x6 9 a1 fun a7 =>
 Ld (.int .i64) w4 (a7.add 0) fun x8 =>
 Ld (.int .i64) w4 (a7.add 1) fun x9 =>
 Ld (.int .i64) w4 (a7.add 2) fun x10 =>
 Ld (.int .i64) w4 (a7.add 3) fun x11 =>
 Ld (.int .i64) w4 (a7.add 4) fun x12 =>
 Ld (.int .i64) w4 (a7.add 5) fun x13 =>
 Ld (.int .i64) w4 (a7.add 6) fun x14 =>
 Ld .bool w4 (a7.add 7) fun x15 =>
 Ld .bool w4 (a7.add 8) fun x16 =>
 Al w4 (.cells ⟨[(Value.int .i64 0), (Value.int .i64 0), (Value.int .i64 0), (Value.int .i64 0), (Value.int .i64 0), (Value.int .i64 0), (Value.int .i64 0), (Value.bool false), (Value.bool false)]⟩ 95) fun a18 w17 =>
 StN [(Value.int .i64 x8), (Value.int .i64 x9), (Value.int .i64 x10), (Value.int .i64 x11), (Value.int .i64 x12), (Value.int .i64 x13), (Value.int .i64 x14), (Value.bool x15), (Value.bool x16)] w17 a18 0 fun w19 =>
 ∃ a20 : Addr, a0 = some a20 ∧
 Ld .ptr w19.drew (a20.add 1) fun x21 =>
 Ld (.int .i64) w19.drew (a18.add 0) fun x22 =>
 Ld (.int .i64) w19.drew (a18.add 1) fun x23 =>
 Ld (.int .i64) w19.drew (a18.add 2) fun x24 =>
 Ld (.int .i64) w19.drew (a18.add 3) fun x25 =>
 c_bind_innerKey x22 x23 x24 x25 w19.drew fun r26 w27 =>
 w27.cell? (a20.add 1) = some (Value.pointer x21) ∧
 c_hash_Table_Delete x21 r26 w27 fun r28 w29 =>
 ∃ a30 : Addr, a0 = some a30 ∧
 Ld .ptr w29.drew (a30.add 2) fun x31 =>
 Ld (.int .i64) w29.drew ((a18.add 4).add 0) fun x32 =>
 Ld (.int .i64) w29.drew ((a18.add 4).add 1) fun x33 =>
 Ld (.int .i64) w29.drew ((a18.add 4).add 2) fun x34 =>
 c_bind_outerKey x32 x33 x34 w29.drew fun r35 w36 =>
 w36.cell? (a30.add 2) = some (Value.pointer x31) ∧
 c_hash_Table_Delete x31 r35 w36 fun r37 w38 =>
 ∃ a39 : Addr, a0 = some a39 ∧
 Ld .slice w38 a39 fun x40 =>
 AtIx x40 9 a1 fun a41 =>
 StN [(Value.int .i64 0), (Value.int .i64 0), (Value.int .i64 0), (Value.int .i64 0), (Value.int .i64 0), (Value.int .i64 0), (Value.int .i64 0), (Value.bool false), (Value.bool false)] w38 a41 0 fun w42 =>
 ∃ a43 : Addr, a0 = some a43 ∧
 Ld (.int .i64) w42 (a43.add 3) fun x44 =>
 ∃ a45 : Addr, a0 = some a45 ∧
 St w42 (a45.add 3) (Value.int .i64 (IntKind.i64.wrap (x44 - 1))) fun w46 =>
 K true w46))
theorem e_bind_DB_Remove (a0 : Option Addr) (a1 : Int) (w : World) (K : Bool → World → Prop) : den Try.prog 49 (bodyOf Try.f12) none (.seq .leaf (.seq (.seq .leaf (.cond (.seq .leaf .leaf) .leaf)) (.seq .leaf (.seq .leaf (.seq .leaf (.seq .leaf (.seq .leaf (.seq .leaf .leaf)))))))) (argEnv 0 [(Value.pointer a0), (Value.int .i64 a1)]) [] w (retK Try.prog [.tmp 4] [.one .bool] K) = s_bind_DB_Remove a0 a1 w K := by kernel_rfl
theorem ok_bind_DB_Remove {a0 a1 w K} (h : s_bind_DB_Remove a0 a1 w K) : c_bind_DB_Remove a0 a1 w K :=
  fn_sound pok Try.func12 (fn := Try.f12) (c := bodyOf Try.f12) (nt := 49) (by kernel_rfl) (by kernel_rfl) (rs := [.tmp 4]) (by kernel_rfl) [.one .bool] K (.seq .leaf (.seq (.seq .leaf (.cond (.seq .leaf .leaf) .leaf)) (.seq .leaf (.seq .leaf (.seq .leaf (.seq .leaf (.seq .leaf (.seq .leaf .leaf)))))))) [(Value.pointer a0), (Value.int .i64 a1)] (by kernel_rfl) w ((e_bind_DB_Remove a0 a1 w K).mpr h)

/-- (*goosepond/bind.DB).All -/
def s_bind_DB_All (a0 : Option Addr) (w : World) (K : Value → World → Prop) : Prop :=
 (isOne (Value.pointer a0) = true ∧
 Al w (.cells ⟨[(Value.pointer a0)]⟩ 24) fun a3 w2 =>
 K (Value.func (.func 50) #[] #[(Value.pointer (some a3))]) w2)
theorem e_bind_DB_All (a0 : Option Addr) (w : World) (K : Value → World → Prop) : den Try.prog 4 (bodyOf Try.f13) none (.seq .leaf (.seq .leaf .leaf)) (argEnv 0 [(Value.pointer a0)]) [] w (retK Try.prog [.tmp 2] [.one .any] K) = s_bind_DB_All a0 w K := by kernel_rfl
theorem ok_bind_DB_All {a0 w K} (h : s_bind_DB_All a0 w K) : c_bind_DB_All a0 w K :=
  fn_sound pok Try.func13 (fn := Try.f13) (c := bodyOf Try.f13) (nt := 4) (by kernel_rfl) (by kernel_rfl) (rs := [.tmp 2]) (by kernel_rfl) [.one .any] K (.seq .leaf (.seq .leaf .leaf)) [(Value.pointer a0)] (by kernel_rfl) w ((e_bind_DB_All a0 w K).mpr h)

/-- (*goosepond/bind.DB).Find -/
def s_bind_DB_Find (a0 : Option Addr) (a1_0 : Int) (a1_1 : Int) (a1_2 : Int) (a1_3 : Int) (w : World) (K : Int → Bool → World → Prop) : Prop :=
 (Al w (.cells ⟨[(Value.int .i64 a1_0), (Value.int .i64 a1_1), (Value.int .i64 a1_2), (Value.int .i64 a1_3)]⟩ 29) fun a4 w3 =>
 c_bind_DB_ready a0 w3 fun r5 w6 =>
 (bif (!r5) then
 K 0 false w6
 else
 ∃ a7 : Addr, a0 = some a7 ∧
 Ld .ptr w6.drew (a7.add 1) fun x8 =>
 Ld (.int .i64) w6.drew (a4.add 0) fun x9 =>
 Ld (.int .i64) w6.drew (a4.add 1) fun x10 =>
 Ld (.int .i64) w6.drew (a4.add 2) fun x11 =>
 Ld (.int .i64) w6.drew (a4.add 3) fun x12 =>
 c_bind_innerKey x9 x10 x11 x12 w6.drew fun r13 w14 =>
 w14.cell? (a7.add 1) = some (Value.pointer x8) ∧
 c_hash_Table_Get x8 r13 w14 fun r15 r16 w17 =>
 K r15 r16 w17))
theorem e_bind_DB_Find (a0 : Option Addr) (a1_0 : Int) (a1_1 : Int) (a1_2 : Int) (a1_3 : Int) (w : World) (K : Int → Bool → World → Prop) : den Try.prog 18 (bodyOf Try.f14) none (.seq .leaf (.seq (.seq .leaf (.cond (.seq .leaf .leaf) .leaf)) (.seq .leaf .leaf))) (argEnv 0 [(Value.pointer a0), (Value.agg ⟨[(Value.int .i64 a1_0), (Value.int .i64 a1_1), (Value.int .i64 a1_2), (Value.int .i64 a1_3)]⟩)]) [] w (retK Try.prog [.tmp 4, .tmp 5] [.one (.int .i64), .one .bool] K) = s_bind_DB_Find a0 a1_0 a1_1 a1_2 a1_3 w K := by kernel_rfl
theorem ok_bind_DB_Find {a0 a1_0 a1_1 a1_2 a1_3 w K} (h : s_bind_DB_Find a0 a1_0 a1_1 a1_2 a1_3 w K) : c_bind_DB_Find a0 a1_0 a1_1 a1_2 a1_3 w K :=
  fn_sound pok Try.func14 (fn := Try.f14) (c := bodyOf Try.f14) (nt := 18) (by kernel_rfl) (by kernel_rfl) (rs := [.tmp 4, .tmp 5]) (by kernel_rfl) [.one (.int .i64), .one .bool] K (.seq .leaf (.seq (.seq .leaf (.cond (.seq .leaf .leaf) .leaf)) (.seq .leaf .leaf))) [(Value.pointer a0), (Value.agg ⟨[(Value.int .i64 a1_0), (Value.int .i64 a1_1), (Value.int .i64 a1_2), (Value.int .i64 a1_3)]⟩)] (by kernel_rfl) w ((e_bind_DB_Find a0 a1_0 a1_1 a1_2 a1_3 w K).mpr h)

/-- (*goosepond/bind.DB).Back -/
def s_bind_DB_Back (a0 : Option Addr) (a1_0 : Int) (a1_1 : Int) (a1_2 : Int) (w : World) (K : Int → Bool → World → Prop) : Prop :=
 (Al w (.cells ⟨[(Value.int .i64 a1_0), (Value.int .i64 a1_1), (Value.int .i64 a1_2)]⟩ 31) fun a4 w3 =>
 c_bind_DB_ready a0 w3 fun r5 w6 =>
 (bif (!r5) then
 K 0 false w6
 else
 ∃ a7 : Addr, a0 = some a7 ∧
 Ld .ptr w6.drew (a7.add 2) fun x8 =>
 Ld (.int .i64) w6.drew (a4.add 0) fun x9 =>
 Ld (.int .i64) w6.drew (a4.add 1) fun x10 =>
 Ld (.int .i64) w6.drew (a4.add 2) fun x11 =>
 c_bind_outerKey x9 x10 x11 w6.drew fun r12 w13 =>
 w13.cell? (a7.add 2) = some (Value.pointer x8) ∧
 c_hash_Table_Get x8 r12 w13 fun r14 r15 w16 =>
 K r14 r15 w16))
theorem e_bind_DB_Back (a0 : Option Addr) (a1_0 : Int) (a1_1 : Int) (a1_2 : Int) (w : World) (K : Int → Bool → World → Prop) : den Try.prog 18 (bodyOf Try.f15) none (.seq .leaf (.seq (.seq .leaf (.cond (.seq .leaf .leaf) .leaf)) (.seq .leaf .leaf))) (argEnv 0 [(Value.pointer a0), (Value.agg ⟨[(Value.int .i64 a1_0), (Value.int .i64 a1_1), (Value.int .i64 a1_2)]⟩)]) [] w (retK Try.prog [.tmp 4, .tmp 5] [.one (.int .i64), .one .bool] K) = s_bind_DB_Back a0 a1_0 a1_1 a1_2 w K := by kernel_rfl
theorem ok_bind_DB_Back {a0 a1_0 a1_1 a1_2 w K} (h : s_bind_DB_Back a0 a1_0 a1_1 a1_2 w K) : c_bind_DB_Back a0 a1_0 a1_1 a1_2 w K :=
  fn_sound pok Try.func15 (fn := Try.f15) (c := bodyOf Try.f15) (nt := 18) (by kernel_rfl) (by kernel_rfl) (rs := [.tmp 4, .tmp 5]) (by kernel_rfl) [.one (.int .i64), .one .bool] K (.seq .leaf (.seq (.seq .leaf (.cond (.seq .leaf .leaf) .leaf)) (.seq .leaf .leaf))) [(Value.pointer a0), (Value.agg ⟨[(Value.int .i64 a1_0), (Value.int .i64 a1_1), (Value.int .i64 a1_2)]⟩)] (by kernel_rfl) w ((e_bind_DB_Back a0 a1_0 a1_1 a1_2 w K).mpr h)

/-- (*goosepond/bind.DB).Len -/
def s_bind_DB_Len (a0 : Option Addr) (w : World) (K : Int → World → Prop) : Prop :=
 (c_bind_DB_ready a0 w fun r2 w3 =>
 (bif (!r2) then
 K 0 w3
 else
 ∃ a4 : Addr, a0 = some a4 ∧
 Ld (.int .i64) w3 (a4.add 3) fun x5 =>
 K x5 w3))
theorem e_bind_DB_Len (a0 : Option Addr) (w : World) (K : Int → World → Prop) : den Try.prog 10 (bodyOf Try.f16) none (.seq .leaf (.seq (.seq .leaf (.cond (.seq .leaf .leaf) .leaf)) (.seq .leaf .leaf))) (argEnv 0 [(Value.pointer a0)]) [] w (retK Try.prog [.tmp 2] [.one (.int .i64)] K) = s_bind_DB_Len a0 w K := by kernel_rfl
theorem ok_bind_DB_Len {a0 w K} (h : s_bind_DB_Len a0 w K) : c_bind_DB_Len a0 w K :=
  fn_sound pok Try.func16 (fn := Try.f16) (c := bodyOf Try.f16) (nt := 10) (by kernel_rfl) (by kernel_rfl) (rs := [.tmp 2]) (by kernel_rfl) [.one (.int .i64)] K (.seq .leaf (.seq (.seq .leaf (.cond (.seq .leaf .leaf) .leaf)) (.seq .leaf .leaf))) [(Value.pointer a0)] (by kernel_rfl) w ((e_bind_DB_Len a0 w K).mpr h)

/-- goosepond/goosepondref22.New -/
def s_ref22_New (a0 : Int) (w : World) (K : (Option Addr) → Int → World → Prop) : Prop :=
 (let J2 : Bool → Prop := fun j3 =>
 ((bif j3 then
 K none 1 w
 else
 Al w (.cells ⟨[(Value.slice none 0 0), (Value.int .i64 a0)]⟩ 104) fun a5 w4 =>
 K (some a5) 0 w4))
 (bif (decide (a0 < 0)) then
 J2 true
 else
 J2 (decide (a0 > 4096))))
theorem e_ref22_New (a0 : Int) (w : World) (K : (Option Addr) → Int → World → Prop) : den Try.prog 13 (bodyOf Try.f17) none (.seq .leaf (.seq (.seq .leaf (.cond (.seq .leaf .leaf) .leaf)) (.seq .leaf .leaf))) (argEnv 0 [(Value.int .i64 a0)]) [] w (retK Try.prog [.tmp 2, .tmp 3] [.one .ptr, .one (.int .i64)] K) = s_ref22_New a0 w K := by kernel_rfl
theorem ok_ref22_New {a0 w K} (h : s_ref22_New a0 w K) : c_ref22_New a0 w K :=
  fn_sound pok Try.func17 (fn := Try.f17) (c := bodyOf Try.f17) (nt := 13) (by kernel_rfl) (by kernel_rfl) (rs := [.tmp 2, .tmp 3]) (by kernel_rfl) [.one .ptr, .one (.int .i64)] K (.seq .leaf (.seq (.seq .leaf (.cond (.seq .leaf .leaf) .leaf)) (.seq .leaf .leaf))) [(Value.int .i64 a0)] (by kernel_rfl) w ((e_ref22_New a0 w K).mpr h)

/-- (*goosepond/goosepondref22.DB).Add -/
def s_ref22_DB_Add (a0 : Option Addr) (a1_0 : Int) (a1_1 : Int) (a1_2 : Int) (a1_3 : Int) (a1_4 : Int) (a1_5 : Int) (a1_6 : Int) (a1_7 : Bool) (w : World) (K : Int → Int → World → Prop) : Prop :=
 (Al w (.cells ⟨[(Value.int .i64 a1_0), (Value.int .i64 a1_1), (Value.int .i64 a1_2), (Value.int .i64 a1_3), (Value.int .i64 a1_4), (Value.int .i64 a1_5), (Value.int .i64 a1_6), (Value.bool a1_7)]⟩ 33) fun a4 w3 =>
 Ld (.int .i64) w3 (a4.add 0) fun x5 =>
 Ld (.int .i64) w3 (a4.add 1) fun x6 =>
 Ld (.int .i64) w3 (a4.add 2) fun x7 =>
 Ld (.int .i64) w3 (a4.add 3) fun x8 =>
 c_ref22_DB_Find a0 x5 x6 x7 x8 w3 fun r9 r10 w11 =>
 (bif r10 then
 K 0 9 w11
 else
 Ld (.int .i64) w11 ((a4.add 4).add 0) fun x12 =>
 Ld (.int .i64) w11 ((a4.add 4).add 1) fun x13 =>
 Ld (.int .i64) w11 ((a4.add 4).add 2) fun x14 =>
 c_ref22_DB_Back a0 x12 x13 x14 w11 fun r15 r16 w17 =>
 (bif r16 then
 K 0 9 w17
 else
 ∃ a18 : Addr, a0 = some a18 ∧
 Ld .slice w17.drew a18 fun x19 =>
 ∃ a20 : Addr, a0 = some a20 ∧
 Ld (.int .i64) w17.drew (a20.add 1) fun x21 =>
 (bif (decide ((x19.len : Int) ≥ x21)) then
 K 0 7 w17.drew
 else
 LoopP (S := Int × Unit) (fun s22 w23 next24 =>
 let J25 : Bool → Prop := fun j26 =>
 ((bif j26 then
 next24 ((IntKind.i64.wrap (s22.1 + 1)), ()) w23
 else
 let J27 : World → Prop := fun w28 =>
 (K s22.1 0 w28)
 ∃ a29 : Addr, a0 = some a29 ∧
 Ld .slice w23.drew a29 fun x30 =>
 SubSl x30 9 0 s22.1 fun s31 =>
 Ld (.int .i64) w23.drew (a4.add 0) fun x32 =>
 Ld (.int .i64) w23.drew (a4.add 1) fun x33 =>
 Ld (.int .i64) w23.drew (a4.add 2) fun x34 =>
 Ld (.int .i64) w23.drew (a4.add 3) fun x35 =>
 Ld (.int .i64) w23.drew (a4.add 4) fun x36 =>
 Ld (.int .i64) w23.drew (a4.add 5) fun x37 =>
 Ld (.int .i64) w23.drew (a4.add 6) fun x38 =>
 Ld .bool w23.drew (a4.add 7) fun x39 =>
 ∃ a40 : Addr, a0 = some a40 ∧
 Ld .slice w23.drew a40 fun x41 =>
 SubSl x41 9 s22.1 (x41.len : Int) fun s42 =>
 (AppSl 106 9 72 [(Value.int .i64 0), (Value.int .i64 0), (Value.int .i64 0), (Value.int .i64 0), (Value.int .i64 0), (Value.int .i64 0), (Value.int .i64 0), (Value.int .i64 0), (Value.bool false)] ⟨none, 0, 0⟩ s31 w23.drew fun s43 w44 =>
 w44.cell? a40 = some (Value.slice x41.a x41.len x41.cap) ∧
 w44.cell? (a4.add 0) = some (Value.int .i64 x32) ∧
 w44.cell? (a4.add 1) = some (Value.int .i64 x33) ∧
 w44.cell? (a4.add 2) = some (Value.int .i64 x34) ∧
 w44.cell? (a4.add 3) = some (Value.int .i64 x35) ∧
 w44.cell? (a4.add 4) = some (Value.int .i64 x36) ∧
 w44.cell? (a4.add 5) = some (Value.int .i64 x37) ∧
 w44.cell? (a4.add 6) = some (Value.int .i64 x38) ∧
 w44.cell? (a4.add 7) = some (Value.bool x39) ∧
 Al w44 (.cells ⟨[(Value.int .i64 s22.1), (Value.int .i64 x32), (Value.int .i64 x33), (Value.int .i64 x34), (Value.int .i64 x35), (Value.int .i64 x36), (Value.int .i64 x37), (Value.int .i64 x38), (Value.bool x39)]⟩ 106) fun a46 w45 =>
 w45.cell? a40 = some (Value.slice x41.a x41.len x41.cap) ∧
 w45.cell? a29 = some (Value.slice x30.a x30.len x30.cap) ∧
 AppSl 106 9 72 [(Value.int .i64 0), (Value.int .i64 0), (Value.int .i64 0), (Value.int .i64 0), (Value.int .i64 0), (Value.int .i64 0), (Value.int .i64 0), (Value.int .i64 0), (Value.bool false)] s43 ⟨(some a46), 1, 1⟩ w45 fun s47 w48 =>
 w48.cell? a40 = some (Value.slice x41.a x41.len x41.cap) ∧
 AppSl 106 9 72 [(Value.int .i64 0), (Value.int .i64 0), (Value.int .i64 0), (Value.int .i64 0), (Value.int .i64 0), (Value.int .i64 0), (Value.int .i64 0), (Value.int .i64 0), (Value.bool false)] s47 s42 w48 fun s49 w50 =>
 ∃ a51 : Addr, a0 = some a51 ∧
 St w50 a51 (Value.slice s49.a s49.len s49.cap) fun w52 =>
 J27 w52) ∧
 (Al w23.drew (.cells ⟨[(Value.int .i64 s22.1), (Value.int .i64 x32), (Value.int .i64 x33), (Value.int .i64 x34), (Value.int .i64 x35), (Value.int .i64 x36), (Value.int .i64 x37), (Value.int .i64 x38), (Value.bool x39)]⟩ 106) fun a54 w53 =>
 w53.cell? a40 = some (Value.slice x41.a x41.len x41.cap) ∧
 w53.cell? a29 = some (Value.slice x30.a x30.len x30.cap) ∧
 AppSl 106 9 72 [(Value.int .i64 0), (Value.int .i64 0), (Value.int .i64 0), (Value.int .i64 0), (Value.int .i64 0), (Value.int .i64 0), (Value.int .i64 0), (Value.int .i64 0), (Value.bool false)] ⟨none, 0, 0⟩ s31 w53 fun s55 w56 =>
 w56.cell? a40 = some (Value.slice x41.a x41.len x41.cap) ∧
 w56.cell? (a4.add 0) = some (Value.int .i64 x32) ∧
 w56.cell? (a4.add 1) = some (Value.int .i64 x33) ∧
 w56.cell? (a4.add 2) = some (Value.int .i64 x34) ∧
 w56.cell? (a4.add 3) = some (Value.int .i64 x35) ∧
 w56.cell? (a4.add 4) = some (Value.int .i64 x36) ∧
 w56.cell? (a4.add 5) = some (Value.int .i64 x37) ∧
 w56.cell? (a4.add 6) = some (Value.int .i64 x38) ∧
 w56.cell? (a4.add 7) = some (Value.bool x39) ∧
 AppSl 106 9 72 [(Value.int .i64 0), (Value.int .i64 0), (Value.int .i64 0), (Value.int .i64 0), (Value.int .i64 0), (Value.int .i64 0), (Value.int .i64 0), (Value.int .i64 0), (Value.bool false)] s55 ⟨(some a54), 1, 1⟩ w56 fun s57 w58 =>
 w58.cell? a40 = some (Value.slice x41.a x41.len x41.cap) ∧
 AppSl 106 9 72 [(Value.int .i64 0), (Value.int .i64 0), (Value.int .i64 0), (Value.int .i64 0), (Value.int .i64 0), (Value.int .i64 0), (Value.int .i64 0), (Value.int .i64 0), (Value.bool false)] s57 s42 w58 fun s59 w60 =>
 ∃ a61 : Addr, a0 = some a61 ∧
 St w60 a61 (Value.slice s59.a s59.len s59.cap) fun w62 =>
 J27 w62)))
 ∃ a63 : Addr, a0 = some a63 ∧
 Ld .slice w23 a63 fun x64 =>
 (bif (decide (s22.1 < (x64.len : Int))) then
 ∃ a65 : Addr, a0 = some a65 ∧
 Ld .slice w23 a65 fun x66 =>
 AtIx x66 9 s22.1 fun a67 =>
 Ld (.int .i64) w23 a67 fun x68 =>
 J25 (x68 == s22.1)
 else
 J25 false)) (0, ()) w17.drew))))
theorem e_ref22_DB_Add (a0 : Option Addr) (a1_0 : Int) (a1_1 : Int) (a1_2 : Int) (a1_3 : Int) (a1_4 : Int) (a1_5 : Int) (a1_6 : Int) (a1_7 : Bool) (w : World) (K : Int → Int → World → Prop) : den Try.prog 81 (bodyOf Try.f18) none (.seq .leaf (.seq (.seq .leaf (.seq .leaf (.cond (.seq .leaf .leaf) .leaf))) (.seq (.seq .leaf (.seq .leaf (.cond (.seq .leaf .leaf) .leaf))) (.seq (.seq .leaf (.cond (.seq .leaf .leaf) .leaf)) (.seq .leaf (.seq (.blk (.loop [(10, (.int .i64))] (.seq (.seq .leaf (.cond .leaf .leaf)) (.blk .leaf)))) (.seq .leaf (.seq .leaf .leaf)))))))) (argEnv 0 [(Value.pointer a0), (Value.agg ⟨[(Value.int .i64 a1_0), (Value.int .i64 a1_1), (Value.int .i64 a1_2), (Value.int .i64 a1_3), (Value.int .i64 a1_4), (Value.int .i64 a1_5), (Value.int .i64 a1_6), (Value.bool a1_7)]⟩)]) [] w (retK Try.prog [.tmp 4, .tmp 5] [.one (.int .i64), .one (.int .i64)] K) = s_ref22_DB_Add a0 a1_0 a1_1 a1_2 a1_3 a1_4 a1_5 a1_6 a1_7 w K := by kernel_rfl
theorem ok_ref22_DB_Add {a0 a1_0 a1_1 a1_2 a1_3 a1_4 a1_5 a1_6 a1_7 w K} (h : s_ref22_DB_Add a0 a1_0 a1_1 a1_2 a1_3 a1_4 a1_5 a1_6 a1_7 w K) : c_ref22_DB_Add a0 a1_0 a1_1 a1_2 a1_3 a1_4 a1_5 a1_6 a1_7 w K :=
  fn_sound pok Try.func18 (fn := Try.f18) (c := bodyOf Try.f18) (nt := 81) (by kernel_rfl) (by kernel_rfl) (rs := [.tmp 4, .tmp 5]) (by kernel_rfl) [.one (.int .i64), .one (.int .i64)] K (.seq .leaf (.seq (.seq .leaf (.seq .leaf (.cond (.seq .leaf .leaf) .leaf))) (.seq (.seq .leaf (.seq .leaf (.cond (.seq .leaf .leaf) .leaf))) (.seq (.seq .leaf (.cond (.seq .leaf .leaf) .leaf)) (.seq .leaf (.seq (.blk (.loop [(10, (.int .i64))] (.seq (.seq .leaf (.cond .leaf .leaf)) (.blk .leaf)))) (.seq .leaf (.seq .leaf .leaf)))))))) [(Value.pointer a0), (Value.agg ⟨[(Value.int .i64 a1_0), (Value.int .i64 a1_1), (Value.int .i64 a1_2), (Value.int .i64 a1_3), (Value.int .i64 a1_4), (Value.int .i64 a1_5), (Value.int .i64 a1_6), (Value.bool a1_7)]⟩)] (by kernel_rfl) w ((e_ref22_DB_Add a0 a1_0 a1_1 a1_2 a1_3 a1_4 a1_5 a1_6 a1_7 w K).mpr h)

/-- (*goosepond/goosepondref22.DB).Remove -/
def s_ref22_DB_Remove (a0 : Option Addr) (a1 : Int) (w : World) (K : Bool → World → Prop) : Prop :=
 (LoopP (S := SliceV × Int × Unit) (fun s3 w4 next5 =>
 ∃ a6 : Addr, a0 = some a6 ∧
 Ld .slice w4 a6 fun x7 =>
 (bif (decide (s3.2.1 < (x7.len : Int))) then
 let J8 : SliceV → World → Prop := fun j9 w10 =>
 (next5 (j9, (IntKind.i64.wrap (s3.2.1 + 1)), ()) w10)
 ∃ a11 : Addr, a0 = some a11 ∧
 Ld .slice w4 a11 fun x12 =>
 AtIx x12 9 s3.2.1 fun a13 =>
 Ld (.int .i64) w4 a13 fun x14 =>
 (bif (x14 != a1) then
 ∃ a15 : Addr, a0 = some a15 ∧
 Ld .slice w4 a15 fun x16 =>
 AtIx x16 9 s3.2.1 fun a17 =>
 Ld (.int .i64) w4 (a17.add 0) fun x18 =>
 Ld (.int .i64) w4 (a17.add 1) fun x19 =>
 Ld (.int .i64) w4 (a17.add 2) fun x20 =>
 Ld (.int .i64) w4 (a17.add 3) fun x21 =>
 Ld (.int .i64) w4 (a17.add 4) fun x22 =>
 Ld (.int .i64) w4 (a17.add 5) fun x23 =>
 Ld (.int .i64) w4 (a17.add 6) fun x24 =>
 Ld (.int .i64) w4 (a17.add 7) fun x25 =>
 Ld .bool w4 (a17.add 8) fun x26 =>
 Al w4 (.cells ⟨[(Value.int .i64 x18), (Value.int .i64 x19), (Value.int .i64 x20), (Value.int .i64 x21), (Value.int .i64 x22), (Value.int .i64 x23), (Value.int .i64 x24), (Value.int .i64 x25), (Value.bool x26)]⟩ 106) fun a28 w27 =>
 AppSl 106 9 72 [(Value.int .i64 0), (Value.int .i64 0), (Value.int .i64 0), (Value.int .i64 0), (Value.int .i64 0), (Value.int .i64 0), (Value.int .i64 0), (Value.int .i64 0), (Value.bool false)] s3.1 ⟨(some a28), 1, 1⟩ w27 fun s29 w30 =>
 J8 s29 w30
 else
 J8 s3.1 w4)
 else
 ∃ a31 : Addr, a0 = some a31 ∧
 Ld .slice w4 a31 fun x32 =>
 ∃ a33 : Addr, a0 = some a33 ∧
 St w4 a33 (Value.slice s3.1.a s3.1.len s3.1.cap) fun w34 =>
 K (decide ((s3.1.len : Int) < (x32.len : Int))) w34)) (⟨none, 0, 0⟩, 0, ()) w)
theorem e_ref22_DB_Remove (a0 : Option Addr) (a1 : Int) (w : World) (K : Bool → World → Prop) : den Try.prog 50 (bodyOf Try.f19) none (.seq .leaf (.seq .leaf (.seq (.seq .leaf (.blk (.loop [(5, .slice), (6, (.int .i64))] (.seq (.seq .leaf (.cond .leaf .leaf)) (.seq (.blk (.seq .leaf (.cond .leaf .leaf))) .leaf))))) (.seq .leaf (.seq .leaf (.seq .leaf .leaf)))))) (argEnv 0 [(Value.pointer a0), (Value.int .i64 a1)]) [] w (retK Try.prog [.tmp 4] [.one .bool] K) = s_ref22_DB_Remove a0 a1 w K := by kernel_rfl
theorem ok_ref22_DB_Remove {a0 a1 w K} (h : s_ref22_DB_Remove a0 a1 w K) : c_ref22_DB_Remove a0 a1 w K :=
  fn_sound pok Try.func19 (fn := Try.f19) (c := bodyOf Try.f19) (nt := 50) (by kernel_rfl) (by kernel_rfl) (rs := [.tmp 4]) (by kernel_rfl) [.one .bool] K (.seq .leaf (.seq .leaf (.seq (.seq .leaf (.blk (.loop [(5, .slice), (6, (.int .i64))] (.seq (.seq .leaf (.cond .leaf .leaf)) (.seq (.blk (.seq .leaf (.cond .leaf .leaf))) .leaf))))) (.seq .leaf (.seq .leaf (.seq .leaf .leaf)))))) [(Value.pointer a0), (Value.int .i64 a1)] (by kernel_rfl) w ((e_ref22_DB_Remove a0 a1 w K).mpr h)

/-- (*goosepond/bind.DB).Get -/
def s_bind_DB_Get (a0 : Option Addr) (a1 : Int) (w : World) (K : Int → Int → Int → Int → Int → Int → Int → Bool → Bool → World → Prop) : Prop :=
 (Al w (.cells ⟨[(Value.int .i64 0), (Value.int .i64 0), (Value.int .i64 0), (Value.int .i64 0), (Value.int .i64 0), (Value.int .i64 0), (Value.int .i64 0), (Value.bool false)]⟩ 33) fun a4 w3 =>
 c_bind_DB_has a0 a1 w3 fun r5 w6 =>
 (bif (!r5) then
 StN [(Value.int .i64 0), (Value.int .i64 0), (Value.int .i64 0), (Value.int .i64 0), (Value.int .i64 0), (Value.int .i64 0), (Value.int .i64 0), (Value.bool false)] w6 a4 0 fun w7 =>
 Ld (.int .i64) w7 (a4.add 0) fun y8 =>
 Ld (.int .i64) w7 (a4.add 1) fun y9 =>
 Ld (.int .i64) w7 (a4.add 2) fun y10 =>
 Ld (.int .i64) w7 (a4.add 3) fun y11 =>
 Ld (.int .i64) w7 (a4.add 4) fun y12 =>
 Ld (.int .i64) w7 (a4.add 5) fun y13 =>
 Ld (.int .i64) w7 (a4.add 6) fun y14 =>
 Ld .bool w7 (a4.add 7) fun y15 =>
 K y8 y9 y10 y11 y12 y13 y14 y15 false w7
 else
 ∃ a16 : Addr, a0 = some a16 ∧
 Ld .slice w6 a16 fun x17 =>
 AtIx x17 9 a1 fun a18 =>
 Ld (.int .i64) w6 (a18.add 0) fun x19 =>
 Ld (.int .i64) w6 (a18.add 1) fun x20 =>
 Ld (.int .i64) w6 (a18.add 2) fun x21 =>
 Ld (.int .i64) w6 (a18.add 3) fun x22 =>
 Ld (.int .i64) w6 (a18.add 4) fun x23 =>
 Ld (.int .i64) w6 (a18.add 5) fun x24 =>
 Ld (.int .i64) w6 (a18.add 6) fun x25 =>
 Ld .bool w6 (a18.add 7) fun x26 =>
 StN [(Value.int .i64 x19), (Value.int .i64 x20), (Value.int .i64 x21), (Value.int .i64 x22), (Value.int .i64 x23), (Value.int .i64 x24), (Value.int .i64 x25), (Value.bool x26)] w6 a4 0 fun w27 =>
 Ld (.int .i64) w27 (a4.add 0) fun y28 =>
 Ld (.int .i64) w27 (a4.add 1) fun y29 =>
 Ld (.int .i64) w27 (a4.add 2) fun y30 =>
 Ld (.int .i64) w27 (a4.add 3) fun y31 =>
 Ld (.int .i64) w27 (a4.add 4) fun y32 =>
 Ld (.int .i64) w27 (a4.add 5) fun y33 =>
 Ld (.int .i64) w27 (a4.add 6) fun y34 =>
 Ld .bool w27 (a4.add 7) fun y35 =>
 K y28 y29 y30 y31 y32 y33 y34 y35 true w27))
theorem e_bind_DB_Get (a0 : Option Addr) (a1 : Int) (w : World) (K : Int → Int → Int → Int → Int → Int → Int → Bool → Bool → World → Prop) : den Try.prog 19 (bodyOf Try.f20) none (.seq .leaf (.seq (.seq .leaf (.cond (.seq .leaf .leaf) .leaf)) (.seq .leaf .leaf))) (argEnv 0 [(Value.pointer a0), (Value.int .i64 a1)]) [] w (retK Try.prog [.cell 4 33, .tmp 5] [.agg [(.int .i64), (.int .i64), (.int .i64), (.int .i64), (.int .i64), (.int .i64), (.int .i64), .bool], .one .bool] K) = s_bind_DB_Get a0 a1 w K := by kernel_rfl
theorem ok_bind_DB_Get {a0 a1 w K} (h : s_bind_DB_Get a0 a1 w K) : c_bind_DB_Get a0 a1 w K :=
  fn_sound pok Try.func20 (fn := Try.f20) (c := bodyOf Try.f20) (nt := 19) (by kernel_rfl) (by kernel_rfl) (rs := [.cell 4 33, .tmp 5]) (by kernel_rfl) [.agg [(.int .i64), (.int .i64), (.int .i64), (.int .i64), (.int .i64), (.int .i64), (.int .i64), .bool], .one .bool] K (.seq .leaf (.seq (.seq .leaf (.cond (.seq .leaf .leaf) .leaf)) (.seq .leaf .leaf))) [(Value.pointer a0), (Value.int .i64 a1)] (by kernel_rfl) w ((e_bind_DB_Get a0 a1 w K).mpr h)

/-- (*goosepond/goosepondref22.DB).Get -/
def s_ref22_DB_Get (a0 : Option Addr) (a1 : Int) (w : World) (K : Int → Int → Int → Int → Int → Int → Int → Bool → Bool → World → Prop) : Prop :=
 (Al w (.cells ⟨[(Value.int .i64 0), (Value.int .i64 0), (Value.int .i64 0), (Value.int .i64 0), (Value.int .i64 0), (Value.int .i64 0), (Value.int .i64 0), (Value.bool false)]⟩ 33) fun a4 w3 =>
 LoopP (S := Int × Unit) (fun s5 w6 next7 =>
 ∃ a8 : Addr, a0 = some a8 ∧
 Ld .slice w6 a8 fun x9 =>
 (bif (decide (s5.1 < (x9.len : Int))) then
 ∃ a10 : Addr, a0 = some a10 ∧
 Ld .slice w6 a10 fun x11 =>
 AtIx x11 9 s5.1 fun a12 =>
 Ld (.int .i64) w6 a12 fun x13 =>
 (bif (x13 == a1) then
 ∃ a14 : Addr, a0 = some a14 ∧
 Ld .slice w6 a14 fun x15 =>
 AtIx x15 9 s5.1 fun a16 =>
 Ld (.int .i64) w6 ((a16.add 1).add 0) fun x17 =>
 Ld (.int .i64) w6 ((a16.add 1).add 1) fun x18 =>
 Ld (.int .i64) w6 ((a16.add 1).add 2) fun x19 =>
 Ld (.int .i64) w6 ((a16.add 1).add 3) fun x20 =>
 Ld (.int .i64) w6 ((a16.add 1).add 4) fun x21 =>
 Ld (.int .i64) w6 ((a16.add 1).add 5) fun x22 =>
 Ld (.int .i64) w6 ((a16.add 1).add 6) fun x23 =>
 Ld .bool w6 ((a16.add 1).add 7) fun x24 =>
 StN [(Value.int .i64 x17), (Value.int .i64 x18), (Value.int .i64 x19), (Value.int .i64 x20), (Value.int .i64 x21), (Value.int .i64 x22), (Value.int .i64 x23), (Value.bool x24)] w6 a4 0 fun w25 =>
 Ld (.int .i64) w25 (a4.add 0) fun y26 =>
 Ld (.int .i64) w25 (a4.add 1) fun y27 =>
 Ld (.int .i64) w25 (a4.add 2) fun y28 =>
 Ld (.int .i64) w25 (a4.add 3) fun y29 =>
 Ld (.int .i64) w25 (a4.add 4) fun y30 =>
 Ld (.int .i64) w25 (a4.add 5) fun y31 =>
 Ld (.int .i64) w25 (a4.add 6) fun y32 =>
 Ld .bool w25 (a4.add 7) fun y33 =>
 K y26 y27 y28 y29 y30 y31 y32 y33 true w25
 else
 next7 ((IntKind.i64.wrap (s5.1 + 1)), ()) w6)
 else
 StN [(Value.int .i64 0), (Value.int .i64 0), (Value.int .i64 0), (Value.int .i64 0), (Value.int .i64 0), (Value.int .i64 0), (Value.int .i64 0), (Value.bool false)] w6 a4 0 fun w34 =>
 Ld (.int .i64) w34 (a4.add 0) fun y35 =>
 Ld (.int .i64) w34 (a4.add 1) fun y36 =>
 Ld (.int .i64) w34 (a4.add 2) fun y37 =>
 Ld (.int .i64) w34 (a4.add 3) fun y38 =>
 Ld (.int .i64) w34 (a4.add 4) fun y39 =>
 Ld (.int .i64) w34 (a4.add 5) fun y40 =>
 Ld (.int .i64) w34 (a4.add 6) fun y41 =>
 Ld .bool w34 (a4.add 7) fun y42 =>
 K y35 y36 y37 y38 y39 y40 y41 y42 false w34)) (0, ()) w3)
theorem e_ref22_DB_Get (a0 : Option Addr) (a1 : Int) (w : World) (K : Int → Int → Int → Int → Int → Int → Int → Bool → Bool → World → Prop) : den Try.prog 35 (bodyOf Try.f21) none (.seq .leaf (.seq (.seq .leaf (.blk (.loop [(6, (.int .i64))] (.seq (.seq .leaf (.cond .leaf .leaf)) (.seq (.blk (.seq .leaf (.cond (.seq .leaf .leaf) .leaf))) .leaf))))) (.seq .leaf .leaf))) (argEnv 0 [(Value.pointer a0), (Value.int .i64 a1)]) [] w (retK Try.prog [.cell 4 33, .tmp 5] [.agg [(.int .i64), (.int .i64), (.int .i64), (.int .i64), (.int .i64), (.int .i64), (.int .i64), .bool], .one .bool] K) = s_ref22_DB_Get a0 a1 w K := by kernel_rfl
theorem ok_ref22_DB_Get {a0 a1 w K} (h : s_ref22_DB_Get a0 a1 w K) : c_ref22_DB_Get a0 a1 w K :=
  fn_sound pok Try.func21 (fn := Try.f21) (c := bodyOf Try.f21) (nt := 35) (by kernel_rfl) (by kernel_rfl) (rs := [.cell 4 33, .tmp 5]) (by kernel_rfl) [.agg [(.int .i64), (.int .i64), (.int .i64), (.int .i64), (.int .i64), (.int .i64), (.int .i64), .bool], .one .bool] K (.seq .leaf (.seq (.seq .leaf (.blk (.loop [(6, (.int .i64))] (.seq (.seq .leaf (.cond .leaf .leaf)) (.seq (.blk (.seq .leaf (.cond (.seq .leaf .leaf) .leaf))) .leaf))))) (.seq .leaf .leaf))) [(Value.pointer a0), (Value.int .i64 a1)] (by kernel_rfl) w ((e_ref22_DB_Get a0 a1 w K).mpr h)

/-- (*goosepond/goosepondref22.DB).Find -/
def s_ref22_DB_Find (a0 : Option Addr) (a1_0 : Int) (a1_1 : Int) (a1_2 : Int) (a1_3 : Int) (w : World) (K : Int → Bool → World → Prop) : Prop :=
 (Al w (.cells ⟨[(Value.int .i64 a1_0), (Value.int .i64 a1_1), (Value.int .i64 a1_2), (Value.int .i64 a1_3)]⟩ 29) fun a4 w3 =>
 LoopP (S := Int × Unit) (fun s5 w6 next7 =>
 ∃ a8 : Addr, a0 = some a8 ∧
 Ld .slice w6 a8 fun x9 =>
 (bif (decide (s5.1 < (x9.len : Int))) then
 ∃ a10 : Addr, a0 = some a10 ∧
 Ld .slice w6.drew a10 fun x11 =>
 AtIx x11 9 s5.1 fun a12 =>
 Ld (.int .i64) w6.drew ((a12.add 1).add 0) fun x13 =>
 Ld (.int .i64) w6.drew ((a12.add 1).add 1) fun x14 =>
 Ld (.int .i64) w6.drew ((a12.add 1).add 2) fun x15 =>
 Ld (.int .i64) w6.drew ((a12.add 1).add 3) fun x16 =>
 Ld (.int .i64) w6.drew (a4.add 0) fun x17 =>
 Ld (.int .i64) w6.drew (a4.add 1) fun x18 =>
 Ld (.int .i64) w6.drew (a4.add 2) fun x19 =>
 Ld (.int .i64) w6.drew (a4.add 3) fun x20 =>
 (bif ((x13 == x17) && ((x14 == x18) && ((x15 == x19) && ((x16 == x20) && true)))) then
 ∃ a21 : Addr, a0 = some a21 ∧
 Ld .slice w6.drew a21 fun x22 =>
 AtIx x22 9 s5.1 fun a23 =>
 Ld (.int .i64) w6.drew a23 fun x24 =>
 K x24 true w6.drew
 else
 next7 ((IntKind.i64.wrap (s5.1 + 1)), ()) w6.drew)
 else
 K 0 false w6)) (0, ()) w3)
theorem e_ref22_DB_Find (a0 : Option Addr) (a1_0 : Int) (a1_1 : Int) (a1_2 : Int) (a1_3 : Int) (w : World) (K : Int → Bool → World → Prop) : den Try.prog 35 (bodyOf Try.f22) none (.seq .leaf (.seq (.seq .leaf (.blk (.loop [(6, (.int .i64))] (.seq (.seq .leaf (.cond .leaf .leaf)) (.seq (.blk (.seq .leaf (.cond (.seq .leaf .leaf) .leaf))) .leaf))))) (.seq .leaf .leaf))) (argEnv 0 [(Value.pointer a0), (Value.agg ⟨[(Value.int .i64 a1_0), (Value.int .i64 a1_1), (Value.int .i64 a1_2), (Value.int .i64 a1_3)]⟩)]) [] w (retK Try.prog [.tmp 4, .tmp 5] [.one (.int .i64), .one .bool] K) = s_ref22_DB_Find a0 a1_0 a1_1 a1_2 a1_3 w K := by kernel_rfl
theorem ok_ref22_DB_Find {a0 a1_0 a1_1 a1_2 a1_3 w K} (h : s_ref22_DB_Find a0 a1_0 a1_1 a1_2 a1_3 w K) : c_ref22_DB_Find a0 a1_0 a1_1 a1_2 a1_3 w K :=
  fn_sound pok Try.func22 (fn := Try.f22) (c := bodyOf Try.f22) (nt := 35) (by kernel_rfl) (by kernel_rfl) (rs := [.tmp 4, .tmp 5]) (by kernel_rfl) [.one (.int .i64), .one .bool] K (.seq .leaf (.seq (.seq .leaf (.blk (.loop [(6, (.int .i64))] (.seq (.seq .leaf (.cond .leaf .leaf)) (.seq (.blk (.seq .leaf (.cond (.seq .leaf .leaf) .leaf))) .leaf))))) (.seq .leaf .leaf))) [(Value.pointer a0), (Value.agg ⟨[(Value.int .i64 a1_0), (Value.int .i64 a1_1), (Value.int .i64 a1_2), (Value.int .i64 a1_3)]⟩)] (by kernel_rfl) w ((e_ref22_DB_Find a0 a1_0 a1_1 a1_2 a1_3 w K).mpr h)

/-- (*goosepond/goosepondref22.DB).Back -/
def s_ref22_DB_Back (a0 : Option Addr) (a1_0 : Int) (a1_1 : Int) (a1_2 : Int) (w : World) (K : Int → Bool → World → Prop) : Prop :=
 (Al w (.cells ⟨[(Value.int .i64 a1_0), (Value.int .i64 a1_1), (Value.int .i64 a1_2)]⟩ 31) fun a4 w3 =>
 LoopP (S := Int × Unit) (fun s5 w6 next7 =>
 ∃ a8 : Addr, a0 = some a8 ∧
 Ld .slice w6 a8 fun x9 =>
 (bif (decide (s5.1 < (x9.len : Int))) then
 ∃ a10 : Addr, a0 = some a10 ∧
 Ld .slice w6.drew a10 fun x11 =>
 AtIx x11 9 s5.1 fun a12 =>
 Ld (.int .i64) w6.drew (((a12.add 1).add 4).add 0) fun x13 =>
 Ld (.int .i64) w6.drew (((a12.add 1).add 4).add 1) fun x14 =>
 Ld (.int .i64) w6.drew (((a12.add 1).add 4).add 2) fun x15 =>
 Ld (.int .i64) w6.drew (a4.add 0) fun x16 =>
 Ld (.int .i64) w6.drew (a4.add 1) fun x17 =>
 Ld (.int .i64) w6.drew (a4.add 2) fun x18 =>
 (bif ((x13 == x16) && ((x14 == x17) && ((x15 == x18) && true))) then
 ∃ a19 : Addr, a0 = some a19 ∧
 Ld .slice w6.drew a19 fun x20 =>
 AtIx x20 9 s5.1 fun a21 =>
 Ld (.int .i64) w6.drew a21 fun x22 =>
 K x22 true w6.drew
 else
 next7 ((IntKind.i64.wrap (s5.1 + 1)), ()) w6.drew)
 else
 K 0 false w6)) (0, ()) w3)
theorem e_ref22_DB_Back (a0 : Option Addr) (a1_0 : Int) (a1_1 : Int) (a1_2 : Int) (w : World) (K : Int → Bool → World → Prop) : den Try.prog 35 (bodyOf Try.f23) none (.seq .leaf (.seq (.seq .leaf (.blk (.loop [(6, (.int .i64))] (.seq (.seq .leaf (.cond .leaf .leaf)) (.seq (.blk (.seq .leaf (.cond (.seq .leaf .leaf) .leaf))) .leaf))))) (.seq .leaf .leaf))) (argEnv 0 [(Value.pointer a0), (Value.agg ⟨[(Value.int .i64 a1_0), (Value.int .i64 a1_1), (Value.int .i64 a1_2)]⟩)]) [] w (retK Try.prog [.tmp 4, .tmp 5] [.one (.int .i64), .one .bool] K) = s_ref22_DB_Back a0 a1_0 a1_1 a1_2 w K := by kernel_rfl
theorem ok_ref22_DB_Back {a0 a1_0 a1_1 a1_2 w K} (h : s_ref22_DB_Back a0 a1_0 a1_1 a1_2 w K) : c_ref22_DB_Back a0 a1_0 a1_1 a1_2 w K :=
  fn_sound pok Try.func23 (fn := Try.f23) (c := bodyOf Try.f23) (nt := 35) (by kernel_rfl) (by kernel_rfl) (rs := [.tmp 4, .tmp 5]) (by kernel_rfl) [.one (.int .i64), .one .bool] K (.seq .leaf (.seq (.seq .leaf (.blk (.loop [(6, (.int .i64))] (.seq (.seq .leaf (.cond .leaf .leaf)) (.seq (.blk (.seq .leaf (.cond (.seq .leaf .leaf) .leaf))) .leaf))))) (.seq .leaf .leaf))) [(Value.pointer a0), (Value.agg ⟨[(Value.int .i64 a1_0), (Value.int .i64 a1_1), (Value.int .i64 a1_2)]⟩)] (by kernel_rfl) w ((e_ref22_DB_Back a0 a1_0 a1_1 a1_2 w K).mpr h)

/-- goosepond/goosepondlaw22.same -/
def s_law22_same (a0 : Option Addr) (a1 : Option Addr) (w : World) (K : Bool → World → Prop) : Prop :=
 (isOne (Value.pointer a1) = true ∧
 Al w (.cells ⟨[(Value.pointer a1)]⟩ 49) fun a4 w3 =>
 Al w3 (.cells ⟨[(Value.bool false)]⟩ 4) fun a6 w5 =>
 Al w5 (.cells ⟨[(Value.int .i64 0)]⟩ 3) fun a8 w7 =>
 St w7 a8 (Value.int .i64 0) fun w9 =>
 c_bind_DB_All a0 w9 fun r10 w11 =>
 RngP Try.prog none [.one (.int .i64), .agg [(.int .i64), (.int .i64), (.int .i64), (.int .i64), (.int .i64), (.int .i64), (.int .i64), .bool]] r10 w11 (fun l12 x13 W14 Kb15 =>
 Al W14 (.cells ⟨[(Value.int .i64 0), (Value.int .i64 0), (Value.int .i64 0), (Value.int .i64 0), (Value.int .i64 0), (Value.int .i64 0), (Value.int .i64 0), (Value.bool false)]⟩ 33) fun a17 w16 =>
 StN [(Value.int .i64 x13.2.1.1), (Value.int .i64 x13.2.1.2.1), (Value.int .i64 x13.2.1.2.2.1), (Value.int .i64 x13.2.1.2.2.2.1), (Value.int .i64 x13.2.1.2.2.2.2.1), (Value.int .i64 x13.2.1.2.2.2.2.2.1), (Value.int .i64 x13.2.1.2.2.2.2.2.2.1), (Value.bool x13.2.1.2.2.2.2.2.2.2.1)] w16 a17 0 fun w18 =>
 w18.heap[l12]? = W14.heap[l12]? ∧
 let J19 : Bool → World → Prop := fun j20 w21 =>
 ((bif j20 then
 St w21 a6 (Value.bool false) fun w22 =>
 Kb15 .ret w22
 else
 Ld (.int .i64) w21 a8 fun x23 =>
 St w21 a8 (Value.int .i64 (IntKind.i64.wrap (x23 + 1))) fun w24 =>
 Kb15 .normal w24))
 Ld (.int .i64) (busyW w18 l12).drew a8 fun x25 =>
 Ld .ptr (busyW w18 l12).drew a4 fun x26 =>
 ∃ a27 : Addr, x26 = some a27 ∧
 Ld .slice (busyW w18 l12).drew a27 fun x28 =>
 (bif (decide (x25 ≥ (x28.len : Int))) then
 J19 true (busyW w18 l12).drew
 else
 Ld .ptr (busyW w18 l12).drew a4 fun x29 =>
 ∃ a30 : Addr, x29 = some a30 ∧
 Ld .slice (busyW w18 l12).drew a30 fun x31 =>
 Ld (.int .i64) (busyW w18 l12).drew a8 fun x32 =>
 AtIx x31 9 x32 fun a33 =>
 Ld (.int .i64) (busyW w18 l12).drew a33 fun x34 =>
 (bif (x34 != x13.1) then
 J19 true (busyW w18 l12).drew
 else
 Ld .ptr (busyW w18 l12).drew a4 fun x35 =>
 ∃ a36 : Addr, x35 = some a36 ∧
 Ld .slice (busyW w18 l12).drew a36 fun x37 =>
 Ld (.int .i64) (busyW w18 l12).drew a8 fun x38 =>
 AtIx x37 9 x38 fun a39 =>
 Ld (.int .i64) (busyW w18 l12).drew ((a39.add 1).add 0) fun x40 =>
 Ld (.int .i64) (busyW w18 l12).drew ((a39.add 1).add 1) fun x41 =>
 Ld (.int .i64) (busyW w18 l12).drew ((a39.add 1).add 2) fun x42 =>
 Ld (.int .i64) (busyW w18 l12).drew ((a39.add 1).add 3) fun x43 =>
 Ld (.int .i64) (busyW w18 l12).drew ((a39.add 1).add 4) fun x44 =>
 Ld (.int .i64) (busyW w18 l12).drew ((a39.add 1).add 5) fun x45 =>
 Ld (.int .i64) (busyW w18 l12).drew ((a39.add 1).add 6) fun x46 =>
 Ld .bool (busyW w18 l12).drew ((a39.add 1).add 7) fun x47 =>
 Ld (.int .i64) (busyW w18 l12).drew (a17.add 0) fun x48 =>
 Ld (.int .i64) (busyW w18 l12).drew (a17.add 1) fun x49 =>
 Ld (.int .i64) (busyW w18 l12).drew (a17.add 2) fun x50 =>
 Ld (.int .i64) (busyW w18 l12).drew (a17.add 3) fun x51 =>
 Ld (.int .i64) (busyW w18 l12).drew (a17.add 4) fun x52 =>
 Ld (.int .i64) (busyW w18 l12).drew (a17.add 5) fun x53 =>
 Ld (.int .i64) (busyW w18 l12).drew (a17.add 6) fun x54 =>
 Ld .bool (busyW w18 l12).drew (a17.add 7) fun x55 =>
 J19 (!(((x40 == x48) && ((x41 == x49) && ((x42 == x50) && ((x43 == x51) && true)))) && (((x44 == x52) && ((x45 == x53) && ((x46 == x54) && true))) && (((x47 : Bool) == x55) && true)))) (busyW w18 l12).drew)))
 (fun w56 =>
 let J57 : World → Prop := fun w58 =>
 (w58.heap[w11.heap.size]? = some (.deferred (some [])) ∧
 Ld .bool (w58.putObj w11.heap.size (.deferred none)) a6 fun y59 =>
 K y59 (w58.putObj w11.heap.size (.deferred none)))
 Ld (.int .i64) w56.drew a8 fun x60 =>
 Ld .ptr w56.drew a4 fun x61 =>
 ∃ a62 : Addr, x61 = some a62 ∧
 Ld .slice w56.drew a62 fun x63 =>
 (bif (x60 == (x63.len : Int)) then
 Ld (.int .i64) w56.drew a8 fun x64 =>
 c_bind_DB_Len a0 w56.drew fun r65 w66 =>
 w66.cell? a8 = some (Value.int .i64 x64) ∧
 St w66 a6 (Value.bool (r65 == x64)) fun w67 =>
 J57 w67
 else
 St w56.drew a6 (Value.bool false) fun w68 =>
 J57 w68))
 (fun w69 =>
 w69.heap[w11.heap.size]? = some (.deferred (some [])) ∧
 Ld .bool (w69.putObj w11.heap.size (.deferred none)) a6 fun y70 =>
 K y70 (w69.putObj w11.heap.size (.deferred none)))
 [])
theorem e_law22_same (a0 : Option Addr) (a1 : Option Addr) (w : World) (K : Bool → World → Prop) : den Try.prog 58 (bodyOf Try.f24) none (.seq .leaf (.seq .leaf (.seq (.seq .leaf (.blk (.rng [.one (.int .i64), .agg [(.int .i64), (.int .i64), (.int .i64), (.int .i64), (.int .i64), (.int .i64), (.int .i64), .bool]] (.seq .leaf .leaf) (.blk (.seq (.seq .leaf (.cond (.seq .leaf .leaf) .leaf)) .leaf))))) (.seq .leaf .leaf)))) (argEnv 0 [(Value.pointer a0), (Value.pointer a1)]) [] w (retK Try.prog [.cell 4 4] [.one .bool] K) = s_law22_same a0 a1 w K := by kernel_rfl
theorem ok_law22_same {a0 a1 w K} (h : s_law22_same a0 a1 w K) : c_law22_same a0 a1 w K :=
  fn_sound pok Try.func24 (fn := Try.f24) (c := bodyOf Try.f24) (nt := 58) (by kernel_rfl) (by kernel_rfl) (rs := [.cell 4 4]) (by kernel_rfl) [.one .bool] K (.seq .leaf (.seq .leaf (.seq (.seq .leaf (.blk (.rng [.one (.int .i64), .agg [(.int .i64), (.int .i64), (.int .i64), (.int .i64), (.int .i64), (.int .i64), (.int .i64), .bool]] (.seq .leaf .leaf) (.blk (.seq (.seq .leaf (.cond (.seq .leaf .leaf) .leaf)) .leaf))))) (.seq .leaf .leaf)))) [(Value.pointer a0), (Value.pointer a1)] (by kernel_rfl) w ((e_law22_same a0 a1 w K).mpr h)

/-- goosepond/hash.New -/
def s_hash_New (a0 : Int) (w : World) (K : (Option Addr) → Int → World → Prop) : Prop :=
 (let J2 : Bool → Prop := fun j3 =>
 ((bif j3 then
 K none 1 w
 else
 Al w (.cells ⟨[(Value.slice none 0 0), (Value.int .i64 0), (Value.int .i64 a0), (Value.bool true)]⟩ 127) fun a5 w4 =>
 K (some a5) 0 w4))
 (bif (decide (a0 < 0)) then
 J2 true
 else
 J2 (decide (a0 > 65536))))
theorem e_hash_New (a0 : Int) (w : World) (K : (Option Addr) → Int → World → Prop) : den Try.prog 13 (bodyOf Try.f42) none (.seq .leaf (.seq (.seq .leaf (.cond (.seq .leaf .leaf) .leaf)) (.seq .leaf .leaf))) (argEnv 0 [(Value.int .i64 a0)]) [] w (retK Try.prog [.tmp 2, .tmp 3] [.one .ptr, .one (.int .i64)] K) = s_hash_New a0 w K := by kernel_rfl
theorem ok_hash_New {a0 w K} (h : s_hash_New a0 w K) : c_hash_New a0 w K :=
  fn_sound pok Try.func42 (fn := Try.f42) (c := bodyOf Try.f42) (nt := 13) (by kernel_rfl) (by kernel_rfl) (rs := [.tmp 2, .tmp 3]) (by kernel_rfl) [.one .ptr, .one (.int .i64)] K (.seq .leaf (.seq (.seq .leaf (.cond (.seq .leaf .leaf) .leaf)) (.seq .leaf .leaf))) [(Value.int .i64 a0)] (by kernel_rfl) w ((e_hash_New a0 w K).mpr h)

/-- (*goosepond/bind.DB).ready -/
def s_bind_DB_ready (a0 : Option Addr) (w : World) (K : Bool → World → Prop) : Prop :=
 (let J2 : Bool → Prop := fun j3 =>
 (K j3 w)
 (bif (!(Option.isNone a0)) then
 ∃ a4 : Addr, a0 = some a4 ∧
 Ld .ptr w (a4.add 1) fun x5 =>
 J2 (!(Option.isNone x5))
 else
 J2 false))
theorem e_bind_DB_ready (a0 : Option Addr) (w : World) (K : Bool → World → Prop) : den Try.prog 12 (bodyOf Try.f43) none (.seq .leaf (.seq .leaf .leaf)) (argEnv 0 [(Value.pointer a0)]) [] w (retK Try.prog [.tmp 2] [.one .bool] K) = s_bind_DB_ready a0 w K := by kernel_rfl
theorem ok_bind_DB_ready {a0 w K} (h : s_bind_DB_ready a0 w K) : c_bind_DB_ready a0 w K :=
  fn_sound pok Try.func43 (fn := Try.f43) (c := bodyOf Try.f43) (nt := 12) (by kernel_rfl) (by kernel_rfl) (rs := [.tmp 2]) (by kernel_rfl) [.one .bool] K (.seq .leaf (.seq .leaf .leaf)) [(Value.pointer a0)] (by kernel_rfl) w ((e_bind_DB_ready a0 w K).mpr h)

/-- (*goosepond/bind.DB).free -/
def s_bind_DB_free (a0 : Option Addr) (w : World) (K : Int → Bool → World → Prop) : Prop :=
 (∃ a2 : Addr, a0 = some a2 ∧
 Ld .slice w a2 fun x3 =>
 LoopP (S := Int × Unit) (fun s4 w5 next6 =>
 (bif (decide (s4.1 < (x3.len : Int))) then
 ∃ a7 : Addr, a0 = some a7 ∧
 Ld .slice w5 a7 fun x8 =>
 AtIx x8 9 s4.1 fun a9 =>
 Ld .bool w5 (a9.add 8) fun x10 =>
 (bif (!x10) then
 K s4.1 true w5
 else
 next6 ((IntKind.i64.wrap (s4.1 + 1)), ()) w5)
 else
 K 0 false w5)) (0, ()) w)
theorem e_bind_DB_free (a0 : Option Addr) (w : World) (K : Int → Bool → World → Prop) : den Try.prog 24 (bodyOf Try.f44) none (.seq .leaf (.seq (.seq .leaf (.blk (.loop [(10, (.int .i64))] (.seq .leaf (.seq (.cond .leaf .leaf) (.seq (.blk (.seq .leaf (.seq .leaf (.cond (.seq .leaf .leaf) .leaf)))) .leaf)))))) (.seq .leaf .leaf))) (argEnv 0 [(Value.pointer a0)]) [] w (retK Try.prog [.tmp 2, .tmp 3] [.one (.int .i64), .one .bool] K) = s_bind_DB_free a0 w K := by kernel_rfl
theorem ok_bind_DB_free {a0 w K} (h : s_bind_DB_free a0 w K) : c_bind_DB_free a0 w K :=
  fn_sound pok Try.func44 (fn := Try.f44) (c := bodyOf Try.f44) (nt := 24) (by kernel_rfl) (by kernel_rfl) (rs := [.tmp 2, .tmp 3]) (by kernel_rfl) [.one (.int .i64), .one .bool] K (.seq .leaf (.seq (.seq .leaf (.blk (.loop [(10, (.int .i64))] (.seq .leaf (.seq (.cond .leaf .leaf) (.seq (.blk (.seq .leaf (.seq .leaf (.cond (.seq .leaf .leaf) .leaf)))) .leaf)))))) (.seq .leaf .leaf))) [(Value.pointer a0)] (by kernel_rfl) w ((e_bind_DB_free a0 w K).mpr h)

/-- (*goosepond/hash.Table).Put -/
def s_hash_Table_Put (a0 : Option Addr) (a1 : ByteArray) (a2 : Int) (w : World) (K : Int → World → Prop) : Prop :=
 (c_hash_Table_ready a0 w fun r4 w5 =>
 (bif (!r4) then
 K 2 w5
 else
 c_hash_Table_find a0 a1 w5 fun r6 r7 w8 =>
 (bif r7 then
 ∃ a9 : Addr, a0 = some a9 ∧
 Ld .slice w8 a9 fun x10 =>
 AtIx x10 3 r6 fun a11 =>
 St w8 (a11.add 1) (Value.int .i64 a2) fun w12 =>
 K 0 w12
 else
 ∃ a13 : Addr, a0 = some a13 ∧
 Ld (.int .i64) w8.drew (a13.add 1) fun x14 =>
 ∃ a15 : Addr, a0 = some a15 ∧
 Ld (.int .i64) w8.drew (a15.add 2) fun x16 =>
 (bif (decide (x14 ≥ x16)) then
 K 7 w8.drew
 else
 c_hash_Table_grow a0 w8.drew fun w17 =>
 c_hash_Table_find a0 a1 w17 fun r18 r19 w20 =>
 ∃ a21 : Addr, a0 = some a21 ∧
 Ld .slice w20 a21 fun x22 =>
 AtIx x22 3 r18 fun a23 =>
 StN [(Value.string a1), (Value.int .i64 a2), (Value.bool true)] w20 a23 0 fun w24 =>
 ∃ a25 : Addr, a0 = some a25 ∧
 Ld (.int .i64) w24 (a25.add 1) fun x26 =>
 ∃ a27 : Addr, a0 = some a27 ∧
 St w24 (a27.add 1) (Value.int .i64 (IntKind.i64.wrap (x26 + 1))) fun w28 =>
 K 0 w28))))
theorem e_hash_Table_Put (a0 : Option Addr) (a1 : ByteArray) (a2 : Int) (w : World) (K : Int → World → Prop) : den Try.prog 60 (bodyOf Try.f45) none (.seq .leaf (.seq (.seq .leaf (.cond (.seq .leaf .leaf) .leaf)) (.seq .leaf (.seq (.seq .leaf (.cond (.seq .leaf (.seq .leaf .leaf)) .leaf)) (.seq (.seq .leaf (.cond (.seq .leaf .leaf) .leaf)) (.seq .leaf (.seq .leaf (.seq .leaf (.seq .leaf (.seq .leaf .leaf)))))))))) (argEnv 0 [(Value.pointer a0), (Value.string a1), (Value.int .i64 a2)]) [] w (retK Try.prog [.tmp 6] [.one (.int .i64)] K) = s_hash_Table_Put a0 a1 a2 w K := by kernel_rfl
theorem ok_hash_Table_Put {a0 a1 a2 w K} (h : s_hash_Table_Put a0 a1 a2 w K) : c_hash_Table_Put a0 a1 a2 w K :=
  fn_sound pok Try.func45 (fn := Try.f45) (c := bodyOf Try.f45) (nt := 60) (by kernel_rfl) (by kernel_rfl) (rs := [.tmp 6]) (by kernel_rfl) [.one (.int .i64)] K (.seq .leaf (.seq (.seq .leaf (.cond (.seq .leaf .leaf) .leaf)) (.seq .leaf (.seq (.seq .leaf (.cond (.seq .leaf (.seq .leaf .leaf)) .leaf)) (.seq (.seq .leaf (.cond (.seq .leaf .leaf) .leaf)) (.seq .leaf (.seq .leaf (.seq .leaf (.seq .leaf (.seq .leaf .leaf)))))))))) [(Value.pointer a0), (Value.string a1), (Value.int .i64 a2)] (by kernel_rfl) w ((e_hash_Table_Put a0 a1 a2 w K).mpr h)

/-- goosepond/bind.innerKey -/
def s_bind_innerKey (a0_0 : Int) (a0_1 : Int) (a0_2 : Int) (a0_3 : Int) (w : World) (K : ByteArray → World → Prop) : Prop :=
 (Al w (.cells ⟨[(Value.int .i64 a0_0), (Value.int .i64 a0_1), (Value.int .i64 a0_2), (Value.int .i64 a0_3)]⟩ 29) fun a3 w2 =>
 Ld (.int .i64) w2 a3 fun x4 =>
 Ld (.int .i64) w2 (a3.add 1) fun x5 =>
 Ld (.int .i64) w2 (a3.add 2) fun x6 =>
 Ld (.int .i64) w2 (a3.add 3) fun x7 =>
 Al w2 (.cells ⟨[(Value.int .i64 x4), (Value.int .i64 x5), (Value.int .i64 x6), (Value.int .i64 x7)]⟩ 3) fun a9 w8 =>
 c_bind_key ⟨(some a9), 4, 4⟩ w8 fun r10 w11 =>
 K r10 w11)
theorem e_bind_innerKey (a0_0 : Int) (a0_1 : Int) (a0_2 : Int) (a0_3 : Int) (w : World) (K : ByteArray → World → Prop) : den Try.prog 13 (bodyOf Try.f46) none (.seq .leaf (.seq .leaf .leaf)) (argEnv 0 [(Value.agg ⟨[(Value.int .i64 a0_0), (Value.int .i64 a0_1), (Value.int .i64 a0_2), (Value.int .i64 a0_3)]⟩)]) [] w (retK Try.prog [.tmp 2] [.one .str] K) = s_bind_innerKey a0_0 a0_1 a0_2 a0_3 w K := by kernel_rfl
theorem ok_bind_innerKey {a0_0 a0_1 a0_2 a0_3 w K} (h : s_bind_innerKey a0_0 a0_1 a0_2 a0_3 w K) : c_bind_innerKey a0_0 a0_1 a0_2 a0_3 w K :=
  fn_sound pok Try.func46 (fn := Try.f46) (c := bodyOf Try.f46) (nt := 13) (by kernel_rfl) (by kernel_rfl) (rs := [.tmp 2]) (by kernel_rfl) [.one .str] K (.seq .leaf (.seq .leaf .leaf)) [(Value.agg ⟨[(Value.int .i64 a0_0), (Value.int .i64 a0_1), (Value.int .i64 a0_2), (Value.int .i64 a0_3)]⟩)] (by kernel_rfl) w ((e_bind_innerKey a0_0 a0_1 a0_2 a0_3 w K).mpr h)

/-- goosepond/bind.outerKey -/
def s_bind_outerKey (a0_0 : Int) (a0_1 : Int) (a0_2 : Int) (w : World) (K : ByteArray → World → Prop) : Prop :=
 (Al w (.cells ⟨[(Value.int .i64 a0_0), (Value.int .i64 a0_1), (Value.int .i64 a0_2)]⟩ 31) fun a3 w2 =>
 Ld (.int .i64) w2 a3 fun x4 =>
 Ld (.int .i64) w2 (a3.add 1) fun x5 =>
 Ld (.int .i64) w2 (a3.add 2) fun x6 =>
 Al w2 (.cells ⟨[(Value.int .i64 x4), (Value.int .i64 x5), (Value.int .i64 x6)]⟩ 3) fun a8 w7 =>
 c_bind_key ⟨(some a8), 3, 3⟩ w7 fun r9 w10 =>
 K r9 w10)
theorem e_bind_outerKey (a0_0 : Int) (a0_1 : Int) (a0_2 : Int) (w : World) (K : ByteArray → World → Prop) : den Try.prog 11 (bodyOf Try.f47) none (.seq .leaf (.seq .leaf .leaf)) (argEnv 0 [(Value.agg ⟨[(Value.int .i64 a0_0), (Value.int .i64 a0_1), (Value.int .i64 a0_2)]⟩)]) [] w (retK Try.prog [.tmp 2] [.one .str] K) = s_bind_outerKey a0_0 a0_1 a0_2 w K := by kernel_rfl
theorem ok_bind_outerKey {a0_0 a0_1 a0_2 w K} (h : s_bind_outerKey a0_0 a0_1 a0_2 w K) : c_bind_outerKey a0_0 a0_1 a0_2 w K :=
  fn_sound pok Try.func47 (fn := Try.f47) (c := bodyOf Try.f47) (nt := 11) (by kernel_rfl) (by kernel_rfl) (rs := [.tmp 2]) (by kernel_rfl) [.one .str] K (.seq .leaf (.seq .leaf .leaf)) [(Value.agg ⟨[(Value.int .i64 a0_0), (Value.int .i64 a0_1), (Value.int .i64 a0_2)]⟩)] (by kernel_rfl) w ((e_bind_outerKey a0_0 a0_1 a0_2 w K).mpr h)

/-- (*goosepond/bind.DB).has -/
def s_bind_DB_has (a0 : Option Addr) (a1 : Int) (w : World) (K : Bool → World → Prop) : Prop :=
 (let J3 : Bool → World → Prop := fun j4 w5 =>
 (K j4 w5)
 c_bind_DB_ready a0 w fun r6 w7 =>
 (bif r6 then
 (bif (decide (a1 ≥ 0)) then
 ∃ a8 : Addr, a0 = some a8 ∧
 Ld .slice w7 a8 fun x9 =>
 (bif (decide (a1 < (x9.len : Int))) then
 ∃ a10 : Addr, a0 = some a10 ∧
 Ld .slice w7 a10 fun x11 =>
 AtIx x11 9 a1 fun a12 =>
 Ld .bool w7 (a12.add 8) fun x13 =>
 J3 x13 w7
 else
 J3 false w7)
 else
 J3 false w7)
 else
 J3 false w7))
theorem e_bind_DB_has (a0 : Option Addr) (a1 : Int) (w : World) (K : Bool → World → Prop) : den Try.prog 30 (bodyOf Try.f48) none (.seq .leaf (.seq .leaf .leaf)) (argEnv 0 [(Value.pointer a0), (Value.int .i64 a1)]) [] w (retK Try.prog [.tmp 4] [.one .bool] K) = s_bind_DB_has a0 a1 w K := by kernel_rfl
theorem ok_bind_DB_has {a0 a1 w K} (h : s_bind_DB_has a0 a1 w K) : c_bind_DB_has a0 a1 w K :=
  fn_sound pok Try.func48 (fn := Try.f48) (c := bodyOf Try.f48) (nt := 30) (by kernel_rfl) (by kernel_rfl) (rs := [.tmp 4]) (by kernel_rfl) [.one .bool] K (.seq .leaf (.seq .leaf .leaf)) [(Value.pointer a0), (Value.int .i64 a1)] (by kernel_rfl) w ((e_bind_DB_has a0 a1 w K).mpr h)

/-- (*goosepond/hash.Table).Delete -/
def s_hash_Table_Delete (a0 : Option Addr) (a1 : ByteArray) (w : World) (K : Bool → World → Prop) : Prop :=
 (isOne (Value.pointer a0) = true ∧
 Al w (.cells ⟨[(Value.pointer a0)]⟩ 57) fun a4 w3 =>
 Ld .ptr w3 a4 fun x5 =>
 c_hash_Table_ready x5 w3 fun r6 w7 =>
 (bif (!r6) then
 K false w7
 else
 Ld .ptr w7 a4 fun x8 =>
 c_hash_Table_find x8 a1 w7 fun r9 r10 w11 =>
 (bif (!r10) then
 K false w11
 else
 Ld .ptr w11 a4 fun x12 =>
 ∃ a13 : Addr, x12 = some a13 ∧
 Ld .slice w11 a13 fun x14 =>
 AtIx x14 3 r9 fun a15 =>
 StN [(Value.string (bs [])), (Value.int .i64 0), (Value.bool false)] w11 a15 0 fun w16 =>
 Ld .ptr w16 a4 fun x17 =>
 ∃ a18 : Addr, x17 = some a18 ∧
 Ld (.int .i64) w16 (a18.add 1) fun x19 =>
 ∃ a20 : Addr, x17 = some a20 ∧
 St w16 (a20.add 1) (Value.int .i64 (IntKind.i64.wrap (x19 - 1))) fun w21 =>
 let J22 : List Nat → World → Prop := fun d23 w24 =>
 (CloseP d23 w24 fun w25 =>
 K true w25)
 Ld .ptr w21.drew a4 fun x26 =>
 Ld .ptr w21.drew a4 fun x27 =>
 ∃ a28 : Addr, x27 = some a28 ∧
 Ld .slice w21.drew a28 fun x29 =>
 (x29.len : Int) ≠ 0 ∧
 c_hash_Table_walk x26 (Int.tmod (IntKind.i64.wrap (r9 + 1)) (x29.len : Int)) w21.drew fun r30 w31 =>
 RngP Try.prog none [.one (.int .i64)] r30 w31 (fun l32 x33 W34 Kb35 =>
 W34.heap[l32]? = W34.heap[l32]? ∧
 Ld .ptr (busyW W34 l32) a4 fun x36 =>
 ∃ a37 : Addr, x36 = some a37 ∧
 Ld .slice (busyW W34 l32) a37 fun x38 =>
 AtIx x38 3 x33.1 fun a39 =>
 Ld .str (busyW W34 l32) (a39.add 0) fun x40 =>
 Ld (.int .i64) (busyW W34 l32) (a39.add 1) fun x41 =>
 Ld .bool (busyW W34 l32) (a39.add 2) fun x42 =>
 Al (busyW W34 l32) (.cells ⟨[(Value.string (bs [])), (Value.int .i64 0), (Value.bool false)]⟩ 129) fun a44 w43 =>
 StN [(Value.string x40), (Value.int .i64 x41), (Value.bool x42)] w43 a44 0 fun w45 =>
 Ld .bool w45 (a44.add 2) fun x46 =>
 (bif (!x46) then
 Kb35 (.exit 0) w45
 else
 Ld .ptr w45 a4 fun x47 =>
 ∃ a48 : Addr, x47 = some a48 ∧
 Ld .slice w45 a48 fun x49 =>
 AtIx x49 3 x33.1 fun a50 =>
 StN [(Value.string (bs [])), (Value.int .i64 0), (Value.bool false)] w45 a50 0 fun w51 =>
 Ld .ptr w51 a4 fun x52 =>
 Ld .str w51 a44 fun x53 =>
 c_hash_Table_find x52 x53 w51 fun r54 r55 w56 =>
 Ld .ptr w56.drew a4 fun x57 =>
 ∃ a58 : Addr, x57 = some a58 ∧
 Ld .slice w56.drew a58 fun x59 =>
 Ld .str w56.drew (a44.add 0) fun x60 =>
 Ld (.int .i64) w56.drew (a44.add 1) fun x61 =>
 Ld .bool w56.drew (a44.add 2) fun x62 =>
 AtIx x59 3 r54 fun a63 =>
 StN [(Value.string x60), (Value.int .i64 x61), (Value.bool x62)] w56.drew a63 0 fun w64 =>
 Kb35 .normal w64))
 (fun w66 =>
 J22 (w31.heap.size :: []) w66)
 (fun w67 =>
 w67.heap[w31.heap.size]? = some (.deferred (some [])) ∧
 K false (w67.putObj w31.heap.size (.deferred none)))
 [(0, (fun w65 =>
 J22 (w31.heap.size :: []) w65))])))
theorem e_hash_Table_Delete (a0 : Option Addr) (a1 : ByteArray) (w : World) (K : Bool → World → Prop) : den Try.prog 78 (bodyOf Try.f49) none (.seq .leaf (.seq (.seq .leaf (.cond (.seq .leaf .leaf) .leaf)) (.seq .leaf (.seq (.seq .leaf (.cond (.seq .leaf .leaf) .leaf)) (.seq .leaf (.seq .leaf (.seq .leaf (.seq (.seq .leaf (.blk (.rng [.one (.int .i64)] .leaf (.blk (.seq .leaf (.seq (.seq .leaf (.cond .leaf .leaf)) (.seq .leaf (.seq .leaf .leaf)))))))) (.seq .leaf .leaf))))))))) (argEnv 0 [(Value.pointer a0), (Value.string a1)]) [] w (retK Try.prog [.tmp 4] [.one .bool] K) = s_hash_Table_Delete a0 a1 w K := by kernel_rfl
theorem ok_hash_Table_Delete {a0 a1 w K} (h : s_hash_Table_Delete a0 a1 w K) : c_hash_Table_Delete a0 a1 w K :=
  fn_sound pok Try.func49 (fn := Try.f49) (c := bodyOf Try.f49) (nt := 78) (by kernel_rfl) (by kernel_rfl) (rs := [.tmp 4]) (by kernel_rfl) [.one .bool] K (.seq .leaf (.seq (.seq .leaf (.cond (.seq .leaf .leaf) .leaf)) (.seq .leaf (.seq (.seq .leaf (.cond (.seq .leaf .leaf) .leaf)) (.seq .leaf (.seq .leaf (.seq .leaf (.seq (.seq .leaf (.blk (.rng [.one (.int .i64)] .leaf (.blk (.seq .leaf (.seq (.seq .leaf (.cond .leaf .leaf)) (.seq .leaf (.seq .leaf .leaf)))))))) (.seq .leaf .leaf))))))))) [(Value.pointer a0), (Value.string a1)] (by kernel_rfl) w ((e_hash_Table_Delete a0 a1 w K).mpr h)

/-- (*goosepond/bind.DB).All$1 -/
def s_bind_DB_All_1 (a0 : Value) (f0 : Addr) (w : World) (K : World → Prop) : Prop :=
 (Ld .ptr w f0 fun x2 =>
 c_bind_DB_ready x2 w fun r3 w4 =>
 (bif (!r3) then
 K w4
 else
 Ld .ptr w4 f0 fun x5 =>
 ∃ a6 : Addr, x5 = some a6 ∧
 Ld .slice w4 a6 fun x7 =>
 LoopP (S := Int × Unit) (fun s8 w9 next10 =>
 (bif (decide (s8.1 < (x7.len : Int))) then
 AtIx x7 9 s8.1 fun a11 =>
 Ld (.int .i64) w9 (a11.add 0) fun x12 =>
 Ld (.int .i64) w9 (a11.add 1) fun x13 =>
 Ld (.int .i64) w9 (a11.add 2) fun x14 =>
 Ld (.int .i64) w9 (a11.add 3) fun x15 =>
 Ld (.int .i64) w9 (a11.add 4) fun x16 =>
 Ld (.int .i64) w9 (a11.add 5) fun x17 =>
 Ld (.int .i64) w9 (a11.add 6) fun x18 =>
 Ld .bool w9 (a11.add 7) fun x19 =>
 Ld .bool w9 (a11.add 8) fun x20 =>
 Al w9 (.cells ⟨[(Value.int .i64 0), (Value.int .i64 0), (Value.int .i64 0), (Value.int .i64 0), (Value.int .i64 0), (Value.int .i64 0), (Value.int .i64 0), (Value.bool false), (Value.bool false)]⟩ 95) fun a22 w21 =>
 StN [(Value.int .i64 x12), (Value.int .i64 x13), (Value.int .i64 x14), (Value.int .i64 x15), (Value.int .i64 x16), (Value.int .i64 x17), (Value.int .i64 x18), (Value.bool x19), (Value.bool x20)] w21 a22 0 fun w23 =>
 let J24 : Bool → World → Prop := fun j25 w26 =>
 ((bif j25 then
 K w26
 else
 next10 ((IntKind.i64.wrap (s8.1 + 1)), ()) w26))
 Ld .bool w23 (a22.add 8) fun x27 =>
 (bif x27 then
 Ld (.int .i64) w23 (a22.add 0) fun x28 =>
 Ld (.int .i64) w23 (a22.add 1) fun x29 =>
 Ld (.int .i64) w23 (a22.add 2) fun x30 =>
 Ld (.int .i64) w23 (a22.add 3) fun x31 =>
 Ld (.int .i64) w23 (a22.add 4) fun x32 =>
 Ld (.int .i64) w23 (a22.add 5) fun x33 =>
 Ld (.int .i64) w23 (a22.add 6) fun x34 =>
 Ld .bool w23 (a22.add 7) fun x35 =>
 CallV Try.prog [.one .bool] a0 [(Value.int .i64 s8.1), (Value.agg ⟨[(Value.int .i64 x28), (Value.int .i64 x29), (Value.int .i64 x30), (Value.int .i64 x31), (Value.int .i64 x32), (Value.int .i64 x33), (Value.int .i64 x34), (Value.bool x35)]⟩)] w23 fun r36 w37 =>
 ∃ r38 : Bool, r36 = (Value.bool r38) ∧
 J24 (!r38) w37
 else
 J24 false w23)
 else
 K w9)) (0, ()) w4))
theorem e_bind_DB_All_1 (a0 : Value) (f0 : Addr) (w : World) (K : World → Prop) : den Try.prog 29 (bodyOf Try.f50) none (.seq (.seq .leaf (.cond .leaf .leaf)) (.seq .leaf (.blk (.loop [(13, (.int .i64))] (.seq .leaf (.seq (.cond .leaf .leaf) (.seq (.blk (.seq .leaf (.seq .leaf (.cond .leaf .leaf)))) .leaf))))))) (argEnv 0 [a0, (Value.pointer (some f0))]) [] w (retK Try.prog [] [] K) = s_bind_DB_All_1 a0 f0 w K := by kernel_rfl
theorem ok_bind_DB_All_1 {a0 f0 w K} (h : s_bind_DB_All_1 a0 f0 w K) : c_bind_DB_All_1 a0 f0 w K :=
  fn_sound pok Try.func50 (fn := Try.f50) (c := bodyOf Try.f50) (nt := 29) (by kernel_rfl) (by kernel_rfl) (rs := []) (by kernel_rfl) [] K (.seq (.seq .leaf (.cond .leaf .leaf)) (.seq .leaf (.blk (.loop [(13, (.int .i64))] (.seq .leaf (.seq (.cond .leaf .leaf) (.seq (.blk (.seq .leaf (.seq .leaf (.cond .leaf .leaf)))) .leaf))))))) [a0, (Value.pointer (some f0))] (by kernel_rfl) w ((e_bind_DB_All_1 a0 f0 w K).mpr h)

/-- (*goosepond/hash.Table).Get -/
def s_hash_Table_Get (a0 : Option Addr) (a1 : ByteArray) (w : World) (K : Int → Bool → World → Prop) : Prop :=
 (c_hash_Table_ready a0 w fun r3 w4 =>
 (bif (!r3) then
 K 0 false w4
 else
 c_hash_Table_find a0 a1 w4 fun r5 r6 w7 =>
 (bif (!r6) then
 K 0 false w7
 else
 ∃ a8 : Addr, a0 = some a8 ∧
 Ld .slice w7 a8 fun x9 =>
 AtIx x9 3 r5 fun a10 =>
 Ld (.int .i64) w7 (a10.add 1) fun x11 =>
 K x11 true w7)))
theorem e_hash_Table_Get (a0 : Option Addr) (a1 : ByteArray) (w : World) (K : Int → Bool → World → Prop) : den Try.prog 27 (bodyOf Try.f51) none (.seq .leaf (.seq (.seq .leaf (.cond (.seq .leaf .leaf) .leaf)) (.seq .leaf (.seq (.seq .leaf (.cond (.seq .leaf .leaf) .leaf)) (.seq .leaf .leaf))))) (argEnv 0 [(Value.pointer a0), (Value.string a1)]) [] w (retK Try.prog [.tmp 4, .tmp 5] [.one (.int .i64), .one .bool] K) = s_hash_Table_Get a0 a1 w K := by kernel_rfl
theorem ok_hash_Table_Get {a0 a1 w K} (h : s_hash_Table_Get a0 a1 w K) : c_hash_Table_Get a0 a1 w K :=
  fn_sound pok Try.func51 (fn := Try.f51) (c := bodyOf Try.f51) (nt := 27) (by kernel_rfl) (by kernel_rfl) (rs := [.tmp 4, .tmp 5]) (by kernel_rfl) [.one (.int .i64), .one .bool] K (.seq .leaf (.seq (.seq .leaf (.cond (.seq .leaf .leaf) .leaf)) (.seq .leaf (.seq (.seq .leaf (.cond (.seq .leaf .leaf) .leaf)) (.seq .leaf .leaf))))) [(Value.pointer a0), (Value.string a1)] (by kernel_rfl) w ((e_hash_Table_Get a0 a1 w K).mpr h)

/-- (*goosepond/hash.Table).ready -/
def s_hash_Table_ready (a0 : Option Addr) (w : World) (K : Bool → World → Prop) : Prop :=
 (let J2 : Bool → Prop := fun j3 =>
 (K j3 w)
 (bif (!(Option.isNone a0)) then
 ∃ a4 : Addr, a0 = some a4 ∧
 Ld .bool w (a4.add 3) fun x5 =>
 J2 x5
 else
 J2 false))
theorem e_hash_Table_ready (a0 : Option Addr) (w : World) (K : Bool → World → Prop) : den Try.prog 11 (bodyOf Try.f65) none (.seq .leaf (.seq .leaf .leaf)) (argEnv 0 [(Value.pointer a0)]) [] w (retK Try.prog [.tmp 2] [.one .bool] K) = s_hash_Table_ready a0 w K := by kernel_rfl
theorem ok_hash_Table_ready {a0 w K} (h : s_hash_Table_ready a0 w K) : c_hash_Table_ready a0 w K :=
  fn_sound pok Try.func65 (fn := Try.f65) (c := bodyOf Try.f65) (nt := 11) (by kernel_rfl) (by kernel_rfl) (rs := [.tmp 2]) (by kernel_rfl) [.one .bool] K (.seq .leaf (.seq .leaf .leaf)) [(Value.pointer a0)] (by kernel_rfl) w ((e_hash_Table_ready a0 w K).mpr h)

/-- (*goosepond/hash.Table).find -/
def s_hash_Table_find (a0 : Option Addr) (a1 : ByteArray) (w : World) (K : Int → Bool → World → Prop) : Prop :=
 (isOne (Value.pointer a0) = true ∧
 Al w (.cells ⟨[(Value.pointer a0)]⟩ 57) fun a4 w3 =>
 isOne (Value.string a1) = true ∧
 Al w3 (.cells ⟨[(Value.string a1)]⟩ 9) fun a6 w5 =>
 Al w5 (.cells ⟨[(Value.int .i64 0)]⟩ 3) fun a8 w7 =>
 Al w7 (.cells ⟨[(Value.bool false)]⟩ 4) fun a10 w9 =>
 Ld .ptr w9 a4 fun x11 =>
 ∃ a12 : Addr, x11 = some a12 ∧
 Ld .slice w9 a12 fun x13 =>
 (bif ((x13.len : Int) == 0) then
 St w9 a8 (Value.int .i64 0) fun w14 =>
 St w14 a10 (Value.bool false) fun w15 =>
 Ld (.int .i64) w15 a8 fun y16 =>
 Ld .bool w15 a10 fun y17 =>
 K y16 y17 w15
 else
 Ld .ptr w9.drew a4 fun x18 =>
 Ld .str w9.drew a6 fun x19 =>
 Ld .ptr w9.drew a4 fun x20 =>
 ∃ a21 : Addr, x20 = some a21 ∧
 Ld .slice w9.drew a21 fun x22 =>
 c_hash_home x19 (x22.len : Int) w9.drew fun r23 w24 =>
 w24.cell? a4 = some (Value.pointer x18) ∧
 c_hash_Table_walk x18 r23 w24 fun r25 w26 =>
 RngP Try.prog none [.one (.int .i64)] r25 w26 (fun l27 x28 W29 Kb30 =>
 W29.heap[l27]? = W29.heap[l27]? ∧
 Ld .ptr (busyW W29 l27) a4 fun x31 =>
 ∃ a32 : Addr, x31 = some a32 ∧
 Ld .slice (busyW W29 l27) a32 fun x33 =>
 AtIx x33 3 x28.1 fun a34 =>
 Ld .str (busyW W29 l27) (a34.add 0) fun x35 =>
 Ld (.int .i64) (busyW W29 l27) (a34.add 1) fun x36 =>
 Ld .bool (busyW W29 l27) (a34.add 2) fun x37 =>
 Al (busyW W29 l27) (.cells ⟨[(Value.string (bs [])), (Value.int .i64 0), (Value.bool false)]⟩ 129) fun a39 w38 =>
 StN [(Value.string x35), (Value.int .i64 x36), (Value.bool x37)] w38 a39 0 fun w40 =>
 Ld .bool w40 (a39.add 2) fun x41 =>
 (bif (!x41) then
 St w40 a8 (Value.int .i64 x28.1) fun w42 =>
 St w42 a10 (Value.bool false) fun w43 =>
 Kb30 .ret w43
 else
 Ld .str w40 a39 fun x44 =>
 Ld .str w40 a6 fun x45 =>
 (bif (strEq x44 x45) then
 St w40 a8 (Value.int .i64 x28.1) fun w46 =>
 St w46 a10 (Value.bool true) fun w47 =>
 Kb30 .ret w47
 else
 Kb30 .normal w40)))
 (fun w48 =>
 St w48 a8 (Value.int .i64 0) fun w49 =>
 St w49 a10 (Value.bool false) fun w50 =>
 w50.heap[w26.heap.size]? = some (.deferred (some [])) ∧
 Ld (.int .i64) (w50.putObj w26.heap.size (.deferred none)) a8 fun y51 =>
 Ld .bool (w50.putObj w26.heap.size (.deferred none)) a10 fun y52 =>
 K y51 y52 (w50.putObj w26.heap.size (.deferred none)))
 (fun w53 =>
 w53.heap[w26.heap.size]? = some (.deferred (some [])) ∧
 Ld (.int .i64) (w53.putObj w26.heap.size (.deferred none)) a8 fun y54 =>
 Ld .bool (w53.putObj w26.heap.size (.deferred none)) a10 fun y55 =>
 K y54 y55 (w53.putObj w26.heap.size (.deferred none)))
 []))
theorem e_hash_Table_find (a0 : Option Addr) (a1 : ByteArray) (w : World) (K : Int → Bool → World → Prop) : den Try.prog 40 (bodyOf Try.f66) none (.seq .leaf (.seq (.seq .leaf (.cond (.seq .leaf .leaf) .leaf)) (.seq (.seq .leaf (.blk (.rng [.one (.int .i64)] .leaf (.blk (.seq .leaf (.seq (.seq .leaf (.cond (.seq .leaf .leaf) .leaf)) (.seq .leaf (.cond (.seq .leaf .leaf) .leaf)))))))) (.seq .leaf .leaf)))) (argEnv 0 [(Value.pointer a0), (Value.string a1)]) [] w (retK Try.prog [.cell 4 3, .cell 5 4] [.one (.int .i64), .one .bool] K) = s_hash_Table_find a0 a1 w K := by kernel_rfl
theorem ok_hash_Table_find {a0 a1 w K} (h : s_hash_Table_find a0 a1 w K) : c_hash_Table_find a0 a1 w K :=
  fn_sound pok Try.func66 (fn := Try.f66) (c := bodyOf Try.f66) (nt := 40) (by kernel_rfl) (by kernel_rfl) (rs := [.cell 4 3, .cell 5 4]) (by kernel_rfl) [.one (.int .i64), .one .bool] K (.seq .leaf (.seq (.seq .leaf (.cond (.seq .leaf .leaf) .leaf)) (.seq (.seq .leaf (.blk (.rng [.one (.int .i64)] .leaf (.blk (.seq .leaf (.seq (.seq .leaf (.cond (.seq .leaf .leaf) .leaf)) (.seq .leaf (.cond (.seq .leaf .leaf) .leaf)))))))) (.seq .leaf .leaf)))) [(Value.pointer a0), (Value.string a1)] (by kernel_rfl) w ((e_hash_Table_find a0 a1 w K).mpr h)

/-- (*goosepond/hash.Table).grow -/
def s_hash_Table_grow (a0 : Option Addr) (w : World) (K : World → Prop) : Prop :=
 (∃ a2 : Addr, a0 = some a2 ∧
 Ld (.int .i64) w.drew (a2.add 1) fun x3 =>
 ∃ a4 : Addr, a0 = some a4 ∧
 Ld .slice w.drew a4 fun x5 =>
 (bif (decide ((IntKind.i64.wrap (2 * (IntKind.i64.wrap (x3 + 1)))) ≤ (x5.len : Int))) then
 K w.drew
 else
 ∃ a6 : Addr, a0 = some a6 ∧
 Ld .slice w.drew a6 fun x7 =>
 MkSl 129 3 32 [(Value.string (bs [])), (Value.int .i64 0), (Value.bool false)] (if (IntKind.i64.wrap (2 * (x7.len : Int))) > 8 then (IntKind.i64.wrap (2 * (x7.len : Int))) else 8) (if (IntKind.i64.wrap (2 * (x7.len : Int))) > 8 then (IntKind.i64.wrap (2 * (x7.len : Int))) else 8) w.drew fun s8 w9 =>
 ∃ a10 : Addr, a0 = some a10 ∧
 St w9 a10 (Value.slice s8.a s8.len s8.cap) fun w11 =>
 LoopP (S := Int × Unit) (fun s12 w13 next14 =>
 (bif (decide (s12.1 < (x7.len : Int))) then
 let J15 : World → Prop := fun w16 =>
 (next14 ((IntKind.i64.wrap (s12.1 + 1)), ()) w16)
 AtIx x7 3 s12.1 fun a17 =>
 Ld .str w13 (a17.add 0) fun x18 =>
 Ld (.int .i64) w13 (a17.add 1) fun x19 =>
 Ld .bool w13 (a17.add 2) fun x20 =>
 Al w13 (.cells ⟨[(Value.string (bs [])), (Value.int .i64 0), (Value.bool false)]⟩ 129) fun a22 w21 =>
 StN [(Value.string x18), (Value.int .i64 x19), (Value.bool x20)] w21 a22 0 fun w23 =>
 Ld .bool w23 (a22.add 2) fun x24 =>
 (bif x24 then
 Ld .str w23 a22 fun x25 =>
 c_hash_Table_find a0 x25 w23 fun r26 r27 w28 =>
 ∃ a29 : Addr, a0 = some a29 ∧
 Ld .slice w28.drew a29 fun x30 =>
 Ld .str w28.drew (a22.add 0) fun x31 =>
 Ld (.int .i64) w28.drew (a22.add 1) fun x32 =>
 Ld .bool w28.drew (a22.add 2) fun x33 =>
 AtIx x30 3 r26 fun a34 =>
 StN [(Value.string x31), (Value.int .i64 x32), (Value.bool x33)] w28.drew a34 0 fun w35 =>
 J15 w35
 else
 J15 w23)
 else
 K w13)) (0, ()) w11))
theorem e_hash_Table_grow (a0 : Option Addr) (w : World) (K : World → Prop) : den Try.prog 54 (bodyOf Try.f67) none (.seq (.seq .leaf (.cond .leaf .leaf)) (.seq .leaf (.seq .leaf (.seq .leaf (.blk (.loop [(33, (.int .i64))] (.seq .leaf (.seq (.cond .leaf .leaf) (.seq (.blk (.seq .leaf (.seq .leaf (.cond (.seq .leaf .leaf) .leaf)))) .leaf))))))))) (argEnv 0 [(Value.pointer a0)]) [] w (retK Try.prog [] [] K) = s_hash_Table_grow a0 w K := by kernel_rfl
theorem ok_hash_Table_grow {a0 w K} (h : s_hash_Table_grow a0 w K) : c_hash_Table_grow a0 w K :=
  fn_sound pok Try.func67 (fn := Try.f67) (c := bodyOf Try.f67) (nt := 54) (by kernel_rfl) (by kernel_rfl) (rs := []) (by kernel_rfl) [] K (.seq (.seq .leaf (.cond .leaf .leaf)) (.seq .leaf (.seq .leaf (.seq .leaf (.blk (.loop [(33, (.int .i64))] (.seq .leaf (.seq (.cond .leaf .leaf) (.seq (.blk (.seq .leaf (.seq .leaf (.cond (.seq .leaf .leaf) .leaf)))) .leaf))))))))) [(Value.pointer a0)] (by kernel_rfl) w ((e_hash_Table_grow a0 w K).mpr h)

/-- goosepond/bind.key -/
def s_bind_key (a0 : SliceV) (w : World) (K : ByteArray → World → Prop) : Prop :=
 (LoopP (S := SliceV × Int × Unit) (fun s2 w3 next4 =>
 (bif (decide (s2.2.1 < (a0.len : Int))) then
 AtIx a0 1 s2.2.1 fun a5 =>
 Ld (.int .i64) w3 a5 fun x6 =>
 0 ≤ (32 : Int) ∧
 c_be_Put s2.1 (andI .i64 (shrI .i64 x6 32) 4294967295) 4 w3 fun r7 w8 =>
 c_be_Put r7 (andI .i64 x6 4294967295) 4 w8 fun r9 w10 =>
 next4 (r9, (IntKind.i64.wrap (s2.2.1 + 1)), ()) w10
 else
 BytesStr w3 s2.1 fun b11 =>
 K b11 w3)) (⟨none, 0, 0⟩, 0, ()) w)
theorem e_bind_key (a0 : SliceV) (w : World) (K : ByteArray → World → Prop) : den Try.prog 23 (bodyOf Try.f68) none (.seq .leaf (.seq .leaf (.seq (.seq .leaf (.blk (.loop [(3, .slice), (8, (.int .i64))] (.seq .leaf (.seq (.cond .leaf .leaf) (.seq (.blk (.seq .leaf .leaf)) .leaf)))))) (.seq .leaf .leaf)))) (argEnv 0 [(Value.slice a0.a a0.len a0.cap)]) [] w (retK Try.prog [.tmp 2] [.one .str] K) = s_bind_key a0 w K := by kernel_rfl
theorem ok_bind_key {a0 w K} (h : s_bind_key a0 w K) : c_bind_key a0 w K :=
  fn_sound pok Try.func68 (fn := Try.f68) (c := bodyOf Try.f68) (nt := 23) (by kernel_rfl) (by kernel_rfl) (rs := [.tmp 2]) (by kernel_rfl) [.one .str] K (.seq .leaf (.seq .leaf (.seq (.seq .leaf (.blk (.loop [(3, .slice), (8, (.int .i64))] (.seq .leaf (.seq (.cond .leaf .leaf) (.seq (.blk (.seq .leaf .leaf)) .leaf)))))) (.seq .leaf .leaf)))) [(Value.slice a0.a a0.len a0.cap)] (by kernel_rfl) w ((e_bind_key a0 w K).mpr h)

/-- (*goosepond/hash.Table).walk -/
def s_hash_Table_walk (a0 : Option Addr) (a1 : Int) (w : World) (K : Value → World → Prop) : Prop :=
 (isOne (Value.pointer a0) = true ∧
 Al w (.cells ⟨[(Value.pointer a0)]⟩ 57) fun a4 w3 =>
 isOne (Value.int .i64 a1) = true ∧
 Al w3 (.cells ⟨[(Value.int .i64 a1)]⟩ 3) fun a6 w5 =>
 K (Value.func (.func 77) #[] #[(Value.pointer (some a4)), (Value.pointer (some a6))]) w5)
theorem e_hash_Table_walk (a0 : Option Addr) (a1 : Int) (w : World) (K : Value → World → Prop) : den Try.prog 6 (bodyOf Try.f69) none (.seq .leaf (.seq .leaf .leaf)) (argEnv 0 [(Value.pointer a0), (Value.int .i64 a1)]) [] w (retK Try.prog [.tmp 4] [.one .any] K) = s_hash_Table_walk a0 a1 w K := by kernel_rfl
theorem ok_hash_Table_walk {a0 a1 w K} (h : s_hash_Table_walk a0 a1 w K) : c_hash_Table_walk a0 a1 w K :=
  fn_sound pok Try.func69 (fn := Try.f69) (c := bodyOf Try.f69) (nt := 6) (by kernel_rfl) (by kernel_rfl) (rs := [.tmp 4]) (by kernel_rfl) [.one .any] K (.seq .leaf (.seq .leaf .leaf)) [(Value.pointer a0), (Value.int .i64 a1)] (by kernel_rfl) w ((e_hash_Table_walk a0 a1 w K).mpr h)

/-- goosepond/be.Put -/
def s_be_Put (a0 : SliceV) (a1 : Int) (a2 : Int) (w : World) (K : SliceV → World → Prop) : Prop :=
 (c_slices_Clone_byte_byte a0 w fun r4 w5 =>
 c_be_Fits a1 a2 w5 fun r6 w7 =>
 (bif (!r6) then
 K r4 w7
 else
 c_be_digits a1 a2 w7 fun r8 w9 =>
 c_slices_AppendSeq_byte_byte r4 r8 w9 fun r10 w11 =>
 K r10 w11))
theorem e_be_Put (a0 : SliceV) (a1 : Int) (a2 : Int) (w : World) (K : SliceV → World → Prop) : den Try.prog 20 (bodyOf Try.f70) none (.seq .leaf (.seq .leaf (.seq (.seq .leaf (.cond (.seq .leaf .leaf) .leaf)) (.seq .leaf .leaf)))) (argEnv 0 [(Value.slice a0.a a0.len a0.cap), (Value.int .i64 a1), (Value.int .i64 a2)]) [] w (retK Try.prog [.tmp 6] [.one .slice] K) = s_be_Put a0 a1 a2 w K := by kernel_rfl
theorem ok_be_Put {a0 a1 a2 w K} (h : s_be_Put a0 a1 a2 w K) : c_be_Put a0 a1 a2 w K :=
  fn_sound pok Try.func70 (fn := Try.f70) (c := bodyOf Try.f70) (nt := 20) (by kernel_rfl) (by kernel_rfl) (rs := [.tmp 6]) (by kernel_rfl) [.one .slice] K (.seq .leaf (.seq .leaf (.seq (.seq .leaf (.cond (.seq .leaf .leaf) .leaf)) (.seq .leaf .leaf)))) [(Value.slice a0.a a0.len a0.cap), (Value.int .i64 a1), (Value.int .i64 a2)] (by kernel_rfl) w ((e_be_Put a0 a1 a2 w K).mpr h)

/-- goosepond/hash.home -/
def s_hash_home (a0 : ByteArray) (a1 : Int) (w : World) (K : Int → World → Prop) : Prop :=
 (LoopP (S := Int × Int × Unit) (fun s3 w4 next5 =>
 (bif (decide (s3.2.1 < (a0.size : Int))) then
 StrIx a0 s3.2.1 fun x6 =>
 next5 ((IntKind.u32.wrap ((xorI .u32 s3.1 (IntKind.u32.wrap x6)) * 16777619)), (IntKind.i64.wrap (s3.2.1 + 1)), ()) w4
 else
 (IntKind.u32.wrap a1) ≠ 0 ∧
 K (IntKind.i64.wrap (Int.tmod s3.1 (IntKind.u32.wrap a1))) w4)) (2166136261, 0, ()) w)
theorem e_hash_home (a0 : ByteArray) (a1 : Int) (w : World) (K : Int → World → Prop) : den Try.prog 25 (bodyOf Try.f76) none (.seq .leaf (.seq .leaf (.seq (.seq .leaf (.blk (.loop [(5, (.int .u32)), (9, (.int .i64))] (.seq .leaf (.seq (.cond .leaf .leaf) (.seq (.blk (.seq .leaf .leaf)) .leaf)))))) (.seq .leaf .leaf)))) (argEnv 0 [(Value.string a0), (Value.int .i64 a1)]) [] w (retK Try.prog [.tmp 4] [.one (.int .i64)] K) = s_hash_home a0 a1 w K := by kernel_rfl
theorem ok_hash_home {a0 a1 w K} (h : s_hash_home a0 a1 w K) : c_hash_home a0 a1 w K :=
  fn_sound pok Try.func76 (fn := Try.f76) (c := bodyOf Try.f76) (nt := 25) (by kernel_rfl) (by kernel_rfl) (rs := [.tmp 4]) (by kernel_rfl) [.one (.int .i64)] K (.seq .leaf (.seq .leaf (.seq (.seq .leaf (.blk (.loop [(5, (.int .u32)), (9, (.int .i64))] (.seq .leaf (.seq (.cond .leaf .leaf) (.seq (.blk (.seq .leaf .leaf)) .leaf)))))) (.seq .leaf .leaf)))) [(Value.string a0), (Value.int .i64 a1)] (by kernel_rfl) w ((e_hash_home a0 a1 w K).mpr h)

/-- (*goosepond/hash.Table).walk$1 -/
def s_hash_Table_walk_1 (a0 : Value) (f0 : Addr) (f1 : Addr) (w : World) (K : World → Prop) : Prop :=
 (Ld .ptr w f0 fun x2 =>
 ∃ a3 : Addr, x2 = some a3 ∧
 Ld .slice w a3 fun x4 =>
 LoopP (S := Int × Unit) (fun s5 w6 next7 =>
 (bif (decide (s5.1 < (x4.len : Int))) then
 Ld (.int .i64) w6.drew f1 fun x8 =>
 Ld .ptr w6.drew f0 fun x9 =>
 ∃ a10 : Addr, x9 = some a10 ∧
 Ld .slice w6.drew a10 fun x11 =>
 (x11.len : Int) ≠ 0 ∧
 CallV Try.prog [.one .bool] a0 [(Value.int .i64 (Int.tmod (IntKind.i64.wrap (x8 + s5.1)) (x11.len : Int)))] w6.drew fun r12 w13 =>
 ∃ r14 : Bool, r12 = (Value.bool r14) ∧
 (bif (!r14) then
 K w13
 else
 next7 ((IntKind.i64.wrap (s5.1 + 1)), ()) w13)
 else
 K w6)) (0, ()) w)
theorem e_hash_Table_walk_1 (a0 : Value) (f0 : Addr) (f1 : Addr) (w : World) (K : World → Prop) : den Try.prog 26 (bodyOf Try.f77) none (.seq .leaf (.blk (.loop [(10, (.int .i64))] (.seq .leaf (.seq (.cond .leaf .leaf) (.seq (.blk (.seq .leaf (.seq .leaf (.cond .leaf .leaf)))) .leaf)))))) (argEnv 0 [a0, (Value.pointer (some f0)), (Value.pointer (some f1))]) [] w (retK Try.prog [] [] K) = s_hash_Table_walk_1 a0 f0 f1 w K := by kernel_rfl
theorem ok_hash_Table_walk_1 {a0 f0 f1 w K} (h : s_hash_Table_walk_1 a0 f0 f1 w K) : c_hash_Table_walk_1 a0 f0 f1 w K :=
  fn_sound pok Try.func77 (fn := Try.f77) (c := bodyOf Try.f77) (nt := 26) (by kernel_rfl) (by kernel_rfl) (rs := []) (by kernel_rfl) [] K (.seq .leaf (.blk (.loop [(10, (.int .i64))] (.seq .leaf (.seq (.cond .leaf .leaf) (.seq (.blk (.seq .leaf (.seq .leaf (.cond .leaf .leaf)))) .leaf)))))) [a0, (Value.pointer (some f0)), (Value.pointer (some f1))] (by kernel_rfl) w ((e_hash_Table_walk_1 a0 f0 f1 w K).mpr h)

/-- slices.Clone[[]byte,byte] -/
def s_slices_Clone_byte_byte (a0 : SliceV) (w : World) (K : SliceV → World → Prop) : Prop :=
 ((bif (Option.isNone a0.a) then
 K ⟨none, 0, 0⟩ w
 else
 Al w (.cells ⟨[]⟩ 5) fun a3 w2 =>
 AppSl 5 1 1 [(Value.int .u8 0)] ⟨(some a3), 0, 0⟩ a0 w2 fun s4 w5 =>
 K s4 w5))
theorem e_slices_Clone_byte_byte (a0 : SliceV) (w : World) (K : SliceV → World → Prop) : den Try.prog 8 (bodyOf Try.f78) none (.seq .leaf (.seq (.seq .leaf (.cond (.seq .leaf .leaf) .leaf)) (.seq .leaf .leaf))) (argEnv 0 [(Value.slice a0.a a0.len a0.cap)]) [] w (retK Try.prog [.tmp 2] [.one .slice] K) = s_slices_Clone_byte_byte a0 w K := by kernel_rfl
theorem ok_slices_Clone_byte_byte {a0 w K} (h : s_slices_Clone_byte_byte a0 w K) : c_slices_Clone_byte_byte a0 w K :=
  fn_sound pok Try.func78 (fn := Try.f78) (c := bodyOf Try.f78) (nt := 8) (by kernel_rfl) (by kernel_rfl) (rs := [.tmp 2]) (by kernel_rfl) [.one .slice] K (.seq .leaf (.seq (.seq .leaf (.cond (.seq .leaf .leaf) .leaf)) (.seq .leaf .leaf))) [(Value.slice a0.a a0.len a0.cap)] (by kernel_rfl) w ((e_slices_Clone_byte_byte a0 w K).mpr h)

/-- goosepond/be.Fits -/
def s_be_Fits (a0 : Int) (a1 : Int) (w : World) (K : Bool → World → Prop) : Prop :=
 (let J3 : Bool → World → Prop := fun j4 w5 =>
 (K j4 w5)
 c_be_right a1 w fun r6 w7 =>
 (bif r6 then
 (bif (decide (a0 ≥ 0)) then
 0 ≤ (IntKind.i64.wrap (8 * a1)) ∧
 J3 ((shrI .i64 a0 (IntKind.i64.wrap (8 * a1))) == 0) w7
 else
 J3 false w7)
 else
 J3 false w7))
theorem e_be_Fits (a0 : Int) (a1 : Int) (w : World) (K : Bool → World → Prop) : den Try.prog 18 (bodyOf Try.f79) none (.seq .leaf (.seq .leaf .leaf)) (argEnv 0 [(Value.int .i64 a0), (Value.int .i64 a1)]) [] w (retK Try.prog [.tmp 4] [.one .bool] K) = s_be_Fits a0 a1 w K := by kernel_rfl
theorem ok_be_Fits {a0 a1 w K} (h : s_be_Fits a0 a1 w K) : c_be_Fits a0 a1 w K :=
  fn_sound pok Try.func79 (fn := Try.f79) (c := bodyOf Try.f79) (nt := 18) (by kernel_rfl) (by kernel_rfl) (rs := [.tmp 4]) (by kernel_rfl) [.one .bool] K (.seq .leaf (.seq .leaf .leaf)) [(Value.int .i64 a0), (Value.int .i64 a1)] (by kernel_rfl) w ((e_be_Fits a0 a1 w K).mpr h)

/-- slices.AppendSeq[[]byte,byte] -/
def s_slices_AppendSeq_byte_byte (a0 : SliceV) (a1 : Value) (w : World) (K : SliceV → World → Prop) : Prop :=
 (isOne (Value.slice a0.a a0.len a0.cap) = true ∧
 Al w (.cells ⟨[(Value.slice a0.a a0.len a0.cap)]⟩ 134) fun a4 w3 =>
 RngP Try.prog none [.one (.int .u8)] a1 w3 (fun l5 x6 W7 Kb8 =>
 W7.heap[l5]? = W7.heap[l5]? ∧
 Ld .slice (busyW W7 l5) a4 fun x9 =>
 Al (busyW W7 l5) (.cells ⟨[(Value.int .u8 x6.1)]⟩ 5) fun a11 w10 =>
 AppSl 5 1 1 [(Value.int .u8 0)] x9 ⟨(some a11), 1, 1⟩ w10 fun s12 w13 =>
 St w13 a4 (Value.slice s12.a s12.len s12.cap) fun w14 =>
 Kb8 .normal w14)
 (fun w15 =>
 Ld .slice w15 a4 fun x16 =>
 w15.heap[w3.heap.size]? = some (.deferred (some [])) ∧
 K x16 (w15.putObj w3.heap.size (.deferred none)))
 (fun w17 =>
 w17.heap[w3.heap.size]? = some (.deferred (some [])) ∧
 K ⟨none, 0, 0⟩ (w17.putObj w3.heap.size (.deferred none)))
 [])
theorem e_slices_AppendSeq_byte_byte (a0 : SliceV) (a1 : Value) (w : World) (K : SliceV → World → Prop) : den Try.prog 13 (bodyOf Try.f80) none (.seq .leaf (.seq (.seq .leaf (.blk (.rng [.one (.int .u8)] .leaf (.blk .leaf)))) (.seq .leaf .leaf))) (argEnv 0 [(Value.slice a0.a a0.len a0.cap), a1]) [] w (retK Try.prog [.tmp 4] [.one .slice] K) = s_slices_AppendSeq_byte_byte a0 a1 w K := by kernel_rfl
theorem ok_slices_AppendSeq_byte_byte {a0 a1 w K} (h : s_slices_AppendSeq_byte_byte a0 a1 w K) : c_slices_AppendSeq_byte_byte a0 a1 w K :=
  fn_sound pok Try.func80 (fn := Try.f80) (c := bodyOf Try.f80) (nt := 13) (by kernel_rfl) (by kernel_rfl) (rs := [.tmp 4]) (by kernel_rfl) [.one .slice] K (.seq .leaf (.seq (.seq .leaf (.blk (.rng [.one (.int .u8)] .leaf (.blk .leaf)))) (.seq .leaf .leaf))) [(Value.slice a0.a a0.len a0.cap), a1] (by kernel_rfl) w ((e_slices_AppendSeq_byte_byte a0 a1 w K).mpr h)

/-- goosepond/be.digits -/
def s_be_digits (a0 : Int) (a1 : Int) (w : World) (K : Value → World → Prop) : Prop :=
 (isOne (Value.int .i64 a0) = true ∧
 Al w (.cells ⟨[(Value.int .i64 a0)]⟩ 3) fun a4 w3 =>
 isOne (Value.int .i64 a1) = true ∧
 Al w3 (.cells ⟨[(Value.int .i64 a1)]⟩ 3) fun a6 w5 =>
 K (Value.func (.func 85) #[] #[(Value.pointer (some a6)), (Value.pointer (some a4))]) w5)
theorem e_be_digits (a0 : Int) (a1 : Int) (w : World) (K : Value → World → Prop) : den Try.prog 6 (bodyOf Try.f81) none (.seq .leaf (.seq .leaf .leaf)) (argEnv 0 [(Value.int .i64 a0), (Value.int .i64 a1)]) [] w (retK Try.prog [.tmp 4] [.one .any] K) = s_be_digits a0 a1 w K := by kernel_rfl
theorem ok_be_digits {a0 a1 w K} (h : s_be_digits a0 a1 w K) : c_be_digits a0 a1 w K :=
  fn_sound pok Try.func81 (fn := Try.f81) (c := bodyOf Try.f81) (nt := 6) (by kernel_rfl) (by kernel_rfl) (rs := [.tmp 4]) (by kernel_rfl) [.one .any] K (.seq .leaf (.seq .leaf .leaf)) [(Value.int .i64 a0), (Value.int .i64 a1)] (by kernel_rfl) w ((e_be_digits a0 a1 w K).mpr h)

/-- goosepond/be.right -/
def s_be_right (a0 : Int) (w : World) (K : Bool → World → Prop) : Prop :=
 (let J2 : Bool → Prop := fun j3 =>
 (K j3 w)
 (bif (decide (a0 ≥ 1)) then
 J2 (decide (a0 ≤ 4))
 else
 J2 false))
theorem e_be_right (a0 : Int) (w : World) (K : Bool → World → Prop) : den Try.prog 9 (bodyOf Try.f84) none (.seq .leaf (.seq .leaf .leaf)) (argEnv 0 [(Value.int .i64 a0)]) [] w (retK Try.prog [.tmp 2] [.one .bool] K) = s_be_right a0 w K := by kernel_rfl
theorem ok_be_right {a0 w K} (h : s_be_right a0 w K) : c_be_right a0 w K :=
  fn_sound pok Try.func84 (fn := Try.f84) (c := bodyOf Try.f84) (nt := 9) (by kernel_rfl) (by kernel_rfl) (rs := [.tmp 2]) (by kernel_rfl) [.one .bool] K (.seq .leaf (.seq .leaf .leaf)) [(Value.int .i64 a0)] (by kernel_rfl) w ((e_be_right a0 w K).mpr h)

/-- goosepond/be.digits$1 -/
def s_be_digits_1 (a0 : Value) (f0 : Addr) (f1 : Addr) (w : World) (K : World → Prop) : Prop :=
 (Ld (.int .i64) w f0 fun x2 =>
 LoopP (S := Int × Unit) (fun s3 w4 next5 =>
 (bif (decide (s3.1 ≥ 0)) then
 Ld (.int .i64) w4 f1 fun x6 =>
 0 ≤ (IntKind.i64.wrap (8 * s3.1)) ∧
 CallV Try.prog [.one .bool] a0 [(Value.int .u8 (IntKind.u8.wrap (shrI .i64 x6 (IntKind.i64.wrap (8 * s3.1)))))] w4 fun r7 w8 =>
 ∃ r9 : Bool, r7 = (Value.bool r9) ∧
 (bif (!r9) then
 K w8
 else
 next5 ((IntKind.i64.wrap (s3.1 - 1)), ()) w8)
 else
 K w4)) ((IntKind.i64.wrap (x2 - 1)), ()) w)
theorem e_be_digits_1 (a0 : Value) (f0 : Addr) (f1 : Addr) (w : World) (K : World → Prop) : den Try.prog 19 (bodyOf Try.f85) none (.seq .leaf (.blk (.loop [(4, (.int .i64))] (.seq (.seq .leaf (.cond .leaf .leaf)) (.seq (.blk (.seq .leaf (.cond .leaf .leaf))) .leaf))))) (argEnv 0 [a0, (Value.pointer (some f0)), (Value.pointer (some f1))]) [] w (retK Try.prog [] [] K) = s_be_digits_1 a0 f0 f1 w K := by kernel_rfl
theorem ok_be_digits_1 {a0 f0 f1 w K} (h : s_be_digits_1 a0 f0 f1 w K) : c_be_digits_1 a0 f0 f1 w K :=
  fn_sound pok Try.func85 (fn := Try.f85) (c := bodyOf Try.f85) (nt := 19) (by kernel_rfl) (by kernel_rfl) (rs := []) (by kernel_rfl) [] K (.seq .leaf (.blk (.loop [(4, (.int .i64))] (.seq (.seq .leaf (.cond .leaf .leaf)) (.seq (.blk (.seq .leaf (.cond .leaf .leaf))) .leaf))))) [a0, (Value.pointer (some f0)), (Value.pointer (some f1))] (by kernel_rfl) w ((e_be_digits_1 a0 f0 f1 w K).mpr h)

end Go.Proofs
