import Derived.Test.YtiggfdfdijjinaaFn
import Derived.Test.YtiggfdfdijjinaaProg
import Derived.KernelRfl
namespace Go.Proofs
open Gp
set_option maxRecDepth 100000
theorem pok : POk Try.prog := POk.of_all (by kernel_rfl) (by kernel_rfl)

/-- goosepond/goosepondlaw21.QuotaLives -/
abbrev n_law21_QuotaLives : FuncId := 3
def c_law21_QuotaLives (a0 : Int) (a1 : Int) (a2 : SliceV) (w : World) (K : Bool → World → Prop) : Prop :=
  Calls Try.prog 3 ⟨[(Value.int .i64 a0), (Value.int .i64 a1), (Value.slice a2.a a2.len a2.cap)]⟩ w fun e w' => ∃ y54 : Bool, e = .returned (Value.bool y54) ∧ K y54 w'
theorem cm_law21_QuotaLives {a0 a1 a2 w K K'} (h : c_law21_QuotaLives a0 a1 a2 w K) (hk : ∀ x0 w', K x0 w' → K' x0 w') : c_law21_QuotaLives a0 a1 a2 w K' :=
  Calls.mono h fun e w' hh => by obtain ⟨x0, he, hx⟩ := hh; exact ⟨x0, he, hk _ _ hx⟩

/-- goosepond/goosepondlaw21.QuotaBounds -/
abbrev n_law21_QuotaBounds : FuncId := 4
def c_law21_QuotaBounds (a0 : Int) (a1 : Int) (a2 : SliceV) (w : World) (K : Bool → World → Prop) : Prop :=
  Calls Try.prog 4 ⟨[(Value.int .u8 a0), (Value.int .u8 a1), (Value.slice a2.a a2.len a2.cap)]⟩ w fun e w' => ∃ y42 : Bool, e = .returned (Value.bool y42) ∧ K y42 w'
theorem cm_law21_QuotaBounds {a0 a1 a2 w K K'} (h : c_law21_QuotaBounds a0 a1 a2 w K) (hk : ∀ x0 w', K x0 w' → K' x0 w') : c_law21_QuotaBounds a0 a1 a2 w K' :=
  Calls.mono h fun e w' hh => by obtain ⟨x0, he, hx⟩ := hh; exact ⟨x0, he, hk _ _ hx⟩

/-- goosepond/quota.New -/
abbrev n_quota_New : FuncId := 5
def c_quota_New (a0 : Int) (a1 : Int) (w : World) (K : (Option Addr) → Int → World → Prop) : Prop :=
  Calls Try.prog 5 ⟨[(Value.int .i64 a0), (Value.int .i64 a1)]⟩ w fun e w' => ∃ y16 : Option Addr, ∃ y17 : Int, e = .returned (Value.tuple ⟨[(Value.pointer y16), (Value.int .i64 y17)]⟩) ∧ K y16 y17 w'
theorem cm_quota_New {a0 a1 w K K'} (h : c_quota_New a0 a1 w K) (hk : ∀ x0 x1 w', K x0 x1 w' → K' x0 x1 w') : c_quota_New a0 a1 w K' :=
  Calls.mono h fun e w' hh => by obtain ⟨x0, x1, he, hx⟩ := hh; exact ⟨x0, x1, he, hk _ _ _ hx⟩

/-- goosepond/goosepondref21.New -/
abbrev n_ref21_New : FuncId := 6
def c_ref21_New (a0 : Int) (a1 : Int) (w : World) (K : (Option Addr) → Int → World → Prop) : Prop :=
  Calls Try.prog 6 ⟨[(Value.int .i64 a0), (Value.int .i64 a1)]⟩ w fun e w' => ∃ y7 : Option Addr, ∃ y8 : Int, e = .returned (Value.tuple ⟨[(Value.pointer y7), (Value.int .i64 y8)]⟩) ∧ K y7 y8 w'
theorem cm_ref21_New {a0 a1 w K K'} (h : c_ref21_New a0 a1 w K) (hk : ∀ x0 x1 w', K x0 x1 w' → K' x0 x1 w') : c_ref21_New a0 a1 w K' :=
  Calls.mono h fun e w' hh => by obtain ⟨x0, x1, he, hx⟩ := hh; exact ⟨x0, x1, he, hk _ _ _ hx⟩

/-- (*goosepond/quota.Quota).Give -/
abbrev n_quota_Quota_Give : FuncId := 7
def c_quota_Quota_Give (a0 : Option Addr) (a1 : Int) (w : World) (K : Int → World → Prop) : Prop :=
  Calls Try.prog 7 ⟨[(Value.pointer a0), (Value.int .i64 a1)]⟩ w fun e w' => ∃ y10 : Int, e = .returned (Value.int .i64 y10) ∧ K y10 w'
theorem cm_quota_Quota_Give {a0 a1 w K K'} (h : c_quota_Quota_Give a0 a1 w K) (hk : ∀ x0 w', K x0 w' → K' x0 w') : c_quota_Quota_Give a0 a1 w K' :=
  Calls.mono h fun e w' hh => by obtain ⟨x0, he, hx⟩ := hh; exact ⟨x0, he, hk _ _ hx⟩

/-- (*goosepond/goosepondref21.Quota).Give -/
abbrev n_ref21_Quota_Give : FuncId := 8
def c_ref21_Quota_Give (a0 : Option Addr) (a1 : Int) (w : World) (K : Int → World → Prop) : Prop :=
  Calls Try.prog 8 ⟨[(Value.pointer a0), (Value.int .i64 a1)]⟩ w fun e w' => ∃ y15 : Int, e = .returned (Value.int .i64 y15) ∧ K y15 w'
theorem cm_ref21_Quota_Give {a0 a1 w K K'} (h : c_ref21_Quota_Give a0 a1 w K) (hk : ∀ x0 w', K x0 w' → K' x0 w') : c_ref21_Quota_Give a0 a1 w K' :=
  Calls.mono h fun e w' hh => by obtain ⟨x0, he, hx⟩ := hh; exact ⟨x0, he, hk _ _ hx⟩

/-- (*goosepond/quota.Quota).Take -/
abbrev n_quota_Quota_Take : FuncId := 9
def c_quota_Quota_Take (a0 : Option Addr) (a1 : Int) (w : World) (K : Int → World → Prop) : Prop :=
  Calls Try.prog 9 ⟨[(Value.pointer a0), (Value.int .i64 a1)]⟩ w fun e w' => ∃ y13 : Int, e = .returned (Value.int .i64 y13) ∧ K y13 w'
theorem cm_quota_Quota_Take {a0 a1 w K K'} (h : c_quota_Quota_Take a0 a1 w K) (hk : ∀ x0 w', K x0 w' → K' x0 w') : c_quota_Quota_Take a0 a1 w K' :=
  Calls.mono h fun e w' hh => by obtain ⟨x0, he, hx⟩ := hh; exact ⟨x0, he, hk _ _ hx⟩

/-- (*goosepond/goosepondref21.Quota).Take -/
abbrev n_ref21_Quota_Take : FuncId := 10
def c_ref21_Quota_Take (a0 : Option Addr) (a1 : Int) (w : World) (K : Int → World → Prop) : Prop :=
  Calls Try.prog 10 ⟨[(Value.pointer a0), (Value.int .i64 a1)]⟩ w fun e w' => ∃ y17 : Int, e = .returned (Value.int .i64 y17) ∧ K y17 w'
theorem cm_ref21_Quota_Take {a0 a1 w K K'} (h : c_ref21_Quota_Take a0 a1 w K) (hk : ∀ x0 w', K x0 w' → K' x0 w') : c_ref21_Quota_Take a0 a1 w K' :=
  Calls.mono h fun e w' hh => by obtain ⟨x0, he, hx⟩ := hh; exact ⟨x0, he, hk _ _ hx⟩

/-- (*goosepond/quota.Quota).Count -/
abbrev n_quota_Quota_Count : FuncId := 11
def c_quota_Quota_Count (a0 : Option Addr) (a1 : Int) (w : World) (K : Int → World → Prop) : Prop :=
  Calls Try.prog 11 ⟨[(Value.pointer a0), (Value.int .i64 a1)]⟩ w fun e w' => ∃ y6 : Int, e = .returned (Value.int .i64 y6) ∧ K y6 w'
theorem cm_quota_Quota_Count {a0 a1 w K K'} (h : c_quota_Quota_Count a0 a1 w K) (hk : ∀ x0 w', K x0 w' → K' x0 w') : c_quota_Quota_Count a0 a1 w K' :=
  Calls.mono h fun e w' hh => by obtain ⟨x0, he, hx⟩ := hh; exact ⟨x0, he, hk _ _ hx⟩

/-- (*goosepond/goosepondref21.Quota).Count -/
abbrev n_ref21_Quota_Count : FuncId := 12
def c_ref21_Quota_Count (a0 : Option Addr) (a1 : Int) (w : World) (K : Int → World → Prop) : Prop :=
  Calls Try.prog 12 ⟨[(Value.pointer a0), (Value.int .i64 a1)]⟩ w fun e w' => ∃ y9 : Int, e = .returned (Value.int .i64 y9) ∧ K y9 w'
theorem cm_ref21_Quota_Count {a0 a1 w K K'} (h : c_ref21_Quota_Count a0 a1 w K) (hk : ∀ x0 w', K x0 w' → K' x0 w') : c_ref21_Quota_Count a0 a1 w K' :=
  Calls.mono h fun e w' hh => by obtain ⟨x0, he, hx⟩ := hh; exact ⟨x0, he, hk _ _ hx⟩

/-- (*goosepond/quota.Quota).Total -/
abbrev n_quota_Quota_Total : FuncId := 13
def c_quota_Quota_Total (a0 : Option Addr) (w : World) (K : Int → World → Prop) : Prop :=
  Calls Try.prog 13 ⟨[(Value.pointer a0)]⟩ w fun e w' => ∃ y14 : Int, e = .returned (Value.int .i64 y14) ∧ K y14 w'
theorem cm_quota_Quota_Total {a0 w K K'} (h : c_quota_Quota_Total a0 w K) (hk : ∀ x0 w', K x0 w' → K' x0 w') : c_quota_Quota_Total a0 w K' :=
  Calls.mono h fun e w' hh => by obtain ⟨x0, he, hx⟩ := hh; exact ⟨x0, he, hk _ _ hx⟩

/-- (*goosepond/goosepondref21.Quota).Total -/
abbrev n_ref21_Quota_Total : FuncId := 14
def c_ref21_Quota_Total (a0 : Option Addr) (w : World) (K : Int → World → Prop) : Prop :=
  Calls Try.prog 14 ⟨[(Value.pointer a0)]⟩ w fun e w' => ∃ y10 : Int, e = .returned (Value.int .i64 y10) ∧ K y10 w'
theorem cm_ref21_Quota_Total {a0 w K K'} (h : c_ref21_Quota_Total a0 w K) (hk : ∀ x0 w', K x0 w' → K' x0 w') : c_ref21_Quota_Total a0 w K' :=
  Calls.mono h fun e w' hh => by obtain ⟨x0, he, hx⟩ := hh; exact ⟨x0, he, hk _ _ hx⟩

/-- goosepond/goosepondlaw21.awake -/
abbrev n_law21_awake : FuncId := 15
def c_law21_awake  (w : World) (K : Bool → World → Prop) : Prop :=
  Calls Try.prog 15 ⟨[]⟩ w fun e w' => ∃ y15 : Bool, e = .returned (Value.bool y15) ∧ K y15 w'
theorem cm_law21_awake { w K K'} (h : c_law21_awake  w K) (hk : ∀ x0 w', K x0 w' → K' x0 w') : c_law21_awake  w K' :=
  Calls.mono h fun e w' hh => by obtain ⟨x0, he, hx⟩ := hh; exact ⟨x0, he, hk _ _ hx⟩

/-- (*goosepond/quota.Quota).of -/
abbrev n_quota_Quota_of : FuncId := 16
def c_quota_Quota_of (a0 : Option Addr) (a1 : Int) (w : World) (K : (Option Addr) → Int → World → Prop) : Prop :=
  Calls Try.prog 16 ⟨[(Value.pointer a0), (Value.int .i64 a1)]⟩ w fun e w' => ∃ y12 : Option Addr, ∃ y13 : Int, e = .returned (Value.tuple ⟨[(Value.pointer y12), (Value.int .i64 y13)]⟩) ∧ K y12 y13 w'
theorem cm_quota_Quota_of {a0 a1 w K K'} (h : c_quota_Quota_of a0 a1 w K) (hk : ∀ x0 x1 w', K x0 x1 w' → K' x0 x1 w') : c_quota_Quota_of a0 a1 w K' :=
  Calls.mono h fun e w' hh => by obtain ⟨x0, x1, he, hx⟩ := hh; exact ⟨x0, x1, he, hk _ _ _ hx⟩

/-- (goosepond/quota.share).full -/
abbrev n_quota_share_full : FuncId := 17
def c_quota_share_full (a0_0 : Int) (a0_1 : Int) (w : World) (K : Bool → World → Prop) : Prop :=
  Calls Try.prog 17 ⟨[(Value.agg ⟨[(Value.int .i64 a0_0), (Value.int .i64 a0_1)]⟩)]⟩ w fun e w' => ∃ y5 : Bool, e = .returned (Value.bool y5) ∧ K y5 w'
theorem cm_quota_share_full {a0_0 a0_1 w K K'} (h : c_quota_share_full a0_0 a0_1 w K) (hk : ∀ x0 w', K x0 w' → K' x0 w') : c_quota_share_full a0_0 a0_1 w K' :=
  Calls.mono h fun e w' hh => by obtain ⟨x0, he, hx⟩ := hh; exact ⟨x0, he, hk _ _ hx⟩

/-- goosepond/goosepondlaw21.QuotaLives -/
def s_law21_QuotaLives (a0 : Int) (a1 : Int) (a2 : SliceV) (w : World) (K : Bool → World → Prop) : Prop :=
 c_quota_New a0 a1 w fun r1 r2 w3 =>
 c_ref21_New a0 a1 w3 fun r4 r5 w6 =>
 let J7 : Bool → Prop := fun j8 =>
 ((bif j8 then
 K false w6
 else
 let J9 : World → Prop := fun w10 =>
 (c_law21_awake  w10 fun r11 w12 =>
 K r11 w12)
 LoopP (S := Int × Unit) (fun s13 w14 next15 =>
 (bif (decide (s13.1 < (a2.len : Int))) then
 AtIx a2 2 s13.1 fun a16 =>
 Ld .bool w14 (a16.add 0) fun x17 =>
 Ld (.int .i64) w14 (a16.add 1) fun x18 =>
 Al w14 (.cells ⟨[(Value.bool false), (Value.int .i64 0)]⟩ 31) fun a20 w19 =>
 St w19 (a20.add 0) (Value.bool x17) fun w21 =>
 St w21 (a20.add 1) (Value.int .i64 x18) fun w22 =>
 let J23 : Bool → Prop := fun j24 =>
 ((bif j24 then
 J9 w22
 else
 let J25 : Bool → World → Prop := fun j26 w27 =>
 (let J28 : Bool → World → Prop := fun j29 w30 =>
 ((bif j29 then
 K false w30
 else
 next15 ((IntKind.i64.wrap (s13.1 + 1)), ()) w30))
 (bif (!j26) then
 J28 true w27.drew
 else
 Ld (.int .i64) w27.drew (a20.add 1) fun x31 =>
 Ld (.int .i64) w27.drew (a20.add 1) fun x32 =>
 c_quota_Quota_Count r1 x31 w27.drew fun r33 w34 =>
 w34.cell? (a20.add 1) = some (Value.int .i64 x32) ∧
 c_ref21_Quota_Count r4 x32 w34 fun r35 w36 =>
 (bif (r33 != r35) then
 J28 true w36
 else
 c_quota_Quota_Total r1 w36 fun r37 w38 =>
 c_ref21_Quota_Total r4 w38 fun r39 w40 =>
 J28 (r37 != r39) w40)))
 Ld .bool w22 a20 fun x41 =>
 (bif x41 then
 Ld (.int .i64) w22.drew (a20.add 1) fun x42 =>
 Ld (.int .i64) w22.drew (a20.add 1) fun x43 =>
 c_quota_Quota_Give r1 x42 w22.drew fun r44 w45 =>
 w45.cell? (a20.add 1) = some (Value.int .i64 x43) ∧
 c_ref21_Quota_Give r4 x43 w45 fun r46 w47 =>
 J25 (r44 == r46) w47
 else
 Ld (.int .i64) w22.drew (a20.add 1) fun x48 =>
 Ld (.int .i64) w22.drew (a20.add 1) fun x49 =>
 c_quota_Quota_Take r1 x48 w22.drew fun r50 w51 =>
 w51.cell? (a20.add 1) = some (Value.int .i64 x49) ∧
 c_ref21_Quota_Take r4 x49 w51 fun r52 w53 =>
 J25 (r50 == r52) w53)))
 (bif (decide (s13.1 ≥ 200)) then
 J23 true
 else
 J23 (Option.isNone r4))
 else
 J9 w14)) (0, ()) w6))
 (bif (r2 != r5) then
 J7 true
 else
 J7 (!(((Option.isNone r1) : Bool) == (Option.isNone r4))))
theorem e_law21_QuotaLives (a0 : Int) (a1 : Int) (a2 : SliceV) (w : World) (K : Bool → World → Prop) : den Try.prog 91 (bodyOf Try.f3) none (.seq .leaf (.seq .leaf (.seq .leaf (.seq (.seq .leaf (.cond (.seq .leaf .leaf) .leaf)) (.seq (.seq .leaf (.blk (.loop [(38, (.int .i64))] (.seq .leaf (.seq (.cond .leaf .leaf) (.seq (.blk (.seq .leaf (.seq (.seq .leaf (.cond .leaf .leaf)) (.seq .leaf (.seq (.seq .leaf (.cond .leaf .leaf)) (.seq .leaf (.cond (.seq .leaf .leaf) .leaf))))))) .leaf)))))) (.seq .leaf .leaf)))))) (argEnv 0 [(Value.int .i64 a0), (Value.int .i64 a1), (Value.slice a2.a a2.len a2.cap)]) [] w (retK Try.prog [.tmp 6] [.one .bool] K) = s_law21_QuotaLives a0 a1 a2 w K := by kernel_rfl
theorem ok_law21_QuotaLives {a0 a1 a2 w K} (h : s_law21_QuotaLives a0 a1 a2 w K) : c_law21_QuotaLives a0 a1 a2 w K :=
  fn_sound pok Try.func3 (fn := Try.f3) (c := bodyOf Try.f3) (nt := 91) (by kernel_rfl) (by kernel_rfl) (rs := [.tmp 6]) (by kernel_rfl) [.one .bool] K (.seq .leaf (.seq .leaf (.seq .leaf (.seq (.seq .leaf (.cond (.seq .leaf .leaf) .leaf)) (.seq (.seq .leaf (.blk (.loop [(38, (.int .i64))] (.seq .leaf (.seq (.cond .leaf .leaf) (.seq (.blk (.seq .leaf (.seq (.seq .leaf (.cond .leaf .leaf)) (.seq .leaf (.seq (.seq .leaf (.cond .leaf .leaf)) (.seq .leaf (.cond (.seq .leaf .leaf) .leaf))))))) .leaf)))))) (.seq .leaf .leaf)))))) [(Value.int .i64 a0), (Value.int .i64 a1), (Value.slice a2.a a2.len a2.cap)] (by kernel_rfl) w ((e_law21_QuotaLives a0 a1 a2 w K).mpr h)

/-- goosepond/goosepondlaw21.QuotaBounds -/
def s_law21_QuotaBounds (a0 : Int) (a1 : Int) (a2 : SliceV) (w : World) (K : Bool → World → Prop) : Prop :=
 (64 : Int) ≠ 0 ∧
 (9 : Int) ≠ 0 ∧
 c_quota_New (IntKind.i64.wrap (1 + (IntKind.i64.wrap (Int.tmod a0 64)))) (IntKind.i64.wrap (Int.tmod a1 9)) w fun r1 r2 w3 =>
 let J4 : Bool → Prop := fun j5 =>
 ((bif j5 then
 K false w3
 else
 let J6 : World → Prop := fun w7 =>
 (c_law21_awake  w7 fun r8 w9 =>
 K r8 w9)
 LoopP (S := Int × Unit) (fun s10 w11 next12 =>
 (bif (decide (s10.1 < (a2.len : Int))) then
 AtIx a2 2 s10.1 fun a13 =>
 Ld .bool w11 (a13.add 0) fun x14 =>
 Ld (.int .i64) w11 (a13.add 1) fun x15 =>
 Al w11 (.cells ⟨[(Value.bool false), (Value.int .i64 0)]⟩ 31) fun a17 w16 =>
 St w16 (a17.add 0) (Value.bool x14) fun w18 =>
 St w18 (a17.add 1) (Value.int .i64 x15) fun w19 =>
 (bif (decide (s10.1 ≥ 200)) then
 J6 w19
 else
 let J20 : World → Prop := fun w21 =>
 (let J22 : Bool → World → Prop := fun j23 w24 =>
 ((bif j23 then
 K false w24
 else
 next12 ((IntKind.i64.wrap (s10.1 + 1)), ()) w24))
 Ld (.int .i64) w21 (a17.add 1) fun x25 =>
 c_quota_Quota_Count r1 x25 w21 fun r26 w27 =>
 (bif (decide (r26 < 0)) then
 J22 true w27
 else
 Ld (.int .i64) w27 (a17.add 1) fun x28 =>
 c_quota_Quota_Count r1 x28 w27 fun r29 w30 =>
 (bif (decide (r29 > (IntKind.i64.wrap (Int.tmod a1 9)))) then
 J22 true w30
 else
 c_quota_Quota_Total r1 w30 fun r31 w32 =>
 (bif (decide (r31 < 0)) then
 J22 true w32
 else
 c_quota_Quota_Total r1 w32 fun r33 w34 =>
 J22 (decide (r33 > (IntKind.i64.wrap ((IntKind.i64.wrap (1 + (IntKind.i64.wrap (Int.tmod a0 64)))) * (IntKind.i64.wrap (Int.tmod a1 9)))))) w34))))
 Ld .bool w19 a17 fun x35 =>
 (bif x35 then
 Ld (.int .i64) w19 (a17.add 1) fun x36 =>
 c_quota_Quota_Give r1 x36 w19 fun r37 w38 =>
 J20 w38
 else
 Ld (.int .i64) w19 (a17.add 1) fun x39 =>
 c_quota_Quota_Take r1 x39 w19 fun r40 w41 =>
 J20 w41))
 else
 J6 w11)) (0, ()) w3))
 (bif (Option.isNone r1) then
 J4 true
 else
 J4 (r2 != 0))
theorem e_law21_QuotaBounds (a0 : Int) (a1 : Int) (a2 : SliceV) (w : World) (K : Bool → World → Prop) : den Try.prog 79 (bodyOf Try.f4) none (.seq .leaf (.seq .leaf (.seq .leaf (.seq (.seq .leaf (.cond (.seq .leaf .leaf) .leaf)) (.seq (.seq .leaf (.blk (.loop [(34, (.int .i64))] (.seq .leaf (.seq (.cond .leaf .leaf) (.seq (.blk (.seq .leaf (.seq (.seq .leaf (.cond .leaf .leaf)) (.seq (.seq .leaf (.cond .leaf .leaf)) (.seq .leaf (.cond (.seq .leaf .leaf) .leaf)))))) .leaf)))))) (.seq .leaf .leaf)))))) (argEnv 0 [(Value.int .u8 a0), (Value.int .u8 a1), (Value.slice a2.a a2.len a2.cap)]) [] w (retK Try.prog [.tmp 6] [.one .bool] K) = s_law21_QuotaBounds a0 a1 a2 w K := by kernel_rfl
theorem ok_law21_QuotaBounds {a0 a1 a2 w K} (h : s_law21_QuotaBounds a0 a1 a2 w K) : c_law21_QuotaBounds a0 a1 a2 w K :=
  fn_sound pok Try.func4 (fn := Try.f4) (c := bodyOf Try.f4) (nt := 79) (by kernel_rfl) (by kernel_rfl) (rs := [.tmp 6]) (by kernel_rfl) [.one .bool] K (.seq .leaf (.seq .leaf (.seq .leaf (.seq (.seq .leaf (.cond (.seq .leaf .leaf) .leaf)) (.seq (.seq .leaf (.blk (.loop [(34, (.int .i64))] (.seq .leaf (.seq (.cond .leaf .leaf) (.seq (.blk (.seq .leaf (.seq (.seq .leaf (.cond .leaf .leaf)) (.seq (.seq .leaf (.cond .leaf .leaf)) (.seq .leaf (.cond (.seq .leaf .leaf) .leaf)))))) .leaf)))))) (.seq .leaf .leaf)))))) [(Value.int .u8 a0), (Value.int .u8 a1), (Value.slice a2.a a2.len a2.cap)] (by kernel_rfl) w ((e_law21_QuotaBounds a0 a1 a2 w K).mpr h)

/-- goosepond/quota.New -/
def s_quota_New (a0 : Int) (a1 : Int) (w : World) (K : (Option Addr) → Int → World → Prop) : Prop :=
 let J1 : Bool → Prop := fun j2 =>
 ((bif j2 then
 K none 1 w
 else
 MkSl 42 2 16 [(Value.int .i64 0), (Value.int .i64 0)] a0 a0 w fun s3 w4 =>
 Al w4 (.cells ⟨[(Value.slice s3.a s3.len s3.cap)]⟩ 40) fun a6 w5 =>
 ∃ a7 : Addr, (some a6) = some a7 ∧
 Ld .slice w5 a7 fun x8 =>
 LoopP (S := Int × Unit) (fun s9 w10 next11 =>
 (bif (decide (s9.1 < (x8.len : Int))) then
 ∃ a12 : Addr, (some a6) = some a12 ∧
 Ld .slice w10 a12 fun x13 =>
 AtIx x13 2 s9.1 fun a14 =>
 St w10 (a14.add 1) (Value.int .i64 a1) fun w15 =>
 next11 ((IntKind.i64.wrap (s9.1 + 1)), ()) w15
 else
 K (some a6) 0 w10)) (0, ()) w5))
 (bif (decide (a0 < 1)) then
 J1 true
 else
 (bif (decide (a0 > 64)) then
 J1 true
 else
 (bif (decide (a1 < 0)) then
 J1 true
 else
 J1 (decide (a1 > 4096)))))
theorem e_quota_New (a0 : Int) (a1 : Int) (w : World) (K : (Option Addr) → Int → World → Prop) : den Try.prog 44 (bodyOf Try.f5) none (.seq .leaf (.seq (.seq .leaf (.cond (.seq .leaf .leaf) .leaf)) (.seq .leaf (.seq (.seq .leaf (.blk (.loop [(31, (.int .i64))] (.seq .leaf (.seq (.cond .leaf .leaf) (.seq (.blk (.seq .leaf .leaf)) .leaf)))))) (.seq .leaf .leaf))))) (argEnv 0 [(Value.int .i64 a0), (Value.int .i64 a1)]) [] w (retK Try.prog [.tmp 4, .tmp 5] [.one .ptr, .one (.int .i64)] K) = s_quota_New a0 a1 w K := by kernel_rfl
theorem ok_quota_New {a0 a1 w K} (h : s_quota_New a0 a1 w K) : c_quota_New a0 a1 w K :=
  fn_sound pok Try.func5 (fn := Try.f5) (c := bodyOf Try.f5) (nt := 44) (by kernel_rfl) (by kernel_rfl) (rs := [.tmp 4, .tmp 5]) (by kernel_rfl) [.one .ptr, .one (.int .i64)] K (.seq .leaf (.seq (.seq .leaf (.cond (.seq .leaf .leaf) .leaf)) (.seq .leaf (.seq (.seq .leaf (.blk (.loop [(31, (.int .i64))] (.seq .leaf (.seq (.cond .leaf .leaf) (.seq (.blk (.seq .leaf .leaf)) .leaf)))))) (.seq .leaf .leaf))))) [(Value.int .i64 a0), (Value.int .i64 a1)] (by kernel_rfl) w ((e_quota_New a0 a1 w K).mpr h)

/-- goosepond/goosepondref21.New -/
def s_ref21_New (a0 : Int) (a1 : Int) (w : World) (K : (Option Addr) → Int → World → Prop) : Prop :=
 let J1 : Bool → Prop := fun j2 =>
 ((bif j2 then
 K none 1 w
 else
 MkSl 3 1 8 [(Value.int .i64 0)] a0 a0 w fun s3 w4 =>
 Al w4 (.cells ⟨[(Value.slice s3.a s3.len s3.cap), (Value.int .i64 a1)]⟩ 45) fun a6 w5 =>
 K (some a6) 0 w5))
 (bif (decide (a0 < 1)) then
 J1 true
 else
 (bif (decide (a0 > 64)) then
 J1 true
 else
 (bif (decide (a1 < 0)) then
 J1 true
 else
 J1 (decide (a1 > 4096)))))
theorem e_ref21_New (a0 : Int) (a1 : Int) (w : World) (K : (Option Addr) → Int → World → Prop) : den Try.prog 25 (bodyOf Try.f6) none (.seq .leaf (.seq (.seq .leaf (.cond (.seq .leaf .leaf) .leaf)) (.seq .leaf .leaf))) (argEnv 0 [(Value.int .i64 a0), (Value.int .i64 a1)]) [] w (retK Try.prog [.tmp 4, .tmp 5] [.one .ptr, .one (.int .i64)] K) = s_ref21_New a0 a1 w K := by kernel_rfl
theorem ok_ref21_New {a0 a1 w K} (h : s_ref21_New a0 a1 w K) : c_ref21_New a0 a1 w K :=
  fn_sound pok Try.func6 (fn := Try.f6) (c := bodyOf Try.f6) (nt := 25) (by kernel_rfl) (by kernel_rfl) (rs := [.tmp 4, .tmp 5]) (by kernel_rfl) [.one .ptr, .one (.int .i64)] K (.seq .leaf (.seq (.seq .leaf (.cond (.seq .leaf .leaf) .leaf)) (.seq .leaf .leaf))) [(Value.int .i64 a0), (Value.int .i64 a1)] (by kernel_rfl) w ((e_ref21_New a0 a1 w K).mpr h)

/-- (*goosepond/quota.Quota).Give -/
def s_quota_Quota_Give (a0 : Option Addr) (a1 : Int) (w : World) (K : Int → World → Prop) : Prop :=
 c_quota_Quota_of a0 a1 w fun r1 r2 w3 =>
 (bif (r2 != 0) then
 K r2 w3
 else
 ∃ a4 : Addr, r1 = some a4 ∧
 Ld (.int .i64) w3 a4 fun x5 =>
 (bif (x5 == 0) then
 K 8 w3
 else
 ∃ a6 : Addr, r1 = some a6 ∧
 Ld (.int .i64) w3 a6 fun x7 =>
 ∃ a8 : Addr, r1 = some a8 ∧
 St w3 a8 (Value.int .i64 (IntKind.i64.wrap (x7 - 1))) fun w9 =>
 K 0 w9))
theorem e_quota_Quota_Give (a0 : Option Addr) (a1 : Int) (w : World) (K : Int → World → Prop) : den Try.prog 28 (bodyOf Try.f7) none (.seq .leaf (.seq .leaf (.seq (.seq .leaf (.cond (.seq .leaf .leaf) .leaf)) (.seq (.seq .leaf (.cond (.seq .leaf .leaf) .leaf)) (.seq .leaf (.seq .leaf .leaf)))))) (argEnv 0 [(Value.pointer a0), (Value.int .i64 a1)]) [] w (retK Try.prog [.tmp 4] [.one (.int .i64)] K) = s_quota_Quota_Give a0 a1 w K := by kernel_rfl
theorem ok_quota_Quota_Give {a0 a1 w K} (h : s_quota_Quota_Give a0 a1 w K) : c_quota_Quota_Give a0 a1 w K :=
  fn_sound pok Try.func7 (fn := Try.f7) (c := bodyOf Try.f7) (nt := 28) (by kernel_rfl) (by kernel_rfl) (rs := [.tmp 4]) (by kernel_rfl) [.one (.int .i64)] K (.seq .leaf (.seq .leaf (.seq (.seq .leaf (.cond (.seq .leaf .leaf) .leaf)) (.seq (.seq .leaf (.cond (.seq .leaf .leaf) .leaf)) (.seq .leaf (.seq .leaf .leaf)))))) [(Value.pointer a0), (Value.int .i64 a1)] (by kernel_rfl) w ((e_quota_Quota_Give a0 a1 w K).mpr h)

/-- (*goosepond/goosepondref21.Quota).Give -/
def s_ref21_Quota_Give (a0 : Option Addr) (a1 : Int) (w : World) (K : Int → World → Prop) : Prop :=
 let J1 : Bool → Prop := fun j2 =>
 ((bif j2 then
 K 1 w
 else
 ∃ a3 : Addr, a0 = some a3 ∧
 Ld .slice w a3 fun x4 =>
 AtIx x4 1 a1 fun a5 =>
 Ld (.int .i64) w a5 fun x6 =>
 (bif (x6 == 0) then
 K 8 w
 else
 ∃ a7 : Addr, a0 = some a7 ∧
 Ld .slice w a7 fun x8 =>
 AtIx x8 1 a1 fun a9 =>
 Ld (.int .i64) w a9 fun x10 =>
 AtIx x8 1 a1 fun a11 =>
 St w a11 (Value.int .i64 (IntKind.i64.wrap (x10 - 1))) fun w12 =>
 K 0 w12)))
 (bif (decide (a1 < 0)) then
 J1 true
 else
 ∃ a13 : Addr, a0 = some a13 ∧
 Ld .slice w a13 fun x14 =>
 J1 (decide (a1 ≥ (x14.len : Int))))
theorem e_ref21_Quota_Give (a0 : Option Addr) (a1 : Int) (w : World) (K : Int → World → Prop) : den Try.prog 35 (bodyOf Try.f8) none (.seq .leaf (.seq (.blk (.seq .leaf (.cond (.seq .leaf .leaf) (.seq .leaf (.cond (.seq .leaf .leaf) .leaf))))) (.seq .leaf (.seq .leaf .leaf)))) (argEnv 0 [(Value.pointer a0), (Value.int .i64 a1)]) [] w (retK Try.prog [.tmp 4] [.one (.int .i64)] K) = s_ref21_Quota_Give a0 a1 w K := by kernel_rfl
theorem ok_ref21_Quota_Give {a0 a1 w K} (h : s_ref21_Quota_Give a0 a1 w K) : c_ref21_Quota_Give a0 a1 w K :=
  fn_sound pok Try.func8 (fn := Try.f8) (c := bodyOf Try.f8) (nt := 35) (by kernel_rfl) (by kernel_rfl) (rs := [.tmp 4]) (by kernel_rfl) [.one (.int .i64)] K (.seq .leaf (.seq (.blk (.seq .leaf (.cond (.seq .leaf .leaf) (.seq .leaf (.cond (.seq .leaf .leaf) .leaf))))) (.seq .leaf (.seq .leaf .leaf)))) [(Value.pointer a0), (Value.int .i64 a1)] (by kernel_rfl) w ((e_ref21_Quota_Give a0 a1 w K).mpr h)

/-- (*goosepond/quota.Quota).Take -/
def s_quota_Quota_Take (a0 : Option Addr) (a1 : Int) (w : World) (K : Int → World → Prop) : Prop :=
 c_quota_Quota_of a0 a1 w fun r1 r2 w3 =>
 (bif (r2 != 0) then
 K r2 w3
 else
 ∃ a4 : Addr, r1 = some a4 ∧
 Ld (.int .i64) w3 (a4.add 0) fun x5 =>
 Ld (.int .i64) w3 (a4.add 1) fun x6 =>
 c_quota_share_full x5 x6 w3 fun r7 w8 =>
 (bif r7 then
 K 10 w8
 else
 ∃ a9 : Addr, r1 = some a9 ∧
 Ld (.int .i64) w8 a9 fun x10 =>
 ∃ a11 : Addr, r1 = some a11 ∧
 St w8 a11 (Value.int .i64 (IntKind.i64.wrap (x10 + 1))) fun w12 =>
 K 0 w12))
theorem e_quota_Quota_Take (a0 : Option Addr) (a1 : Int) (w : World) (K : Int → World → Prop) : den Try.prog 27 (bodyOf Try.f9) none (.seq .leaf (.seq .leaf (.seq (.seq .leaf (.cond (.seq .leaf .leaf) .leaf)) (.seq (.seq .leaf (.cond (.seq .leaf .leaf) .leaf)) (.seq .leaf (.seq .leaf .leaf)))))) (argEnv 0 [(Value.pointer a0), (Value.int .i64 a1)]) [] w (retK Try.prog [.tmp 4] [.one (.int .i64)] K) = s_quota_Quota_Take a0 a1 w K := by kernel_rfl
theorem ok_quota_Quota_Take {a0 a1 w K} (h : s_quota_Quota_Take a0 a1 w K) : c_quota_Quota_Take a0 a1 w K :=
  fn_sound pok Try.func9 (fn := Try.f9) (c := bodyOf Try.f9) (nt := 27) (by kernel_rfl) (by kernel_rfl) (rs := [.tmp 4]) (by kernel_rfl) [.one (.int .i64)] K (.seq .leaf (.seq .leaf (.seq (.seq .leaf (.cond (.seq .leaf .leaf) .leaf)) (.seq (.seq .leaf (.cond (.seq .leaf .leaf) .leaf)) (.seq .leaf (.seq .leaf .leaf)))))) [(Value.pointer a0), (Value.int .i64 a1)] (by kernel_rfl) w ((e_quota_Quota_Take a0 a1 w K).mpr h)

/-- (*goosepond/goosepondref21.Quota).Take -/
def s_ref21_Quota_Take (a0 : Option Addr) (a1 : Int) (w : World) (K : Int → World → Prop) : Prop :=
 let J1 : Bool → Prop := fun j2 =>
 ((bif j2 then
 K 1 w
 else
 ∃ a3 : Addr, a0 = some a3 ∧
 Ld .slice w.drew a3 fun x4 =>
 AtIx x4 1 a1 fun a5 =>
 Ld (.int .i64) w.drew a5 fun x6 =>
 ∃ a7 : Addr, a0 = some a7 ∧
 Ld (.int .i64) w.drew (a7.add 1) fun x8 =>
 (bif (decide (x6 ≥ x8)) then
 K 10 w.drew
 else
 ∃ a9 : Addr, a0 = some a9 ∧
 Ld .slice w.drew a9 fun x10 =>
 AtIx x10 1 a1 fun a11 =>
 Ld (.int .i64) w.drew a11 fun x12 =>
 AtIx x10 1 a1 fun a13 =>
 St w.drew a13 (Value.int .i64 (IntKind.i64.wrap (x12 + 1))) fun w14 =>
 K 0 w14)))
 (bif (decide (a1 < 0)) then
 J1 true
 else
 ∃ a15 : Addr, a0 = some a15 ∧
 Ld .slice w a15 fun x16 =>
 J1 (decide (a1 ≥ (x16.len : Int))))
theorem e_ref21_Quota_Take (a0 : Option Addr) (a1 : Int) (w : World) (K : Int → World → Prop) : den Try.prog 39 (bodyOf Try.f10) none (.seq .leaf (.seq (.blk (.seq .leaf (.cond (.seq .leaf .leaf) (.seq .leaf (.cond (.seq .leaf .leaf) .leaf))))) (.seq .leaf (.seq .leaf .leaf)))) (argEnv 0 [(Value.pointer a0), (Value.int .i64 a1)]) [] w (retK Try.prog [.tmp 4] [.one (.int .i64)] K) = s_ref21_Quota_Take a0 a1 w K := by kernel_rfl
theorem ok_ref21_Quota_Take {a0 a1 w K} (h : s_ref21_Quota_Take a0 a1 w K) : c_ref21_Quota_Take a0 a1 w K :=
  fn_sound pok Try.func10 (fn := Try.f10) (c := bodyOf Try.f10) (nt := 39) (by kernel_rfl) (by kernel_rfl) (rs := [.tmp 4]) (by kernel_rfl) [.one (.int .i64)] K (.seq .leaf (.seq (.blk (.seq .leaf (.cond (.seq .leaf .leaf) (.seq .leaf (.cond (.seq .leaf .leaf) .leaf))))) (.seq .leaf (.seq .leaf .leaf)))) [(Value.pointer a0), (Value.int .i64 a1)] (by kernel_rfl) w ((e_ref21_Quota_Take a0 a1 w K).mpr h)

/-- (*goosepond/quota.Quota).Count -/
def s_quota_Quota_Count (a0 : Option Addr) (a1 : Int) (w : World) (K : Int → World → Prop) : Prop :=
 c_quota_Quota_of a0 a1 w fun r1 r2 w3 =>
 (bif (r2 != 0) then
 K 0 w3
 else
 ∃ a4 : Addr, r1 = some a4 ∧
 Ld (.int .i64) w3 a4 fun x5 =>
 K x5 w3)
theorem e_quota_Quota_Count (a0 : Option Addr) (a1 : Int) (w : World) (K : Int → World → Prop) : den Try.prog 19 (bodyOf Try.f11) none (.seq .leaf (.seq .leaf (.seq (.seq .leaf (.cond (.seq .leaf .leaf) .leaf)) (.seq .leaf .leaf)))) (argEnv 0 [(Value.pointer a0), (Value.int .i64 a1)]) [] w (retK Try.prog [.tmp 4] [.one (.int .i64)] K) = s_quota_Quota_Count a0 a1 w K := by kernel_rfl
theorem ok_quota_Quota_Count {a0 a1 w K} (h : s_quota_Quota_Count a0 a1 w K) : c_quota_Quota_Count a0 a1 w K :=
  fn_sound pok Try.func11 (fn := Try.f11) (c := bodyOf Try.f11) (nt := 19) (by kernel_rfl) (by kernel_rfl) (rs := [.tmp 4]) (by kernel_rfl) [.one (.int .i64)] K (.seq .leaf (.seq .leaf (.seq (.seq .leaf (.cond (.seq .leaf .leaf) .leaf)) (.seq .leaf .leaf)))) [(Value.pointer a0), (Value.int .i64 a1)] (by kernel_rfl) w ((e_quota_Quota_Count a0 a1 w K).mpr h)

/-- (*goosepond/goosepondref21.Quota).Count -/
def s_ref21_Quota_Count (a0 : Option Addr) (a1 : Int) (w : World) (K : Int → World → Prop) : Prop :=
 let J1 : Bool → Prop := fun j2 =>
 ((bif j2 then
 K 0 w
 else
 ∃ a3 : Addr, a0 = some a3 ∧
 Ld .slice w a3 fun x4 =>
 AtIx x4 1 a1 fun a5 =>
 Ld (.int .i64) w a5 fun x6 =>
 K x6 w))
 (bif (decide (a1 < 0)) then
 J1 true
 else
 ∃ a7 : Addr, a0 = some a7 ∧
 Ld .slice w a7 fun x8 =>
 J1 (decide (a1 ≥ (x8.len : Int))))
theorem e_ref21_Quota_Count (a0 : Option Addr) (a1 : Int) (w : World) (K : Int → World → Prop) : den Try.prog 23 (bodyOf Try.f12) none (.seq .leaf (.seq (.seq .leaf (.cond (.seq .leaf .leaf) .leaf)) (.seq .leaf .leaf))) (argEnv 0 [(Value.pointer a0), (Value.int .i64 a1)]) [] w (retK Try.prog [.tmp 4] [.one (.int .i64)] K) = s_ref21_Quota_Count a0 a1 w K := by kernel_rfl
theorem ok_ref21_Quota_Count {a0 a1 w K} (h : s_ref21_Quota_Count a0 a1 w K) : c_ref21_Quota_Count a0 a1 w K :=
  fn_sound pok Try.func12 (fn := Try.f12) (c := bodyOf Try.f12) (nt := 23) (by kernel_rfl) (by kernel_rfl) (rs := [.tmp 4]) (by kernel_rfl) [.one (.int .i64)] K (.seq .leaf (.seq (.seq .leaf (.cond (.seq .leaf .leaf) .leaf)) (.seq .leaf .leaf))) [(Value.pointer a0), (Value.int .i64 a1)] (by kernel_rfl) w ((e_ref21_Quota_Count a0 a1 w K).mpr h)

/-- (*goosepond/quota.Quota).Total -/
def s_quota_Quota_Total (a0 : Option Addr) (w : World) (K : Int → World → Prop) : Prop :=
 (bif (Option.isNone a0) then
 K 0 w
 else
 ∃ a1 : Addr, a0 = some a1 ∧
 Ld .slice w a1 fun x2 =>
 LoopP (S := Int × Int × Unit) (fun s3 w4 next5 =>
 (bif (decide (s3.2.1 < (x2.len : Int))) then
 AtIx x2 2 s3.2.1 fun a6 =>
 Ld (.int .i64) w4 (a6.add 0) fun x7 =>
 Ld (.int .i64) w4 (a6.add 1) fun x8 =>
 Al w4 (.cells ⟨[(Value.int .i64 0), (Value.int .i64 0)]⟩ 42) fun a10 w9 =>
 St w9 (a10.add 0) (Value.int .i64 x7) fun w11 =>
 St w11 (a10.add 1) (Value.int .i64 x8) fun w12 =>
 Ld (.int .i64) w12 a10 fun x13 =>
 next5 ((IntKind.i64.wrap (s3.1 + x13)), (IntKind.i64.wrap (s3.2.1 + 1)), ()) w12
 else
 K s3.1 w4)) (0, 0, ()) w)
theorem e_quota_Quota_Total (a0 : Option Addr) (w : World) (K : Int → World → Prop) : den Try.prog 23 (bodyOf Try.f13) none (.seq .leaf (.seq (.seq .leaf (.cond (.seq .leaf .leaf) .leaf)) (.seq .leaf (.seq (.seq .leaf (.blk (.loop [(3, (.int .i64)), (13, (.int .i64))] (.seq .leaf (.seq (.cond .leaf .leaf) (.seq (.blk (.seq .leaf .leaf)) .leaf)))))) (.seq .leaf .leaf))))) (argEnv 0 [(Value.pointer a0)]) [] w (retK Try.prog [.tmp 2] [.one (.int .i64)] K) = s_quota_Quota_Total a0 w K := by kernel_rfl
theorem ok_quota_Quota_Total {a0 w K} (h : s_quota_Quota_Total a0 w K) : c_quota_Quota_Total a0 w K :=
  fn_sound pok Try.func13 (fn := Try.f13) (c := bodyOf Try.f13) (nt := 23) (by kernel_rfl) (by kernel_rfl) (rs := [.tmp 2]) (by kernel_rfl) [.one (.int .i64)] K (.seq .leaf (.seq (.seq .leaf (.cond (.seq .leaf .leaf) .leaf)) (.seq .leaf (.seq (.seq .leaf (.blk (.loop [(3, (.int .i64)), (13, (.int .i64))] (.seq .leaf (.seq (.cond .leaf .leaf) (.seq (.blk (.seq .leaf .leaf)) .leaf)))))) (.seq .leaf .leaf))))) [(Value.pointer a0)] (by kernel_rfl) w ((e_quota_Quota_Total a0 w K).mpr h)

/-- (*goosepond/goosepondref21.Quota).Total -/
def s_ref21_Quota_Total (a0 : Option Addr) (w : World) (K : Int → World → Prop) : Prop :=
 LoopP (S := Int × Int × Unit) (fun s1 w2 next3 =>
 ∃ a4 : Addr, a0 = some a4 ∧
 Ld .slice w2 a4 fun x5 =>
 (bif (decide (s1.2.1 < (x5.len : Int))) then
 ∃ a6 : Addr, a0 = some a6 ∧
 Ld .slice w2 a6 fun x7 =>
 AtIx x7 1 s1.2.1 fun a8 =>
 Ld (.int .i64) w2 a8 fun x9 =>
 next3 ((IntKind.i64.wrap (s1.1 + x9)), (IntKind.i64.wrap (s1.2.1 + 1)), ()) w2
 else
 K s1.1 w2)) (0, 0, ()) w
theorem e_ref21_Quota_Total (a0 : Option Addr) (w : World) (K : Int → World → Prop) : den Try.prog 24 (bodyOf Try.f14) none (.seq .leaf (.seq .leaf (.seq (.seq .leaf (.blk (.loop [(3, (.int .i64)), (4, (.int .i64))] (.seq (.seq .leaf (.cond .leaf .leaf)) (.seq (.blk .leaf) .leaf))))) (.seq .leaf .leaf)))) (argEnv 0 [(Value.pointer a0)]) [] w (retK Try.prog [.tmp 2] [.one (.int .i64)] K) = s_ref21_Quota_Total a0 w K := by kernel_rfl
theorem ok_ref21_Quota_Total {a0 w K} (h : s_ref21_Quota_Total a0 w K) : c_ref21_Quota_Total a0 w K :=
  fn_sound pok Try.func14 (fn := Try.f14) (c := bodyOf Try.f14) (nt := 24) (by kernel_rfl) (by kernel_rfl) (rs := [.tmp 2]) (by kernel_rfl) [.one (.int .i64)] K (.seq .leaf (.seq .leaf (.seq (.seq .leaf (.blk (.loop [(3, (.int .i64)), (4, (.int .i64))] (.seq (.seq .leaf (.cond .leaf .leaf)) (.seq (.blk .leaf) .leaf))))) (.seq .leaf .leaf)))) [(Value.pointer a0)] (by kernel_rfl) w ((e_ref21_Quota_Total a0 w K).mpr h)

/-- goosepond/goosepondlaw21.awake -/
def s_law21_awake  (w : World) (K : Bool → World → Prop) : Prop :=
 c_quota_New 1 1 w fun r1 r2 w3 =>
 let J4 : Bool → World → Prop := fun j5 w6 =>
 (K j5 w6)
 (bif (!(Option.isNone r1)) then
 (bif (r2 == 0) then
 c_quota_Quota_Take r1 0 w3 fun r7 w8 =>
 (bif (r7 == 0) then
 c_quota_Quota_Take r1 0 w8 fun r9 w10 =>
 (bif (r9 == 10) then
 c_quota_Quota_Count r1 0 w10 fun r11 w12 =>
 (bif (r11 == 1) then
 c_quota_Quota_Give r1 0 w12 fun r13 w14 =>
 J4 (r13 == 0) w14
 else
 J4 false w12)
 else
 J4 false w10)
 else
 J4 false w8)
 else
 J4 false w3)
 else
 J4 false w3)
theorem e_law21_awake  (w : World) (K : Bool → World → Prop) : den Try.prog 33 (bodyOf Try.f15) none (.seq .leaf (.seq .leaf (.seq .leaf .leaf))) (argEnv 0 []) [] w (retK Try.prog [.tmp 0] [.one .bool] K) = s_law21_awake  w K := by kernel_rfl
theorem ok_law21_awake { w K} (h : s_law21_awake  w K) : c_law21_awake  w K :=
  fn_sound pok Try.func15 (fn := Try.f15) (c := bodyOf Try.f15) (nt := 33) (by kernel_rfl) (by kernel_rfl) (rs := [.tmp 0]) (by kernel_rfl) [.one .bool] K (.seq .leaf (.seq .leaf (.seq .leaf .leaf))) [] (by kernel_rfl) w ((e_law21_awake  w K).mpr h)

/-- (*goosepond/quota.Quota).of -/
def s_quota_Quota_of (a0 : Option Addr) (a1 : Int) (w : World) (K : (Option Addr) → Int → World → Prop) : Prop :=
 let J1 : Bool → Prop := fun j2 =>
 ((bif j2 then
 K none 2 w
 else
 let J3 : Bool → Prop := fun j4 =>
 ((bif j4 then
 K none 1 w
 else
 ∃ a5 : Addr, a0 = some a5 ∧
 Ld .slice w a5 fun x6 =>
 AtIx x6 2 a1 fun a7 =>
 K (some a7) 0 w))
 (bif (decide (a1 < 0)) then
 J3 true
 else
 ∃ a8 : Addr, a0 = some a8 ∧
 Ld .slice w a8 fun x9 =>
 J3 (decide (a1 ≥ (x9.len : Int))))))
 (bif (Option.isNone a0) then
 J1 true
 else
 ∃ a10 : Addr, a0 = some a10 ∧
 Ld .slice w a10 fun x11 =>
 J1 (Option.isNone x11.a))
theorem e_quota_Quota_of (a0 : Option Addr) (a1 : Int) (w : World) (K : (Option Addr) → Int → World → Prop) : den Try.prog 34 (bodyOf Try.f16) none (.seq .leaf (.seq (.blk (.seq .leaf (.cond (.seq .leaf .leaf) (.seq .leaf (.cond (.seq .leaf .leaf) .leaf))))) (.seq .leaf .leaf))) (argEnv 0 [(Value.pointer a0), (Value.int .i64 a1)]) [] w (retK Try.prog [.tmp 4, .tmp 5] [.one .ptr, .one (.int .i64)] K) = s_quota_Quota_of a0 a1 w K := by kernel_rfl
theorem ok_quota_Quota_of {a0 a1 w K} (h : s_quota_Quota_of a0 a1 w K) : c_quota_Quota_of a0 a1 w K :=
  fn_sound pok Try.func16 (fn := Try.f16) (c := bodyOf Try.f16) (nt := 34) (by kernel_rfl) (by kernel_rfl) (rs := [.tmp 4, .tmp 5]) (by kernel_rfl) [.one .ptr, .one (.int .i64)] K (.seq .leaf (.seq (.blk (.seq .leaf (.cond (.seq .leaf .leaf) (.seq .leaf (.cond (.seq .leaf .leaf) .leaf))))) (.seq .leaf .leaf))) [(Value.pointer a0), (Value.int .i64 a1)] (by kernel_rfl) w ((e_quota_Quota_of a0 a1 w K).mpr h)

/-- (goosepond/quota.share).full -/
def s_quota_share_full (a0_0 : Int) (a0_1 : Int) (w : World) (K : Bool → World → Prop) : Prop :=
 Al w (.cells ⟨[(Value.int .i64 a0_0), (Value.int .i64 a0_1)]⟩ 42) fun a2 w1 =>
 Ld (.int .i64) w1 a2 fun x3 =>
 Ld (.int .i64) w1 (a2.add 1) fun x4 =>
 K (decide (x3 ≥ x4)) w1
theorem e_quota_share_full (a0_0 : Int) (a0_1 : Int) (w : World) (K : Bool → World → Prop) : den Try.prog 8 (bodyOf Try.f17) none (.seq .leaf (.seq .leaf .leaf)) (argEnv 0 [(Value.agg ⟨[(Value.int .i64 a0_0), (Value.int .i64 a0_1)]⟩)]) [] w (retK Try.prog [.tmp 2] [.one .bool] K) = s_quota_share_full a0_0 a0_1 w K := by kernel_rfl
theorem ok_quota_share_full {a0_0 a0_1 w K} (h : s_quota_share_full a0_0 a0_1 w K) : c_quota_share_full a0_0 a0_1 w K :=
  fn_sound pok Try.func17 (fn := Try.f17) (c := bodyOf Try.f17) (nt := 8) (by kernel_rfl) (by kernel_rfl) (rs := [.tmp 2]) (by kernel_rfl) [.one .bool] K (.seq .leaf (.seq .leaf .leaf)) [(Value.agg ⟨[(Value.int .i64 a0_0), (Value.int .i64 a0_1)]⟩)] (by kernel_rfl) w ((e_quota_share_full a0_0 a0_1 w K).mpr h)

end Go.Proofs
