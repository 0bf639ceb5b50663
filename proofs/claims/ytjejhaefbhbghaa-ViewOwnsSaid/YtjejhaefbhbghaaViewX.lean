import Derived.Test.YtjejhaefbhbghaaG19v
import Derived.Test.YtjejhaefbhbghaaCfgC
import Derived.Test.YtjejhaefbhbghaaMapF
/- Views: functions over lists, and what comes twice. -/
namespace Go.Proofs
open Gp
set_option maxRecDepth 100000

abbrev K8 : List Kind := [.int .i64, .int .i64, .int .i64, .int .i64, .int .i64, .int .i64, .int .i64, .bool]
abbrev K5 : List Kind := [.int .i64, .int .i64, .int .i64, .int .i64, .int .i64]
abbrev T8 := Int × Int × Int × Int × Int × Int × Int × Bool × Unit
abbrev T5 := Int × Int × Int × Int × Int × Unit
abbrev e8 (x : T8) : List Value := encK K8 x
abbrev e5 (x : T5) : List Value := encK K5 x
theorem e8_len (x : T8) : (e8 x).length = 8 := rfl
theorem e5_len (x : T5) : (e5 x).length = 5 := rfl

/-- The first of these that is so. -/
def idxF {α : Type} (xs : List α) (p : α → Bool) (r : Int) : Prop := (∃ (j : Nat) (x : α), r = (j : Int) ∧ xs[j]? = some x ∧ p x = true ∧ (xs.take j).any p = false) ∨ (r = -1 ∧ xs.any p = false)

theorem indexF8 {w : World} {s : SliceV} {xs : List T8} {v : Value} {p : T8 → Bool} {C : World → Prop} (hs : SlN 8 e8 w s xs) (hl : s.len ≤ 2 ^ 62) (hp : FnV v (fun x : T8 => Value.agg ⟨e8 x⟩) [.one .bool] C fun x => .bool (p x)) (hC : ∀ W, Ext w W → C W) :
    c_slices_IndexFunc_api_Binding_api_Binding s v w fun r w' => idxF xs p r ∧ Ext w w' := by
  apply ok_slices_IndexFunc_api_Binding_api_Binding
  unfold s_slices_IndexFunc_api_Binding_api_Binding
  refine LoopP_inv (fun st W => ∃ j : Nat, j ≤ xs.length ∧ st.1 = (j : Int) ∧ Ext w W ∧ (xs.take j).any p = false) (fun st _ => (s.len - st.1).toNat) ⟨0, by omega, rfl, Ext.refl _, by simp⟩ ?_
  rintro ⟨i, ⟨⟩⟩ W ⟨j, hj, hi, hw, hm⟩ next hnext
  simp only at hi
  subst hi
  have hlen := hs.len
  by_cases hlt : (j : Int) < (s.len : Int)
  · simp only [hlt, decide_true, cond_true]
    have hx := List.getElem?_eq_getElem (show j < xs.length by omega)
    have htk := Gp.Cfg.take_snoc hx
    generalize xs[j] = x at hx htk
    refine SlN_ix e8_len (by omega) (hs.ext hw) (by omega) (by rw [Int.toNat_natCast]; exact hx) fun a hc => ?_
    have hp := hp x
    dsimp only at hp
    by_cases he : p x = true
    · rw [he] at hp
      obtain ⟨x0, x1, x2, x3, x4, x5, x6, x7, ⟨⟩⟩ := x
      have c0 := hc 0 _ rfl; have c1 := hc 1 _ rfl; have c2 := hc 2 _ rfl; have c3 := hc 3 _ rfl; have c4 := hc 4 _ rfl; have c5 := hc 5 _ rfl; have c6 := hc 6 _ rfl; have c7 := hc 7 _ rfl
      simp only [Ld_eq, LdV_some, c0, c1, c2, c3, c4, c5, c6, c7]
      refine hp W _ (hC W hw) fun W' hf => ⟨true, rfl, ?_⟩
      simp only [cond_true]
      exact ⟨.inl ⟨j, _, rfl, hx, he, hm⟩, hw.trans hf⟩
    · have he : p x = false := by simpa only [Bool.not_eq_true] using he
      rw [he] at hp
      obtain ⟨x0, x1, x2, x3, x4, x5, x6, x7, ⟨⟩⟩ := x
      have c0 := hc 0 _ rfl; have c1 := hc 1 _ rfl; have c2 := hc 2 _ rfl; have c3 := hc 3 _ rfl; have c4 := hc 4 _ rfl; have c5 := hc 5 _ rfl; have c6 := hc 6 _ rfl; have c7 := hc 7 _ rfl
      simp only [Ld_eq, LdV_some, c0, c1, c2, c3, c4, c5, c6, c7]
      refine hp W _ (hC W hw) fun W' hf => ⟨false, rfl, ?_⟩
      simp only [cond_false]
      rw [wrap_i64 (by omega) (by omega)]
      refine hnext _ _ ⟨j + 1, by omega, by simp, hw.trans hf, ?_⟩ (by simp only; omega)
      rw [htk, List.any_append, hm, List.any_cons, he, List.any_nil]; rfl
  · simp only [hlt, decide_false, cond_false]
    rw [List.take_of_length_le (by omega)] at hm
    exact ⟨.inr ⟨by trivial, hm⟩, hw⟩

theorem containsF8 {w : World} {s : SliceV} {xs : List T8} {v : Value} {p : T8 → Bool} {C : World → Prop} (hs : SlN 8 e8 w s xs) (hl : s.len ≤ 2 ^ 62) (hp : FnV v (fun x : T8 => Value.agg ⟨e8 x⟩) [.one .bool] C fun x => .bool (p x)) (hC : ∀ W, Ext w W → C W) :
    c_slices_ContainsFunc_api_Binding_api_Binding s v w fun r w' => r = xs.any p ∧ Ext w w' := by
  apply ok_slices_ContainsFunc_api_Binding_api_Binding
  unfold s_slices_ContainsFunc_api_Binding_api_Binding
  refine cm_slices_IndexFunc_api_Binding_api_Binding (indexF8 hs hl hp hC) ?_
  rintro r w' ⟨h, hf⟩
  refine ⟨?_, hf⟩
  rcases h with ⟨j, x, rfl, hx, hp, _⟩ | ⟨rfl, h⟩
  · rw [decide_eq_true (by omega)]; exact (List.any_eq_true.2 ⟨x, List.mem_of_getElem? hx, hp⟩).symm
  · rw [h]; exact decide_eq_false (by omega)

theorem indexF5 {w : World} {s : SliceV} {xs : List T5} {v : Value} {p : T5 → Bool} {C : World → Prop} (hs : SlN 5 e5 w s xs) (hl : s.len ≤ 2 ^ 62) (hp : FnV v (fun x : T5 => Value.agg ⟨e5 x⟩) [.one .bool] C fun x => .bool (p x)) (hC : ∀ W, Ext w W → C W) :
    c_slices_IndexFunc_api_Session_api_Session s v w fun r w' => idxF xs p r ∧ Ext w w' := by
  apply ok_slices_IndexFunc_api_Session_api_Session
  unfold s_slices_IndexFunc_api_Session_api_Session
  refine LoopP_inv (fun st W => ∃ j : Nat, j ≤ xs.length ∧ st.1 = (j : Int) ∧ Ext w W ∧ (xs.take j).any p = false) (fun st _ => (s.len - st.1).toNat) ⟨0, by omega, rfl, Ext.refl _, by simp⟩ ?_
  rintro ⟨i, ⟨⟩⟩ W ⟨j, hj, hi, hw, hm⟩ next hnext
  simp only at hi
  subst hi
  have hlen := hs.len
  by_cases hlt : (j : Int) < (s.len : Int)
  · simp only [hlt, decide_true, cond_true]
    have hx := List.getElem?_eq_getElem (show j < xs.length by omega)
    have htk := Gp.Cfg.take_snoc hx
    generalize xs[j] = x at hx htk
    refine SlN_ix e5_len (by omega) (hs.ext hw) (by omega) (by rw [Int.toNat_natCast]; exact hx) fun a hc => ?_
    have hp := hp x
    dsimp only at hp
    by_cases he : p x = true
    · rw [he] at hp
      obtain ⟨x0, x1, x2, x3, x4, ⟨⟩⟩ := x
      have c0 := hc 0 _ rfl; have c1 := hc 1 _ rfl; have c2 := hc 2 _ rfl; have c3 := hc 3 _ rfl; have c4 := hc 4 _ rfl
      simp only [Ld_eq, LdV_some, c0, c1, c2, c3, c4]
      refine hp W _ (hC W hw) fun W' hf => ⟨true, rfl, ?_⟩
      simp only [cond_true]
      exact ⟨.inl ⟨j, _, rfl, hx, he, hm⟩, hw.trans hf⟩
    · have he : p x = false := by simpa only [Bool.not_eq_true] using he
      rw [he] at hp
      obtain ⟨x0, x1, x2, x3, x4, ⟨⟩⟩ := x
      have c0 := hc 0 _ rfl; have c1 := hc 1 _ rfl; have c2 := hc 2 _ rfl; have c3 := hc 3 _ rfl; have c4 := hc 4 _ rfl
      simp only [Ld_eq, LdV_some, c0, c1, c2, c3, c4]
      refine hp W _ (hC W hw) fun W' hf => ⟨false, rfl, ?_⟩
      simp only [cond_false]
      rw [wrap_i64 (by omega) (by omega)]
      refine hnext _ _ ⟨j + 1, by omega, by simp, hw.trans hf, ?_⟩ (by simp only; omega)
      rw [htk, List.any_append, hm, List.any_cons, he, List.any_nil]; rfl
  · simp only [hlt, decide_false, cond_false]
    rw [List.take_of_length_le (by omega)] at hm
    exact ⟨.inr ⟨by trivial, hm⟩, hw⟩

theorem containsF5 {w : World} {s : SliceV} {xs : List T5} {v : Value} {p : T5 → Bool} {C : World → Prop} (hs : SlN 5 e5 w s xs) (hl : s.len ≤ 2 ^ 62) (hp : FnV v (fun x : T5 => Value.agg ⟨e5 x⟩) [.one .bool] C fun x => .bool (p x)) (hC : ∀ W, Ext w W → C W) :
    c_slices_ContainsFunc_api_Session_api_Session s v w fun r w' => r = xs.any p ∧ Ext w w' := by
  apply ok_slices_ContainsFunc_api_Session_api_Session
  unfold s_slices_ContainsFunc_api_Session_api_Session
  refine cm_slices_IndexFunc_api_Session_api_Session (indexF5 hs hl hp hC) ?_
  rintro r w' ⟨h, hf⟩
  refine ⟨?_, hf⟩
  rcases h with ⟨j, x, rfl, hx, hp, _⟩ | ⟨rfl, h⟩
  · rw [decide_eq_true (by omega)]; exact (List.any_eq_true.2 ⟨x, List.mem_of_getElem? hx, hp⟩).symm
  · rw [h]; exact decide_eq_false (by omega)


def inner8 : T8 → T4 | (q0, q1, q2, q3, q4, q5, q6, q7, ()) => (q0, q1, q2, q3, ())
def outer8 : T8 → T3 | (q0, q1, q2, q3, q4, q5, q6, q7, ()) => (q4, q5, q6, ())

theorem inner8_ok {q0 q1 q2 q3 q4 q5 q6 : Int} {q7 : Bool} (w : World) : c_view_inner q0 q1 q2 q3 q4 q5 q6 q7 w fun r0 r1 r2 r3 w' => (r0 = q0 ∧ r1 = q1 ∧ r2 = q2 ∧ r3 = q3) ∧ Ext w w' := by
  apply ok_view_inner
  unfold s_view_inner
  refine Al_e fun a w1 ra ea z1 f1 => Al_e fun b w2 rb eb z2 f2 => ?_
  have ra := ra.ext f2
  simp only [Ld_eq, List.getElem?_cons_zero, List.getElem?_cons_succ, LdV_some, dec_int, add_mk, Nat.zero_add, Nat.add_zero, ra.cell]
  refine StN_full rb rfl rfl fun w3 r3 f3 z3 => ?_
  simp only [List.getElem?_cons_zero, List.getElem?_cons_succ, LdV_some, dec_int, r3.cell, and_self, true_and]
  exact (f1.trans f2).new (f3 (· = b) rfl) fun x hx e => by omega

theorem fn_inner8 : FnV (.func (.func n_view_inner) #[] #[]) (fun x : T8 => Value.agg ⟨e8 x⟩) [.agg K4] (fun _ => True) (fun x : T8 => Value.agg ⟨e4 (inner8 x)⟩) := by
  intro x W K _ hK
  obtain ⟨q0, q1, q2, q3, q4, q5, q6, q7, ⟨⟩⟩ := x
  refine callV_fn (by kernel_rfl) ?_
  refine Calls.mono (inner8_ok W) ?_
  rintro e W' ⟨r0, r1, r2, r3, he, h, hf⟩
  refine ⟨r0, r1, r2, r3, he, ?_⟩
  have hK := hK W' hf
  simp only [h]
  exact hK

theorem outer8_ok {q0 q1 q2 q3 q4 q5 q6 : Int} {q7 : Bool} (w : World) : c_view_outer q0 q1 q2 q3 q4 q5 q6 q7 w fun r0 r1 r2 w' => (r0 = q4 ∧ r1 = q5 ∧ r2 = q6) ∧ Ext w w' := by
  apply ok_view_outer
  unfold s_view_outer
  refine Al_e fun a w1 ra ea z1 f1 => Al_e fun b w2 rb eb z2 f2 => ?_
  have ra := ra.ext f2
  simp only [Ld_eq, List.getElem?_cons_zero, List.getElem?_cons_succ, LdV_some, dec_int, add_mk, Nat.zero_add, Nat.add_zero, ra.cell]
  refine StN_full rb rfl rfl fun w3 r3 f3 z3 => ?_
  simp only [List.getElem?_cons_zero, List.getElem?_cons_succ, LdV_some, dec_int, r3.cell, and_self, true_and]
  exact (f1.trans f2).new (f3 (· = b) rfl) fun x hx e => by omega

theorem fn_outer8 : FnV (.func (.func n_view_outer) #[] #[]) (fun x : T8 => Value.agg ⟨e8 x⟩) [.agg K3] (fun _ => True) (fun x : T8 => Value.agg ⟨e3 (outer8 x)⟩) := by
  intro x W K _ hK
  obtain ⟨q0, q1, q2, q3, q4, q5, q6, q7, ⟨⟩⟩ := x
  refine callV_fn (by kernel_rfl) ?_
  refine Calls.mono (outer8_ok W) ?_
  rintro e W' ⟨r0, r1, r2, he, h, hf⟩
  refine ⟨r0, r1, r2, he, ?_⟩
  have hK := hK W' hf
  simp only [h]
  exact hK


theorem veach_iter_api_Binding_api_Inner {f0 f1 : Nat} {s : SliceV} {xs : List T8} {fv : Value} {k : T8 → T4} (hl : s.len ≤ 2 ^ 62) (hk : FnV fv (fun x : T8 => Value.agg ⟨e8 x⟩) [.agg K4] (fun _ => True) (fun x => (fun x : T4 => Value.agg ⟨e4 x⟩) (k x))) :
    IterFn Try.prog [.agg K4] (Value.func (.func n_view_each_api_Binding_api_Inner_1) #[] #[.pointer (some ⟨f0, 0, none⟩), .pointer (some ⟨f1, 0, none⟩)]) (fun W => Row W f0 [.slice s.a s.len s.cap] ∧ Row W f1 [fv] ∧ SlN 8 e8 W s xs) ((xs.map k).map fun y => (y, ())) := by
  refine ⟨by kernel_rfl, fun l Q D hC hQ hD hy w h0 => ?_⟩
  refine Calls.mono (ok_view_each_api_Binding_api_Inner_1 (a0 := .func (.yield l) #[] #[]) (f0 := ⟨f0, 0, none⟩) (f1 := ⟨f1, 0, none⟩) (K := fun w' => Q (((xs.map k).map fun y => (y, ())) : List (T4 × Unit)).length w' ∨ D w') ?_) (fun e w' h => h)
  unfold s_view_each_api_Binding_api_Inner_1
  obtain ⟨r0, r1, hs⟩ := hC _ _ h0
  simp only [Ld_eq, List.getElem?_cons_zero, LdV_some, dec_slice, r0.cell]
  refine LoopP_inv (fun st W => ∃ j : Nat, j ≤ xs.length ∧ st.1 = (j : Int) ∧ Q j W) (fun st _ => (s.len - st.1).toNat) ⟨0, by omega, rfl, h0⟩ ?_
  rintro ⟨i, ⟨⟩⟩ W ⟨j, hj, hi, hq⟩ next hnext
  simp only at hi
  subst hi
  obtain ⟨r0, r1, hs⟩ := hC _ _ hq
  have hlen := hs.len
  by_cases hlt : (j : Int) < (s.len : Int)
  · simp only [hlt, decide_true, cond_true]
    have hx := List.getElem?_eq_getElem (show j < xs.length by omega)
    generalize xs[j] = x at hx
    have hyx := map_get (k := k) hx
    refine SlN_ix e8_len (by omega) hs (by omega) (by rw [Int.toNat_natCast]; exact hx) fun a hc => ?_
    have hkx := hk x
    dsimp only at hkx
    generalize k x = y at hkx hyx
    obtain ⟨x0, x1, x2, x3, x4, x5, x6, x7, ⟨⟩⟩ := x
    have c0 : W.cell? (a.add 0) = some (.int .i64 x0) := hc 0 _ rfl; have c1 : W.cell? (a.add 1) = some (.int .i64 x1) := hc 1 _ rfl; have c2 : W.cell? (a.add 2) = some (.int .i64 x2) := hc 2 _ rfl; have c3 : W.cell? (a.add 3) = some (.int .i64 x3) := hc 3 _ rfl; have c4 : W.cell? (a.add 4) = some (.int .i64 x4) := hc 4 _ rfl; have c5 : W.cell? (a.add 5) = some (.int .i64 x5) := hc 5 _ rfl; have c6 : W.cell? (a.add 6) = some (.int .i64 x6) := hc 6 _ rfl
    have c7 : W.cell? (a.add 7) = some (.bool x7) := hc 7 _ rfl
    simp only [LdV_some, dec_int, dec_bool, c0, c1, c2, c3, c4, c5, c6, c7]
    refine Al_f rfl rfl fun t W1 rt et zt ft => ?_
    have r1 := r1.ext ft
    have hq1 := hQ _ _ _ hq ft
    simp only [List.getElem?_cons_zero, List.getElem?_cons_succ, LdV_some, dec_int, dec_bool, dec_any, add_mk, Nat.zero_add, Nat.add_zero, r1.cell, rt.cell]
    refine hkx W1 _ trivial fun W2 hf2 => ?_
    have hq2 := hQ _ _ _ hq1 hf2
    obtain ⟨y0, y1, y2, y3, ⟨⟩⟩ := y
    refine ⟨y0, y1, y2, y3, rfl, ?_⟩
    refine callV_yield (hy j _ W2 _ hyx hq2 ?_ ?_)
    · intro W' hq'
      refine ⟨true, rfl, ?_⟩
      simp only [Bool.not_true, cond_false]
      rw [wrap_i64 (by omega) (by omega)]
      exact hnext _ _ ⟨j + 1, by omega, by simp, hq'⟩ (by simp only; omega)
    · intro W' hd
      exact ⟨false, rfl, by simp only [Bool.not_false, cond_true]; exact .inr hd⟩
  · simp only [hlt, decide_false, cond_false]
    have : j = xs.length := by omega
    subst this
    exact .inl (by simpa using hq)

theorem veach_api_Binding_api_Inner {w : World} {s : SliceV} {xs : List T8} {fv : Value} {k : T8 → T4} (hs : SlN 8 e8 w s xs) (hl : s.len ≤ 2 ^ 62) (ho : isOne fv = true) (hk : FnV fv (fun x : T8 => Value.agg ⟨e8 x⟩) [.agg K4] (fun _ => True) (fun x => (fun x : T4 => Value.agg ⟨e4 x⟩) (k x))) :
    c_view_each_api_Binding_api_Inner s fv w fun v w' => Ext w w' ∧ ∃ C, IterFn Try.prog [.agg K4] v C ((xs.map k).map fun y => (y, ())) ∧ ∀ W, Ext w' W → C W := by
  apply ok_view_each_api_Binding_api_Inner
  unfold s_view_each_api_Binding_api_Inner
  refine ⟨rfl, Al_e fun a w1 ra ea z1 f1 => ⟨ho, Al_e fun b w2 rb eb z2 f2 => ?_⟩⟩
  exact ⟨f1.trans f2, _, veach_iter_api_Binding_api_Inner hl hk, fun W hW => ⟨(ra.ext f2).ext hW, rb.ext hW, ((hs.ext f1).ext f2).ext hW⟩⟩

theorem veach_iter_api_Binding_api_Outer {f0 f1 : Nat} {s : SliceV} {xs : List T8} {fv : Value} {k : T8 → T3} (hl : s.len ≤ 2 ^ 62) (hk : FnV fv (fun x : T8 => Value.agg ⟨e8 x⟩) [.agg K3] (fun _ => True) (fun x => (fun x : T3 => Value.agg ⟨e3 x⟩) (k x))) :
    IterFn Try.prog [.agg K3] (Value.func (.func n_view_each_api_Binding_api_Outer_1) #[] #[.pointer (some ⟨f0, 0, none⟩), .pointer (some ⟨f1, 0, none⟩)]) (fun W => Row W f0 [.slice s.a s.len s.cap] ∧ Row W f1 [fv] ∧ SlN 8 e8 W s xs) ((xs.map k).map fun y => (y, ())) := by
  refine ⟨by kernel_rfl, fun l Q D hC hQ hD hy w h0 => ?_⟩
  refine Calls.mono (ok_view_each_api_Binding_api_Outer_1 (a0 := .func (.yield l) #[] #[]) (f0 := ⟨f0, 0, none⟩) (f1 := ⟨f1, 0, none⟩) (K := fun w' => Q (((xs.map k).map fun y => (y, ())) : List (T3 × Unit)).length w' ∨ D w') ?_) (fun e w' h => h)
  unfold s_view_each_api_Binding_api_Outer_1
  obtain ⟨r0, r1, hs⟩ := hC _ _ h0
  simp only [Ld_eq, List.getElem?_cons_zero, LdV_some, dec_slice, r0.cell]
  refine LoopP_inv (fun st W => ∃ j : Nat, j ≤ xs.length ∧ st.1 = (j : Int) ∧ Q j W) (fun st _ => (s.len - st.1).toNat) ⟨0, by omega, rfl, h0⟩ ?_
  rintro ⟨i, ⟨⟩⟩ W ⟨j, hj, hi, hq⟩ next hnext
  simp only at hi
  subst hi
  obtain ⟨r0, r1, hs⟩ := hC _ _ hq
  have hlen := hs.len
  by_cases hlt : (j : Int) < (s.len : Int)
  · simp only [hlt, decide_true, cond_true]
    have hx := List.getElem?_eq_getElem (show j < xs.length by omega)
    generalize xs[j] = x at hx
    have hyx := map_get (k := k) hx
    refine SlN_ix e8_len (by omega) hs (by omega) (by rw [Int.toNat_natCast]; exact hx) fun a hc => ?_
    have hkx := hk x
    dsimp only at hkx
    generalize k x = y at hkx hyx
    obtain ⟨x0, x1, x2, x3, x4, x5, x6, x7, ⟨⟩⟩ := x
    have c0 : W.cell? (a.add 0) = some (.int .i64 x0) := hc 0 _ rfl; have c1 : W.cell? (a.add 1) = some (.int .i64 x1) := hc 1 _ rfl; have c2 : W.cell? (a.add 2) = some (.int .i64 x2) := hc 2 _ rfl; have c3 : W.cell? (a.add 3) = some (.int .i64 x3) := hc 3 _ rfl; have c4 : W.cell? (a.add 4) = some (.int .i64 x4) := hc 4 _ rfl; have c5 : W.cell? (a.add 5) = some (.int .i64 x5) := hc 5 _ rfl; have c6 : W.cell? (a.add 6) = some (.int .i64 x6) := hc 6 _ rfl
    have c7 : W.cell? (a.add 7) = some (.bool x7) := hc 7 _ rfl
    simp only [LdV_some, dec_int, dec_bool, c0, c1, c2, c3, c4, c5, c6, c7]
    refine Al_f rfl rfl fun t W1 rt et zt ft => ?_
    have r1 := r1.ext ft
    have hq1 := hQ _ _ _ hq ft
    simp only [List.getElem?_cons_zero, List.getElem?_cons_succ, LdV_some, dec_int, dec_bool, dec_any, add_mk, Nat.zero_add, Nat.add_zero, r1.cell, rt.cell]
    refine hkx W1 _ trivial fun W2 hf2 => ?_
    have hq2 := hQ _ _ _ hq1 hf2
    obtain ⟨y0, y1, y2, ⟨⟩⟩ := y
    refine ⟨y0, y1, y2, rfl, ?_⟩
    refine callV_yield (hy j _ W2 _ hyx hq2 ?_ ?_)
    · intro W' hq'
      refine ⟨true, rfl, ?_⟩
      simp only [Bool.not_true, cond_false]
      rw [wrap_i64 (by omega) (by omega)]
      exact hnext _ _ ⟨j + 1, by omega, by simp, hq'⟩ (by simp only; omega)
    · intro W' hd
      exact ⟨false, rfl, by simp only [Bool.not_false, cond_true]; exact .inr hd⟩
  · simp only [hlt, decide_false, cond_false]
    have : j = xs.length := by omega
    subst this
    exact .inl (by simpa using hq)

theorem veach_api_Binding_api_Outer {w : World} {s : SliceV} {xs : List T8} {fv : Value} {k : T8 → T3} (hs : SlN 8 e8 w s xs) (hl : s.len ≤ 2 ^ 62) (ho : isOne fv = true) (hk : FnV fv (fun x : T8 => Value.agg ⟨e8 x⟩) [.agg K3] (fun _ => True) (fun x => (fun x : T3 => Value.agg ⟨e3 x⟩) (k x))) :
    c_view_each_api_Binding_api_Outer s fv w fun v w' => Ext w w' ∧ ∃ C, IterFn Try.prog [.agg K3] v C ((xs.map k).map fun y => (y, ())) ∧ ∀ W, Ext w' W → C W := by
  apply ok_view_each_api_Binding_api_Outer
  unfold s_view_each_api_Binding_api_Outer
  refine ⟨rfl, Al_e fun a w1 ra ea z1 f1 => ⟨ho, Al_e fun b w2 rb eb z2 f2 => ?_⟩⟩
  exact ⟨f1.trans f2, _, veach_iter_api_Binding_api_Outer hl hk, fun W hW => ⟨(ra.ext f2).ext hW, rb.ext hW, ((hs.ext f1).ext f2).ext hW⟩⟩


theorem once4 {w : World} {v : Value} {C : World → Prop} {ys : List T4} (hv : IterFn Try.prog [.agg K4] v C (ys.map fun y => (y, ()))) (hC : ∀ W, Ext w W → C W) :
    c_view_once_api_Inner v w fun r w' => (r = true ↔ ys.Nodup) ∧ Ext w w' := by
  apply ok_view_once_api_Inner
  unfold s_view_once_api_Inner
  refine Al_e fun a w1 ra ea z1 f1 => Al_map fun w2 m2 z2 f2 => Al_e fun b w3 rb eb z3 f3 => ?_
  refine St_row rb rfl (by simp) fun w4 rb f4 z4 => ?_
  simp only [List.set_cons_zero] at rb
  have ra4 := ((ra.ext f2).ext f3).fr (f4 (· = b) rfl) (by omega)
  have m4 := ((m2 _ (fun x : T4 => Value.agg ⟨e4 x⟩)).ext f3).fr (f4 (· = b) rfl) (by omega)
  have x4 : Ext w w4 := ((f1.trans f2).trans f3).new (f4 (· = b) rfl) fun x hx e => by omega
  clear f4
  generalize hm : w1.heap.size = m at *
  refine rng_iter hv (fun i W => Row W a [.bool false] ∧ Row W b [.map (some m)] ∧ MapB (fun x : T4 => Value.agg ⟨e4 x⟩) W m (ys.take i) ∧ (ys.take i).Nodup ∧ Ext w W)
    (fun e W => e = .ret ∧ Row W a [.bool false] ∧ ¬ ys.Nodup ∧ Ext w W) (by simp) ?_ ?_ ?_ ?_ ?_ ?_ ?_ ?_ ?_
  · exact fun W hx _ => ⟨ra4.ext hx, rb.ext hx, m4.ext hx, by simp, x4.trans hx⟩
  · rintro i W ⟨_, _, _, _, h⟩
    exact hC W h
  · rintro i W W' ⟨h1, h2, h3, h4, h5⟩ hf
    have lq : lAt none w4 = w4.heap.size + 1 := rfl
    rw [lq] at hf
    exact ⟨h1.fr hf (by omega), h2.fr hf (by omega), h3.fr hf (by omega), h4, h5.new hf fun x hx e => by omega⟩
  · rintro e W W' ⟨h1, h2, h3, h4⟩ hf
    have lq : lAt none w4 = w4.heap.size + 1 := rfl
    rw [lq] at hf
    exact ⟨h1, h2.fr hf (by omega), h3, h4.new hf fun x hx e => by omega⟩
  · exact fun e W hJ => .inl hJ.1
  · rintro i ⟨y, ⟨⟩⟩ W Kb hx ⟨h1, h2, h3, h4, h5⟩ hlt hn hj
    obtain ⟨y', hy', he⟩ := Option.map_eq_some_iff.1 (by rw [List.getElem?_map] at hx; exact hx)
    have hye : y' = y := congrArg Prod.fst he
    subst hye
    clear he
    have htk := Gp.Cfg.take_snoc hy'
    have lq : lAt none w4 = w4.heap.size + 1 := rfl
    rw [lq] at hlt hn hj ⊢
    refine Al_f rfl rfl fun t W2 rt et zt ft => ?_
    refine ⟨(ft fun _ => False).same _ hlt (by simp), ?_⟩
    have fc : Fr8 (busyW W (w4.heap.size + 1)) (busyW W2 (w4.heap.size + 1)) (fun _ => False) := busy_fr (ft _) _
    have fc : Ext (busyW W (w4.heap.size + 1)) (busyW W2 (w4.heap.size + 1)) := fc.new (by simp)
    have fc := fc (· = a)
    have fc2 := busy_fr (ft (· = m)) (w4.heap.size + 1)
    have fb : Fr8 W (busyW W2 (w4.heap.size + 1)) (· = w4.heap.size + 1) := ft.fr (Fr8.busyW W2 _)
    have rt3 : Row (busyW W2 (w4.heap.size + 1)) t _ := rt.fr (Fr8.busyW W2 _) (by omega)
    generalize busyW W2 (w4.heap.size + 1) = W3 at fc fc2 fb rt3 ⊢
    obtain ⟨y0, y1, y2, y3, ⟨⟩⟩ := y'
    have k1 := h1.fr fb (by omega)
    have k2 := h2.fr fb (by omega)
    have k3 := h3.fr fb (by omega)
    have k5 : Ext w W3 := h5.new fb fun x hx e => by omega
    simp only [Ld_eq, List.getElem?_cons_zero, List.getElem?_cons_succ, LdV_some, dec_int, dec_map, add_mk, Nat.zero_add, Nat.add_zero, k2.cell, rt3.cell]
    refine MapGet_B k3 eq4 (y0, y1, y2, y3, ()) (key4 _) ?_
    by_cases hmem : (y0, y1, y2, y3, ()) ∈ ys.take i
    · simp only [hmem, decide_true, cond_true]
      refine St_row k1 rfl (by simp) fun W4 q1 g1 z4 => ?_
      simp only [List.set_cons_zero] at q1
      refine hj .ret W4 (· = a) (fc.trans (g1 (· = a) rfl) fun _ _ e => e) (fun x hx1 hx2 e => by omega) ⟨rfl, q1, fun hnd => Gp.Cfg.nodup_take.1 hnd i _ hy' hmem, k5.new (g1 (· = a) rfl) fun x hx e => by omega⟩
    · simp only [hmem, decide_false, cond_false]
      refine MapSet_B k3 eq4 _ (key4 _) hmem fun W4 q3 g3 z4 => ?_
      refine hn W4 (· = m) (fc2.trans g3 fun _ _ e => e) (fun x hx1 hx2 e => by omega) ⟨k1.fr g3 (by omega), k2.fr g3 (by omega), ?_, ?_, k5.new g3 fun x hx e => by omega⟩
      · rw [htk]; exact q3
      · rw [htk, Gp.Cfg.nodup_snoc]; exact ⟨h4, hmem⟩
  · rintro W ⟨h1, h2, h3, h4, h5⟩ hm'
    have hm' := hm' rfl
    rw [List.take_of_length_le (by simp)] at h4
    refine St_row h1 rfl (by simp) fun W4 q1 g1 z4 => ?_
    simp only [List.set_cons_zero] at q1
    refine ⟨by rw [← hm']; exact (g1 (· = a) rfl).same _ (by have := (Array.getElem?_eq_some_iff.1 hm').1; omega) (by omega), ?_⟩
    have q2 := q1.fr (Fr8.putDef W4 w4.heap.size (.deferred none)) (by omega)
    simp only [Ld_eq, List.getElem?_cons_zero, LdV_some, dec_bool, q2.cell]
    exact ⟨by simp [h4], (h5.new (g1 (· = a) rfl) fun x hx e => by omega).new (Fr8.putDef W4 w4.heap.size (.deferred none)) fun x hx e => by have := x4.size; omega⟩
  · rintro W ⟨_, h1, h2, h3⟩ hm'
    have hm' := hm' rfl
    refine ⟨hm', ?_⟩
    have q2 := h1.fr (Fr8.putDef W w4.heap.size (.deferred none)) (by omega)
    simp only [Ld_eq, List.getElem?_cons_zero, LdV_some, dec_bool, q2.cell]
    exact ⟨by simp [h2], h3.new (Fr8.putDef W w4.heap.size (.deferred none)) fun x hx e => by have := x4.size; omega⟩
  · rintro id W ⟨h1, _⟩
    cases h1

theorem once3 {w : World} {v : Value} {C : World → Prop} {ys : List T3} (hv : IterFn Try.prog [.agg K3] v C (ys.map fun y => (y, ()))) (hC : ∀ W, Ext w W → C W) :
    c_view_once_api_Outer v w fun r w' => (r = true ↔ ys.Nodup) ∧ Ext w w' := by
  apply ok_view_once_api_Outer
  unfold s_view_once_api_Outer
  refine Al_e fun a w1 ra ea z1 f1 => Al_map fun w2 m2 z2 f2 => Al_e fun b w3 rb eb z3 f3 => ?_
  refine St_row rb rfl (by simp) fun w4 rb f4 z4 => ?_
  simp only [List.set_cons_zero] at rb
  have ra4 := ((ra.ext f2).ext f3).fr (f4 (· = b) rfl) (by omega)
  have m4 := ((m2 _ (fun x : T3 => Value.agg ⟨e3 x⟩)).ext f3).fr (f4 (· = b) rfl) (by omega)
  have x4 : Ext w w4 := ((f1.trans f2).trans f3).new (f4 (· = b) rfl) fun x hx e => by omega
  clear f4
  generalize hm : w1.heap.size = m at *
  refine rng_iter hv (fun i W => Row W a [.bool false] ∧ Row W b [.map (some m)] ∧ MapB (fun x : T3 => Value.agg ⟨e3 x⟩) W m (ys.take i) ∧ (ys.take i).Nodup ∧ Ext w W)
    (fun e W => e = .ret ∧ Row W a [.bool false] ∧ ¬ ys.Nodup ∧ Ext w W) (by simp) ?_ ?_ ?_ ?_ ?_ ?_ ?_ ?_ ?_
  · exact fun W hx _ => ⟨ra4.ext hx, rb.ext hx, m4.ext hx, by simp, x4.trans hx⟩
  · rintro i W ⟨_, _, _, _, h⟩
    exact hC W h
  · rintro i W W' ⟨h1, h2, h3, h4, h5⟩ hf
    have lq : lAt none w4 = w4.heap.size + 1 := rfl
    rw [lq] at hf
    exact ⟨h1.fr hf (by omega), h2.fr hf (by omega), h3.fr hf (by omega), h4, h5.new hf fun x hx e => by omega⟩
  · rintro e W W' ⟨h1, h2, h3, h4⟩ hf
    have lq : lAt none w4 = w4.heap.size + 1 := rfl
    rw [lq] at hf
    exact ⟨h1, h2.fr hf (by omega), h3, h4.new hf fun x hx e => by omega⟩
  · exact fun e W hJ => .inl hJ.1
  · rintro i ⟨y, ⟨⟩⟩ W Kb hx ⟨h1, h2, h3, h4, h5⟩ hlt hn hj
    obtain ⟨y', hy', he⟩ := Option.map_eq_some_iff.1 (by rw [List.getElem?_map] at hx; exact hx)
    have hye : y' = y := congrArg Prod.fst he
    subst hye
    clear he
    have htk := Gp.Cfg.take_snoc hy'
    have lq : lAt none w4 = w4.heap.size + 1 := rfl
    rw [lq] at hlt hn hj ⊢
    refine Al_f rfl rfl fun t W2 rt et zt ft => ?_
    refine ⟨(ft fun _ => False).same _ hlt (by simp), ?_⟩
    have fc : Fr8 (busyW W (w4.heap.size + 1)) (busyW W2 (w4.heap.size + 1)) (fun _ => False) := busy_fr (ft _) _
    have fc : Ext (busyW W (w4.heap.size + 1)) (busyW W2 (w4.heap.size + 1)) := fc.new (by simp)
    have fc := fc (· = a)
    have fc2 := busy_fr (ft (· = m)) (w4.heap.size + 1)
    have fb : Fr8 W (busyW W2 (w4.heap.size + 1)) (· = w4.heap.size + 1) := ft.fr (Fr8.busyW W2 _)
    have rt3 : Row (busyW W2 (w4.heap.size + 1)) t _ := rt.fr (Fr8.busyW W2 _) (by omega)
    generalize busyW W2 (w4.heap.size + 1) = W3 at fc fc2 fb rt3 ⊢
    obtain ⟨y0, y1, y2, ⟨⟩⟩ := y'
    have k1 := h1.fr fb (by omega)
    have k2 := h2.fr fb (by omega)
    have k3 := h3.fr fb (by omega)
    have k5 : Ext w W3 := h5.new fb fun x hx e => by omega
    simp only [Ld_eq, List.getElem?_cons_zero, List.getElem?_cons_succ, LdV_some, dec_int, dec_map, add_mk, Nat.zero_add, Nat.add_zero, k2.cell, rt3.cell]
    refine MapGet_B k3 eq3 (y0, y1, y2, ()) (key3 _) ?_
    by_cases hmem : (y0, y1, y2, ()) ∈ ys.take i
    · simp only [hmem, decide_true, cond_true]
      refine St_row k1 rfl (by simp) fun W4 q1 g1 z4 => ?_
      simp only [List.set_cons_zero] at q1
      refine hj .ret W4 (· = a) (fc.trans (g1 (· = a) rfl) fun _ _ e => e) (fun x hx1 hx2 e => by omega) ⟨rfl, q1, fun hnd => Gp.Cfg.nodup_take.1 hnd i _ hy' hmem, k5.new (g1 (· = a) rfl) fun x hx e => by omega⟩
    · simp only [hmem, decide_false, cond_false]
      refine MapSet_B k3 eq3 _ (key3 _) hmem fun W4 q3 g3 z4 => ?_
      refine hn W4 (· = m) (fc2.trans g3 fun _ _ e => e) (fun x hx1 hx2 e => by omega) ⟨k1.fr g3 (by omega), k2.fr g3 (by omega), ?_, ?_, k5.new g3 fun x hx e => by omega⟩
      · rw [htk]; exact q3
      · rw [htk, Gp.Cfg.nodup_snoc]; exact ⟨h4, hmem⟩
  · rintro W ⟨h1, h2, h3, h4, h5⟩ hm'
    have hm' := hm' rfl
    rw [List.take_of_length_le (by simp)] at h4
    refine St_row h1 rfl (by simp) fun W4 q1 g1 z4 => ?_
    simp only [List.set_cons_zero] at q1
    refine ⟨by rw [← hm']; exact (g1 (· = a) rfl).same _ (by have := (Array.getElem?_eq_some_iff.1 hm').1; omega) (by omega), ?_⟩
    have q2 := q1.fr (Fr8.putDef W4 w4.heap.size (.deferred none)) (by omega)
    simp only [Ld_eq, List.getElem?_cons_zero, LdV_some, dec_bool, q2.cell]
    exact ⟨by simp [h4], (h5.new (g1 (· = a) rfl) fun x hx e => by omega).new (Fr8.putDef W4 w4.heap.size (.deferred none)) fun x hx e => by have := x4.size; omega⟩
  · rintro W ⟨_, h1, h2, h3⟩ hm'
    have hm' := hm' rfl
    refine ⟨hm', ?_⟩
    have q2 := h1.fr (Fr8.putDef W w4.heap.size (.deferred none)) (by omega)
    simp only [Ld_eq, List.getElem?_cons_zero, LdV_some, dec_bool, q2.cell]
    exact ⟨by simp [h2], h3.new (Fr8.putDef W w4.heap.size (.deferred none)) fun x hx e => by have := x4.size; omega⟩
  · rintro id W ⟨h1, _⟩
    cases h1

end Go.Proofs

/- Views: what may be. -/
namespace Go.Proofs
open Gp
set_option maxRecDepth 100000

abbrev injP (bl : List T8) : Prop := (bl.map inner8).Nodup ∧ (bl.map outer8).Nodup

theorem injective_ok {w : World} {v0 v3 v4 v5 : Int} {vb vs vc : SliceV} {bl : List T8} (hb : SlN 8 e8 w vb bl) (hl : vb.len ≤ 2 ^ 62) :
    c_view_Injective v0 vb vs v3 v4 v5 vc w fun r w' => (r = true ↔ injP bl) ∧ Ext w w' := by
  apply ok_view_Injective
  unfold s_view_Injective
  refine Al_e fun a w1 ra ea z1 f1 => ?_
  intro J
  simp -zeta only [Ld_eq, List.getElem?_cons_zero, List.getElem?_cons_succ, LdV_some, dec_slice, add_mk, Nat.zero_add, ra.cell]
  refine cm_view_each_api_Binding_api_Inner (veach_api_Binding_api_Inner (hb.ext f1) hl rfl fn_inner8) ?_
  rintro v w2 ⟨f2, C, hv, hC⟩
  refine cm_view_once_api_Inner (once4 hv hC) ?_
  rintro r w3 ⟨h3, f3⟩
  have ra3 := (ra.ext f2).ext f3
  have x3 := (f1.trans f2).trans f3
  cases r
  · simp only [cond_false, J]
    exact ⟨⟨fun h => (by cases h), fun h => absurd (h3.2 h.1) (by simp)⟩, x3⟩
  · simp -zeta only [cond_true, List.getElem?_cons_zero, List.getElem?_cons_succ, LdV_some, dec_slice, ra3.cell]
    refine cm_view_each_api_Binding_api_Outer (veach_api_Binding_api_Outer (hb.ext x3) hl rfl fn_outer8) ?_
    rintro v w4 ⟨f4, C, hv, hC⟩
    refine cm_view_once_api_Outer (once3 hv hC) ?_
    rintro r w5 ⟨h5, f5⟩
    exact ⟨⟨fun h => ⟨h3.1 rfl, h5.1 h⟩, fun h => h5.2 h.2⟩, (x3.trans f4).trans f5⟩

/-- Whose endpoint it is. -/
def outB (o : T3) : T8 → Bool | (q0, q1, q2, q3, q4, q5, q6, q7, ()) => ((q4 == o.1) && ((q5 == o.2.1) && ((q6 == o.2.2.1) && true)))
theorem outB_iff {o : T3} {x : T8} : outB o x = true ↔ outer8 x = o := by
  obtain ⟨q0, q1, q2, q3, q4, q5, q6, q7, ⟨⟩⟩ := x
  obtain ⟨o0, o1, o2, ⟨⟩⟩ := o
  simp [outB, outer8]

theorem fn_owner {f0 : Nat} {o0 o1 o2 : Int} : FnV (.func (.func n_view_Owner_1) #[] #[.pointer (some ⟨f0, 0, none⟩)]) (fun x : T8 => Value.agg ⟨e8 x⟩) [.one .bool]
      (fun W => Row W f0 [.int .i64 o0, .int .i64 o1, .int .i64 o2]) (fun x : T8 => .bool (outB (o0, o1, o2, ()) x)) := by
  rintro x W K hr hK
  obtain ⟨q0, q1, q2, q3, q4, q5, q6, q7, ⟨⟩⟩ := x
  refine callV_fn (by kernel_rfl) ?_
  refine Calls.mono (ok_view_Owner_1 (f0 := ⟨f0, 0, none⟩) (w := W) (K := fun r W' => r = outB (o0, o1, o2, ()) (q0, q1, q2, q3, q4, q5, q6, q7, ()) ∧ Ext W W') ?_) ?_
  · unfold s_view_Owner_1
    refine Al_e fun a w1 ra ea z1 f1 => ?_
    have hr := hr.ext f1
    simp only [Ld_eq, List.getElem?_cons_zero, List.getElem?_cons_succ, LdV_some, dec_int, add_mk, Nat.zero_add, Nat.add_zero, ra.cell, hr.cell]
    exact ⟨rfl, f1⟩
  · rintro e W' ⟨r, he, rfl, hf⟩
    exact ⟨_, he, hK W' hf⟩

theorem owner_ok {w : World} {v0 v3 v4 v5 : Int} {vb vs vc : SliceV} {o0 o1 o2 : Int} {bl : List T8} (hb : SlN 8 e8 w vb bl) (hl : vb.len ≤ 2 ^ 62) :
    c_view_Owner v0 vb vs v3 v4 v5 vc o0 o1 o2 w fun i ok w' => ((∃ (j : Nat) (x : T8), bl[j]? = some x ∧ outer8 x = (o0, o1, o2, ()) ∧ i = x.1 ∧ ok = true) ∨ (ok = false ∧ ∀ x ∈ bl, outer8 x ≠ (o0, o1, o2, ()))) ∧ Ext w w' := by
  apply ok_view_Owner
  unfold s_view_Owner
  refine Al_e fun a w1 ra ea z1 f1 => Al_e fun b w2 rb eb z2 f2 => ?_
  have ra := ra.ext f2
  have xx := f1.trans f2
  simp -zeta only [Ld_eq, List.getElem?_cons_zero, List.getElem?_cons_succ, LdV_some, dec_slice, add_mk, Nat.zero_add, ra.cell]
  refine cm_slices_IndexFunc_api_Binding_api_Binding (indexF8 (hb.ext xx) hl fn_owner fun W hW => rb.ext hW) ?_
  rintro r w3 ⟨h3, f3⟩
  have ra := ra.ext f3
  rcases h3 with ⟨j, x, rfl, hx, hp, _⟩ | ⟨rfl, hn⟩
  · rw [decide_eq_false (by omega), cond_false]
    simp -zeta only [List.getElem?_cons_zero, List.getElem?_cons_succ, LdV_some, dec_slice, ra.cell]
    refine SlN_ix e8_len (by omega) ((hb.ext xx).ext f3) (by omega) (by rw [Int.toNat_natCast]; exact hx) fun a' hc => ?_
    have hp := outB_iff.1 hp
    obtain ⟨x0, x1, x2, x3, x4, x5, x6, x7, ⟨⟩⟩ := x
    have c0 : w3.cell? a' = some (.int .i64 x0) := hc 0 _ rfl
    simp only [LdV_some, dec_int, c0]
    exact ⟨.inl ⟨j, _, hx, hp, rfl, by trivial⟩, xx.trans f3⟩
  · rw [decide_eq_true (by omega), cond_true]
    refine ⟨.inr ⟨by trivial, fun x hx he => ?_⟩, xx.trans f3⟩
    have := List.any_eq_false.1 hn x hx
    rw [outB_iff.2 he] at this
    exact this rfl

theorem greedy_ok {w : World} {p0 p1 p2 p3 p4 p5 p6 p7 p8 p9 p10 p11 p12 p13 p14 p15 : Int} {sw po : SliceV} {n18 n19 n20 n21 n22 n23 n24 n25 n26 n27 n28 n29 n30 n31 n32 n33 n34 : Int} {st : SliceV} {v0 v3 v4 v5 : Int} {vb vs vc : SliceV} {bl : List T8} (hb : SlN 8 e8 w vb bl) (hl : vb.len ≤ 2 ^ 62) :
    c_view_greedy p0 p1 p2 p3 p4 p5 p6 p7 p8 p9 p10 p11 p12 p13 p14 p15 sw po n18 n19 n20 n21 n22 n23 n24 n25 n26 n27 n28 n29 n30 n31 n32 n33 n34 st v0 vb vs v3 v4 v5 vc w fun r w' => (bl = [] → r = false) ∧ Ext w w' := by
  apply ok_view_greedy
  unfold s_view_greedy
  refine Al_e fun a w1 ra ea z1 f1 => Al_e fun b w2 rb eb z2 f2 => Al_map fun w3 m3 z3 f3 => ?_
  have ra := (ra.ext f2).ext f3
  have rb := rb.ext f3
  have x3 := (f1.trans f2).trans f3
  have hlen := hb.len
  have hm3 : MapF (fun x : Int => Value.int .i64 x) (fun x : Int => Value.int .i64 x) w3 w2.heap.size ([] : List (Int × Int)) := by
    obtain ⟨es, c, g1, g2⟩ := m3 Int (fun x : Int => Value.int .i64 x)
    exact ⟨es, c, g1, by simpa using g2⟩
  have gt := w2.heap.size
  generalize hm : w2.heap.size = m at *
  simp -zeta only [Ld_eq, List.getElem?_cons_zero, List.getElem?_cons_succ, LdV_some, dec_slice, add_mk, Nat.zero_add, rb.cell]
  refine LoopP_inv (fun s' W => ∃ j : Nat, j ≤ bl.length ∧ s'.1 = (j : Int) ∧ Ext w W ∧ Row W a (.int .u8 p0 :: .int .u8 p1 :: .int .u8 p2 :: .int .u8 p3 :: .int .u8 p4 :: .int .u8 p5 :: .int .u8 p6 :: .int .u8 p7 :: .int .u8 p8 :: .int .u8 p9 :: .int .u8 p10 :: .int .u8 p11 :: .int .u8 p12 :: .int .u8 p13 :: .int .u8 p14 :: .int .u8 p15 :: .slice sw.a sw.len sw.cap :: .slice po.a po.len po.cap :: .int .i64 n18 :: .int .i64 n19 :: .int .i64 n20 :: .int .i64 n21 :: .int .i64 n22 :: .int .i64 n23 :: .int .i64 n24 :: .int .i64 n25 :: .int .i64 n26 :: .int .i64 n27 :: .int .i64 n28 :: .int .i64 n29 :: .int .i64 n30 :: .int .i64 n31 :: .int .i64 n32 :: .int .i64 n33 :: .int .i64 n34 :: .slice st.a st.len st.cap :: []) ∧ ∃ l : List (Int × Int), MapF (fun x : Int => Value.int .i64 x) (fun x : Int => Value.int .i64 x) W m l) (fun s' _ => (vb.len - s'.1).toNat) ⟨0, by omega, rfl, x3, ra, _, hm3⟩ ?_
  rintro ⟨i, ⟨⟩⟩ W ⟨j, hj, hi, hx, ra, l, hml⟩ next hnext
  simp only at hi
  subst hi
  by_cases hlt : (j : Int) < (vb.len : Int)
  · rw [decide_eq_true hlt, cond_true]
    have hxj := List.getElem?_eq_getElem (show j < bl.length by omega)
    generalize bl[j] = x at hxj
    refine SlN_ix e8_len (by omega) (hb.ext hx) (by omega) (by rw [Int.toNat_natCast]; exact hxj) fun a' hc => ?_
    obtain ⟨x0, x1, x2, x3, x4, x5, x6, x7, ⟨⟩⟩ := x
    have c0 : W.cell? (a'.add 0) = some (.int .i64 x0) := hc 0 _ rfl; have c1 : W.cell? (a'.add 1) = some (.int .i64 x1) := hc 1 _ rfl; have c2 : W.cell? (a'.add 2) = some (.int .i64 x2) := hc 2 _ rfl; have c3 : W.cell? (a'.add 3) = some (.int .i64 x3) := hc 3 _ rfl; have c4 : W.cell? (a'.add 4) = some (.int .i64 x4) := hc 4 _ rfl; have c5 : W.cell? (a'.add 5) = some (.int .i64 x5) := hc 5 _ rfl; have c6 : W.cell? (a'.add 6) = some (.int .i64 x6) := hc 6 _ rfl
    have c7 : W.cell? (a'.add 7) = some (.bool x7) := hc 7 _ rfl
    simp only [LdV_some, dec_int, dec_bool, c0, c1, c2, c3, c4, c5, c6, c7]
    refine Al_f rfl rfl fun t W1 rt et zt ft => ?_
    have hm1 := hml.ext ft
    have ra1 := ra.ext ft
    simp only [List.getElem?_cons_zero, LdV_some, dec_int, rt.cell]
    have hget : ∀ (W1 : World) (l : List (Int × Int)) (K : Int → Prop), MapF (fun x : Int => Value.int .i64 x) (fun x : Int => Value.int .i64 x) W1 m l → (∀ n, K n) → MapGet Try.prog 3 (.int .i64) (some m) (Value.int .i64 x0) (Value.int .i64 0) W1 K := by
      intro W1 l K h hK
      exact MapGet_F (k := .int .i64) h eq1 x0 (key1 _) (fun _ => by rw [dec_int]; exact hK _) (fun b _ => by rw [dec_int]; exact hK _)
    refine hget W1 l _ hm1 fun n => ?_
    refine MapSet_F (enc := fun x : Int => Value.int .i64 x) (ev := fun x : Int => Value.int .i64 x) hm1 eq1 x0 _ (key1 _) fun W2 hm2 g2 z2 => ?_
    have mlt := hml.lt
    have rt2 := rt.fr g2 (by omega)
    have ra2 := ra1.fr g2 (by omega)
    have xw : Ext w W2 := (hx.trans ft).new g2 fun x hx e => by have := f1.size; have := f2.size; omega
    simp only [List.getElem?_cons_zero, List.getElem?_cons_succ, LdV_some, dec_int, rt2.cell, ra2.cell]
    refine hget W2 _ _ hm2 fun n' => ?_
    by_cases hg : n' > n20
    · rw [decide_eq_true hg, cond_true]
      refine ⟨fun h => ?_, xw⟩
      rw [h] at hxj; cases hxj
    · rw [decide_eq_false hg, cond_false, wrap_i64 (by omega) (by omega)]
      exact hnext _ _ ⟨j + 1, by omega, by simp, xw, ra2, _, hm2⟩ (by simp only; omega)
  · rw [decide_eq_false hlt, cond_false]
    exact ⟨fun _ => by trivial, hx⟩

end Go.Proofs

/- Views: what may be, whole. -/
namespace Go.Proofs
open Gp
set_option maxRecDepth 100000

/-- There is too much. -/
def crowdB (lb ls n21 n22 n23 n24 v3 v4 v5 : Int) : Bool :=
  bif decide (lb > n21) then true else bif decide (ls > n22) then true else bif decide (v4 > IntKind.i64.wrap (2 * n23)) then true else bif decide (v3 > IntKind.i64.wrap (2 * n24)) then true else
    !(bif decide (v5 ≥ ls) then IntKind.i64.wrap (v5 - ls) == v4 else false)

theorem crowded_ok {w : World} {p0 p1 p2 p3 p4 p5 p6 p7 p8 p9 p10 p11 p12 p13 p14 p15 : Int} {sw po : SliceV} {n18 n19 n20 n21 n22 n23 n24 n25 n26 n27 n28 n29 n30 n31 n32 n33 n34 : Int} {st : SliceV} {v0 v3 v4 v5 : Int} {vb vs vc : SliceV} :
    c_view_crowded p0 p1 p2 p3 p4 p5 p6 p7 p8 p9 p10 p11 p12 p13 p14 p15 sw po n18 n19 n20 n21 n22 n23 n24 n25 n26 n27 n28 n29 n30 n31 n32 n33 n34 st v0 vb vs v3 v4 v5 vc w fun r w' => r = crowdB vb.len vs.len n21 n22 n23 n24 v3 v4 v5 ∧ Ext w w' := by
  apply ok_view_crowded
  unfold s_view_crowded
  refine Al_e fun a w1 ra ea z1 f1 => Al_e fun b w2 rb eb z2 f2 => ?_
  have ra := ra.ext f2
  have xx := f1.trans f2
  unfold crowdB
  simp -zeta only [Ld_eq, List.getElem?_cons_zero, List.getElem?_cons_succ, LdV_some, dec_slice, dec_int, add_mk, Nat.zero_add, rb.cell, ra.cell]
  intro J
  have hJ : ∀ j, J j = ((bif decide ((vb.len : Int) > n21) then true else bif decide ((vs.len : Int) > n22) then true else bif decide (v4 > IntKind.i64.wrap (2 * n23)) then true else bif decide (v3 > IntKind.i64.wrap (2 * n24)) then true else !j) =
      (bif decide ((vb.len : Int) > n21) then true else bif decide ((vs.len : Int) > n22) then true else bif decide (v4 > IntKind.i64.wrap (2 * n23)) then true else bif decide (v3 > IntKind.i64.wrap (2 * n24)) then true else
    !(bif decide (v5 ≥ (vs.len : Int)) then IntKind.i64.wrap (v5 - (vs.len : Int)) == v4 else false)) ∧ Ext w w2) := by
    intro j
    simp only [J]
    generalize decide ((vb.len : Int) > n21) = d1
    generalize decide ((vs.len : Int) > n22) = d2
    generalize decide (v4 > IntKind.i64.wrap (2 * n23)) = d3
    generalize decide (v3 > IntKind.i64.wrap (2 * n24)) = d4
    cases d1 <;> cases d2 <;> cases d3 <;> cases d4 <;> rfl
  clear_value J
  generalize decide (v5 ≥ (vs.len : Int)) = d5 at hJ ⊢
  cases d5
  · rw [cond_false, hJ]; exact ⟨rfl, xx⟩
  · rw [cond_true, hJ]; exact ⟨rfl, xx⟩

theorem fn_vforeign {f0 : Nat} {p0 p1 p2 p3 p4 p5 p6 p7 p8 p9 p10 p11 p12 p13 p14 p15 : Int} {sw po : SliceV} {n18 n19 n20 n21 n22 n23 n24 n25 n26 n27 n28 n29 n30 n31 n32 n33 n34 : Int} {st : SliceV} {pl : List Int} (hpl : po.len ≤ 2 ^ 62) :
    FnV (.func (.func n_view_foreign_1) #[] #[.pointer (some ⟨f0, 0, none⟩)]) (fun x : T8 => Value.agg ⟨e8 x⟩) [.one .bool]
      (fun W => Row W f0 (.int .u8 p0 :: .int .u8 p1 :: .int .u8 p2 :: .int .u8 p3 :: .int .u8 p4 :: .int .u8 p5 :: .int .u8 p6 :: .int .u8 p7 :: .int .u8 p8 :: .int .u8 p9 :: .int .u8 p10 :: .int .u8 p11 :: .int .u8 p12 :: .int .u8 p13 :: .int .u8 p14 :: .int .u8 p15 :: .slice sw.a sw.len sw.cap :: .slice po.a po.len po.cap :: .int .i64 n18 :: .int .i64 n19 :: .int .i64 n20 :: .int .i64 n21 :: .int .i64 n22 :: .int .i64 n23 :: .int .i64 n24 :: .int .i64 n25 :: .int .i64 n26 :: .int .i64 n27 :: .int .i64 n28 :: .int .i64 n29 :: .int .i64 n30 :: .int .i64 n31 :: .int .i64 n32 :: .int .i64 n33 :: .int .i64 n34 :: .slice st.a st.len st.cap :: []) ∧ SlN 1 eI W po pl) (fun x : T8 => .bool (!decide (x.2.2.2.2.2.1 ∈ pl) || (!x.2.2.2.2.2.2.2.1 && (decide (x.2.2.2.2.2.2.1 < n18) || decide (x.2.2.2.2.2.2.1 > n19))))) := by
  rintro x W K ⟨hr, hpo⟩ hK
  obtain ⟨q0, q1, q2, q3, q4, q5, q6, q7, ⟨⟩⟩ := x
  refine callV_fn (by kernel_rfl) ?_
  refine Calls.mono (ok_view_foreign_1 (f0 := ⟨f0, 0, none⟩) (w := W) (K := fun r W' => r = (!decide (q5 ∈ pl) || (!q7 && (decide (q6 < n18) || decide (q6 > n19)))) ∧ Ext W W') ?_) ?_
  · unfold s_view_foreign_1
    refine Al_e fun a w1 ra ea z1 f1 => ?_
    have hr := hr.ext f1
    simp -zeta only [Ld_eq, List.getElem?_cons_zero, List.getElem?_cons_succ, LdV_some, dec_slice, dec_int, add_mk, Nat.zero_add, ra.cell, hr.cell]
    refine cm_slices_Contains_int_int (contains_ok (hpo.ext f1) hpl _) ?_
    rintro _ w' ⟨rfl, hw⟩
    subst hw
    by_cases hm : q5 ∈ pl
    · simp only [hm, decide_true, Bool.not_true, cond_false, cond_false, List.getElem?_cons_zero, List.getElem?_cons_succ, LdV_some, dec_int, dec_bool, ra.cell, hr.cell, Bool.false_or]
      cases q7
      · simp only [Bool.not_false, cond_true, Bool.true_and]
        by_cases h1 : q6 < n18
        · simp only [h1, decide_true, cond_true, Bool.true_or, true_and]; exact f1
        · simp only [h1, decide_false, cond_false, Bool.false_or, true_and]; exact f1
      · simp only [Bool.not_true, cond_false, Bool.false_and, true_and]; exact f1
    · simp only [hm, decide_false, Bool.not_false, cond_true, Bool.true_or, true_and]; exact f1
  · rintro e W' ⟨r, he, rfl, hf⟩
    exact ⟨_, he, hK W' hf⟩

theorem fn_lost {f0 : Nat} {v0 v3 v4 v5 : Int} {vb vs vc : SliceV} :
    FnV (.func (.func n_view_Within_1) #[] #[.pointer (some ⟨f0, 0, none⟩)]) (fun x : T5 => Value.agg ⟨e5 x⟩) [.one .bool]
      (fun W => Row W f0 [.int .i64 v0, .slice vb.a vb.len vb.cap, .slice vs.a vs.len vs.cap, .int .i64 v3, .int .i64 v4, .int .i64 v5, .slice vc.a vc.len vc.cap]) (fun x : T5 => .bool (decide (x.1 < 0) || decide (x.1 ≥ (vb.len : Int)))) := by
  rintro x W K hr hK
  obtain ⟨q0, q1, q2, q3, q4, ⟨⟩⟩ := x
  refine callV_fn (by kernel_rfl) ?_
  refine Calls.mono (ok_view_Within_1 (f0 := ⟨f0, 0, none⟩) (w := W) (K := fun r W' => r = (decide (q0 < 0) || decide (q0 ≥ (vb.len : Int))) ∧ Ext W W') ?_) ?_
  · unfold s_view_Within_1
    refine Al_e fun a w1 ra ea z1 f1 => ?_
    have hr := hr.ext f1
    simp only [Ld_eq, List.getElem?_cons_zero, List.getElem?_cons_succ, LdV_some, dec_slice, dec_int, add_mk, Nat.zero_add, ra.cell, hr.cell]
    by_cases h1 : q0 < 0
    · simp only [h1, decide_true, cond_true, Bool.true_or, true_and]; exact f1
    · simp only [h1, decide_false, cond_false, Bool.false_or, true_and]; exact f1
  · rintro e W' ⟨r, he, rfl, hf⟩
    exact ⟨_, he, hK W' hf⟩

/-- What is told of a view: rc is what is wrong with the settings. -/
def withinP (rc : Int) (bl : List T8) (sl : List T5) (crowd : Bool) (r : Int) : Prop :=
  (rc ≠ 0 ∧ r = rc) ∨ (rc = 0 ∧ ((¬ injP bl ∧ r = 9) ∨ (injP bl ∧ ((bl = [] ∧ sl = [] ∧ crowd = false → r = 0) ∧ (r = 0 → crowd = false)))))

theorem within_ok {w : World} {p0 p1 p2 p3 p4 p5 p6 p7 p8 p9 p10 p11 p12 p13 p14 p15 : Int} {sw po : SliceV} {n18 n19 n20 n21 n22 n23 n24 n25 n26 n27 n28 n29 n30 n31 n32 n33 n34 : Int} {st : SliceV} {sl : List T16} {pl : List Int} {tl : List T7} (hsw : SlN 16 e16 w sw sl) (hpo : SlN 1 eI w po pl) (hst : SlN 7 e7 w st tl) (lsw : sw.len ≤ 2 ^ 40) (lpo : po.len ≤ 2 ^ 40) (lst : st.len ≤ 2 ^ 40)
    {v0 v3 v4 v5 : Int} {vb vs vc : SliceV} {bl : List T8} {el : List T5} (hb : SlN 8 e8 w vb bl) (he : SlN 5 e5 w vs el) (lb : vb.len ≤ 2 ^ 62) (le : vs.len ≤ 2 ^ 62) :
    c_view_Within p0 p1 p2 p3 p4 p5 p6 p7 p8 p9 p10 p11 p12 p13 p14 p15 sw po n18 n19 n20 n21 n22 n23 n24 n25 n26 n27 n28 n29 n30 n31 n32 n33 n34 st v0 vb vs v3 v4 v5 vc w fun r w' => (∃ rc, chk (p0, p1, p2, p3, p4, p5, p6, p7, p8, p9, p10, p11, p12, p13, p14, p15, ()) sw.len po.len st.len n18 n19 n20 n21 n22 n23 n24 n25 n26 n27 n28 n29 n30 n31 n32 n33 n34 sw.len sl pl tl rc ∧ withinP rc bl el (crowdB vb.len vs.len n21 n22 n23 n24 v3 v4 v5) r) ∧ Ext w w' := by
  apply ok_view_Within
  unfold s_view_Within
  refine Al_e fun a w1 ra ea z1 f1 => Al_e fun b w2 rb eb z2 f2 => ?_
  have ra := ra.ext f2
  have xx := f1.trans f2
  simp -zeta only [Ld_eq, List.getElem?_cons_zero, List.getElem?_cons_succ, LdV_some, dec_slice, dec_int, add_mk, Nat.zero_add, Nat.add_zero, ra.cell]
  refine cm_config_Check (check_ok (hsw.ext xx) (hpo.ext xx) (hst.ext xx) (by simp only; omega) (by simp only; omega) (by simp only; omega)) ?_
  rintro rc w3 ⟨h3, f3⟩
  have xx := xx.trans f3
  have ra := ra.ext f3
  have rb := rb.ext f3
  by_cases hrc : rc = 0
  case neg =>
    rw [show (rc != 0) = true by simpa using hrc, cond_true]
    exact ⟨⟨rc, h3, .inl ⟨hrc, rfl⟩⟩, xx⟩
  rw [show (rc != 0) = false by simpa using hrc, cond_false]
  simp -zeta only [List.getElem?_cons_zero, List.getElem?_cons_succ, LdV_some, dec_slice, dec_int, rb.cell]
  refine cm_view_Injective (injective_ok (hb.ext xx) lb) ?_
  rintro r w4 ⟨h4, f4⟩
  have xx := xx.trans f4
  have ra := ra.ext f4
  have rb := rb.ext f4
  cases r
  · simp only [Bool.not_false, cond_true]
    exact ⟨⟨rc, h3, .inr ⟨hrc, .inl ⟨fun h => absurd (h4.2 h) (by simp), rfl⟩⟩⟩, xx⟩
  have hin := h4.1 rfl
  rw [Bool.not_true, cond_false]
  simp -zeta only [List.getElem?_cons_zero, List.getElem?_cons_succ, LdV_some, dec_slice, dec_int, ra.cell, rb.cell]
  refine cm_view_greedy (greedy_ok (hb.ext xx) lb) ?_
  rintro r w5 ⟨h5, f5⟩
  have xx := xx.trans f5
  have ra := ra.ext f5
  have rb := rb.ext f5
  cases r
  case true =>
    rw [cond_true]
    exact ⟨⟨rc, h3, .inr ⟨hrc, .inr ⟨hin, fun h => absurd (h5 h.1) (by simp), fun h => absurd h (by decide)⟩⟩⟩, xx⟩
  rw [cond_false]
  simp -zeta only [List.getElem?_cons_zero, List.getElem?_cons_succ, LdV_some, dec_slice, dec_int, ra.cell, rb.cell]
  refine cm_view_crowded crowded_ok ?_
  rintro r w6 ⟨rfl, f6⟩
  have xx := xx.trans f6
  have ra := ra.ext f6
  have rb := rb.ext f6
  generalize crowdB vb.len vs.len n21 n22 n23 n24 v3 v4 v5 = cb
  cases cb
  case true =>
    rw [cond_true]
    exact ⟨⟨rc, h3, .inr ⟨hrc, .inr ⟨hin, fun h => absurd h.2.2 (by simp), fun h => absurd h (by decide)⟩⟩⟩, xx⟩
  rw [cond_false]
  have ra := ra.drew
  have rb := rb.drew
  have xx := xx.trans (Ext.drew _)
  simp -zeta only [List.getElem?_cons_zero, List.getElem?_cons_succ, LdV_some, dec_slice, dec_int, ra.cell, rb.cell]
  refine cm_view_foreign (ok_view_foreign (by
    unfold s_view_foreign
    exact Al_e fun c w7 rc' ec z7 f7 => (show (∃ c : Nat, Value.func (.func 94) #[] #[.pointer (some ⟨_, 0, none⟩)] = Value.func (.func n_view_foreign_1) #[] #[.pointer (some ⟨c, 0, none⟩)] ∧ Row w7 c (.int .u8 p0 :: .int .u8 p1 :: .int .u8 p2 :: .int .u8 p3 :: .int .u8 p4 :: .int .u8 p5 :: .int .u8 p6 :: .int .u8 p7 :: .int .u8 p8 :: .int .u8 p9 :: .int .u8 p10 :: .int .u8 p11 :: .int .u8 p12 :: .int .u8 p13 :: .int .u8 p14 :: .int .u8 p15 :: .slice sw.a sw.len sw.cap :: .slice po.a po.len po.cap :: .int .i64 n18 :: .int .i64 n19 :: .int .i64 n20 :: .int .i64 n21 :: .int .i64 n22 :: .int .i64 n23 :: .int .i64 n24 :: .int .i64 n25 :: .int .i64 n26 :: .int .i64 n27 :: .int .i64 n28 :: .int .i64 n29 :: .int .i64 n30 :: .int .i64 n31 :: .int .i64 n32 :: .int .i64 n33 :: .int .i64 n34 :: .slice st.a st.len st.cap :: [])) ∧ Ext _ w7 from ⟨⟨_, rfl, rc'⟩, f7⟩)) (K := fun v w' => (∃ c : Nat, v = Value.func (.func n_view_foreign_1) #[] #[.pointer (some ⟨c, 0, none⟩)] ∧ Row w' c (.int .u8 p0 :: .int .u8 p1 :: .int .u8 p2 :: .int .u8 p3 :: .int .u8 p4 :: .int .u8 p5 :: .int .u8 p6 :: .int .u8 p7 :: .int .u8 p8 :: .int .u8 p9 :: .int .u8 p10 :: .int .u8 p11 :: .int .u8 p12 :: .int .u8 p13 :: .int .u8 p14 :: .int .u8 p15 :: .slice sw.a sw.len sw.cap :: .slice po.a po.len po.cap :: .int .i64 n18 :: .int .i64 n19 :: .int .i64 n20 :: .int .i64 n21 :: .int .i64 n22 :: .int .i64 n23 :: .int .i64 n24 :: .int .i64 n25 :: .int .i64 n26 :: .int .i64 n27 :: .int .i64 n28 :: .int .i64 n29 :: .int .i64 n30 :: .int .i64 n31 :: .int .i64 n32 :: .int .i64 n33 :: .int .i64 n34 :: .slice st.a st.len st.cap :: [])) ∧ Ext w6.drew w')) ?_
  rintro v w7 ⟨⟨c, rfl, rc'⟩, f7⟩
  have xx := xx.trans f7
  have rb := rb.ext f7
  refine ⟨rb.cell 1, ?_⟩
  refine cm_slices_ContainsFunc_api_Binding_api_Binding (containsF8 (hb.ext xx) lb (fn_vforeign (by omega)) fun W hW => ⟨rc'.ext hW, (hpo.ext xx).ext hW⟩) ?_
  rintro r w8 ⟨h8, f8⟩
  have xx := xx.trans f8
  have rb := rb.ext f8
  cases r
  case true =>
    rw [cond_true]
    refine ⟨⟨rc, h3, .inr ⟨hrc, .inr ⟨hin, fun h => ?_, fun h => absurd h (by decide)⟩⟩⟩, xx⟩
    rw [h.1] at h8
    cases h8
  rw [cond_false]
  simp -zeta only [List.getElem?_cons_zero, List.getElem?_cons_succ, LdV_some, dec_slice, rb.cell]
  refine cm_slices_ContainsFunc_api_Session_api_Session (containsF5 (he.ext xx) le fn_lost fun W hW => rb.ext hW) ?_
  rintro r w9 ⟨h9, f9⟩
  have xx := xx.trans f9
  cases r
  case true =>
    rw [cond_true]
    refine ⟨⟨rc, h3, .inr ⟨hrc, .inr ⟨hin, fun h => ?_, fun h => absurd h (by decide)⟩⟩⟩, xx⟩
    rw [h.2.1] at h9
    cases h9
  rw [cond_false]
  exact ⟨⟨rc, h3, .inr ⟨hrc, .inr ⟨hin, fun _ => rfl, fun _ => rfl⟩⟩⟩, xx⟩

end Go.Proofs

/- Views: the laws. -/
namespace Go.Proofs
open Gp
set_option maxRecDepth 100000

theorem few_ok {w : World} {v0 v3 v4 v5 : Int} {vb vs vc : SliceV} : c_law38_few v0 vb vs v3 v4 v5 vc w fun r w' => (r = true → vb.len ≤ 60 ∧ vs.len ≤ 100) ∧ Ext w w' := by
  apply ok_law38_few
  unfold s_law38_few
  refine Al_e fun a w1 ra ea z1 f1 => ?_
  simp only [Ld_eq, List.getElem?_cons_zero, List.getElem?_cons_succ, LdV_some, dec_slice, add_mk, Nat.zero_add, ra.cell]
  by_cases h1 : (vb.len : Int) ≤ 60
  · rw [decide_eq_true h1, cond_true]
    by_cases h2 : (vs.len : Int) ≤ 100
    · rw [decide_eq_true h2, cond_true]; exact ⟨fun _ => by omega, f1⟩
    · rw [decide_eq_false h2, cond_false]; exact ⟨fun h => (by cases h), f1⟩
  · rw [decide_eq_false h1, cond_false]; exact ⟨fun h => (by cases h), f1⟩

theorem small_ok {w : World} {p0 p1 p2 p3 p4 p5 p6 p7 p8 p9 p10 p11 p12 p13 p14 p15 : Int} {sw po : SliceV} {n18 n19 n20 n21 n22 n23 n24 n25 n26 n27 n28 n29 n30 n31 n32 n33 n34 : Int} {st : SliceV} : c_plain_Small p0 p1 p2 p3 p4 p5 p6 p7 p8 p9 p10 p11 p12 p13 p14 p15 sw po n18 n19 n20 n21 n22 n23 n24 n25 n26 n27 n28 n29 n30 n31 n32 n33 n34 st w fun r w' => (r = true → sw.len ≤ 8 ∧ po.len ≤ 4 ∧ st.len ≤ 12) ∧ Ext w w' := by
  apply ok_plain_Small
  unfold s_plain_Small
  refine Al_e fun a w1 ra ea z1 f1 => ?_
  simp only [Ld_eq, List.getElem?_cons_zero, List.getElem?_cons_succ, LdV_some, dec_slice, add_mk, Nat.zero_add, ra.cell]
  by_cases h1 : (sw.len : Int) ≤ 8
  · rw [decide_eq_true h1, cond_true]
    by_cases h2 : (po.len : Int) ≤ 4
    · rw [decide_eq_true h2, cond_true]; exact ⟨fun h => by have := of_decide_eq_true h; omega, f1⟩
    · rw [decide_eq_false h2, cond_false]; exact ⟨fun h => (by cases h), f1⟩
  · rw [decide_eq_false h1, cond_false]; exact ⟨fun h => (by cases h), f1⟩

theorem right_ok38 {w : World} {p0 p1 p2 p3 p4 p5 p6 p7 p8 p9 p10 p11 p12 p13 p14 p15 : Int} {sw po : SliceV} {n18 n19 n20 n21 n22 n23 n24 n25 n26 n27 n28 n29 n30 n31 n32 n33 n34 : Int} {st : SliceV} {sl : List T16} {pl : List Int} {tl : List T7} (hsw : SlN 16 e16 w sw sl) (hpo : SlN 1 eI w po pl) (hst : SlN 7 e7 w st tl) :
    c_plain_Right p0 p1 p2 p3 p4 p5 p6 p7 p8 p9 p10 p11 p12 p13 p14 p15 sw po n18 n19 n20 n21 n22 n23 n24 n25 n26 n27 n28 n29 n30 n31 n32 n33 n34 st w fun r w' => (r = true → (sw.len ≤ 8 ∧ po.len ≤ 4 ∧ st.len ≤ 12) ∧ chk (p0, p1, p2, p3, p4, p5, p6, p7, p8, p9, p10, p11, p12, p13, p14, p15, ()) sw.len po.len st.len n18 n19 n20 n21 n22 n23 n24 n25 n26 n27 n28 n29 n30 n31 n32 n33 n34 sw.len sl pl tl 0) ∧ Ext w w' := by
  apply ok_plain_Right
  unfold s_plain_Right
  refine Al_e fun a w1 ra ea z1 f1 => ?_
  intro J
  simp -zeta only [Ld_eq, List.getElem?_cons_zero, List.getElem?_cons_succ, LdV_some, dec_slice, dec_int, add_mk, Nat.zero_add, Nat.add_zero, ra.cell]
  refine cm_plain_Small small_ok ?_
  rintro r w2 ⟨h2, f2⟩
  cases r
  · simp only [cond_false, J]
    exact ⟨fun h => (by cases h), f1.trans f2⟩
  rw [cond_true]
  have hs := h2 rfl
  simp only at hs
  have ra := ra.ext f2
  have xx := f1.trans f2
  simp -zeta only [List.getElem?_cons_zero, List.getElem?_cons_succ, LdV_some, dec_slice, dec_int, ra.cell]
  refine cm_ref20_Check (refcheck_ok (hsw.ext xx) (hpo.ext xx) (hst.ext xx) (by (try simp only); omega) (by (try simp only); omega) (by (try simp only); omega)) ?_
  rintro rc w3 ⟨h3, f3⟩
  simp only [J]
  refine ⟨fun h => ⟨hs, ?_⟩, xx.trans f3⟩
  have : rc = 0 := by simpa using h
  rw [this] at h3
  exact h3

theorem awake38_ok (w : World) : c_law38_awake w fun r w' => r = true ∧ Ext w w' := by
  apply ok_law38_awake
  unfold s_law38_awake
  refine Al_f rfl rfl fun a w1 ra ea z1 f1 => ?_
  simp -zeta only [Ld_eq, List.getElem?_cons_zero, List.getElem?_cons_succ, LdV_some, dec_int, dec_bool, add_mk, Nat.zero_add, Nat.add_zero, ra.cell]
  refine Al_f rfl rfl fun b w2 rb eb z2 f2 => ?_
  simp -zeta only [add_mk, Nat.zero_add, Nat.add_zero]
  refine St_row rb rfl (by decide) fun w3 rb f3 z3 => ?_
  simp only [List.set_cons_succ, List.set_cons_zero] at rb
  have ra := (ra.ext f2).fr (f3 (· = b) rfl) (by omega)
  simp -zeta only [List.getElem?_cons_zero, List.getElem?_cons_succ, LdV_some, dec_int, dec_bool, ra.cell, rb.cell]
  refine Al_e fun c w4 rc ec z4 f4 => ?_
  refine Al_f rfl rfl fun d w5 rd ed z5 f5 => ?_
  have x5 : Ext w w5 := (((f1.trans f2).new (f3 (· = b) rfl) (by intro x hx h; omega)).trans f4).trans f5
  have rc := (rc.ext f5).drew
  have rd := rd.drew
  have x5 := x5.trans (Ext.drew _)
  have hb : SlN 8 e8 w5.drew ⟨some ⟨c, 0, none⟩, 2, 2⟩ [(0, 0, 0, 0, 17, 3325256705, 5000, false, ()), (0, 0, 0, 1, 17, 3325256705, 5000, false, ())] :=
    (BufN.row (xs := [((0, 0, 0, 0, 17, 3325256705, 5000, false, ()) : T8), (0, 0, 0, 1, 17, 3325256705, 5000, false, ())]) (f := e8) (n := 8) rc).sl e8_len (by omega)
  have hninj : ¬ injP [(0, 0, 0, 0, 17, 3325256705, 5000, false, ()), (0, 0, 0, 1, 17, 3325256705, 5000, false, ())] := fun h => absurd h.2 (by decide)
  intro J
  simp -zeta only [List.getElem?_cons_zero, List.getElem?_cons_succ, LdV_some, dec_slice, dec_int, add_mk, Nat.zero_add, Nat.add_zero, rd.cell]
  refine cm_view_Injective (injective_ok hb (by (try simp only); omega)) ?_
  rintro r w6 ⟨h6, f6⟩
  cases r
  case true => exact absurd (h6.1 rfl) hninj
  rw [Bool.not_false, cond_true]
  have rd := rd.ext f6
  simp -zeta only [List.getElem?_cons_zero, List.getElem?_cons_succ, LdV_some, dec_slice, dec_int, rd.cell]
  refine cm_ref20_Base (refbase_ok w6) ?_
  rintro _ _ _ _ _ _ _ _ _ _ _ _ _ _ _ _ _ _ _ _ _ _ _ _ _ _ _ _ _ _ _ _ _ _ _ _ w7 ⟨bs, bp, hR, rfl, rfl, rfl, rfl, rfl, rfl, rfl, rfl, rfl, rfl, rfl, rfl, rfl, rfl, rfl, rfl, rfl, rfl, rfl, rfl, rfl, rfl, rfl, rfl, rfl, rfl, rfl, rfl, rfl, rfl, rfl, rfl, rfl, rfl, rfl, rfl⟩
  have x7 := (x5.trans f6).trans hR.ext
  have rd := rd.ext hR.ext
  simp -zeta only [List.getElem?_cons_zero, List.getElem?_cons_succ, rd.cell, true_and]
  refine cm_view_Within (within_ok hR.sl hR.pl SlN.nil (by (try simp only); omega) (by (try simp only); omega) (by (try simp only); omega) ((hb.ext f6).ext hR.ext) SlN.nil (by (try simp only); omega) (by (try simp only); omega)) ?_
  rintro r w8 ⟨⟨rc, h8, h8'⟩, f8⟩
  obtain rfl := base_zero h8
  have : r = 9 := by
    rcases h8' with ⟨h, _⟩ | ⟨_, ⟨_, h⟩ | ⟨h, _⟩⟩
    · exact absurd rfl h
    · exact h
    · exact absurd h hninj
  subst this
  rw [bt rfl, cond_true]
  refine cm_view_Injective (injective_ok SlN.nil (by (try simp only); omega)) ?_
  rintro r w9 ⟨h9, f9⟩
  exact ⟨h9.2 ⟨List.nodup_nil, List.nodup_nil⟩, (x7.trans f8).trans f9⟩

theorem empty_ok {w : World} {p0 p1 p2 p3 p4 p5 p6 p7 p8 p9 p10 p11 p12 p13 p14 p15 : Int} {sw po : SliceV} {n18 n19 n20 n21 n22 n23 n24 n25 n26 n27 n28 n29 n30 n31 n32 n33 n34 : Int} {st : SliceV} {now : Int} {sl : List T16} {pl : List Int} {tl : List T7} (hsw : SlN 16 e16 w sw sl) (hpo : SlN 1 eI w po pl) (hst : SlN 7 e7 w st tl) :
    c_law38_ViewEmpty p0 p1 p2 p3 p4 p5 p6 p7 p8 p9 p10 p11 p12 p13 p14 p15 sw po n18 n19 n20 n21 n22 n23 n24 n25 n26 n27 n28 n29 n30 n31 n32 n33 n34 st now w fun r w' => r = true ∧ Ext w w' := by
  apply ok_law38_ViewEmpty
  unfold s_law38_ViewEmpty
  refine Al_e fun a w1 ra ea z1 f1 => ?_
  simp -zeta only [Ld_eq, List.getElem?_cons_zero, List.getElem?_cons_succ, LdV_some, dec_slice, dec_int, add_mk, Nat.zero_add, Nat.add_zero, ra.cell]
  refine cm_plain_Right (right_ok38 (hsw.ext f1) (hpo.ext f1) (hst.ext f1)) ?_
  rintro r w2 ⟨h2, f2⟩
  have xx := f1.trans f2
  cases r
  · rw [Bool.not_false, cond_true]
    refine cm_law38_awake (awake38_ok _) ?_
    rintro r w' ⟨rfl, g⟩
    exact ⟨rfl, xx.trans g⟩
  rw [Bool.not_true, cond_false]
  obtain ⟨⟨l1, l2, l3⟩, hc⟩ := h2 rfl
  simp only at l1 l2 l3
  refine Al_f rfl rfl fun b w3 rb eb z3 f3 => ?_
  have ra := (ra.ext f2).ext f3
  have xx := xx.trans f3
  intro J
  simp -zeta only [List.getElem?_cons_zero, List.getElem?_cons_succ, LdV_some, dec_slice, dec_int, add_mk, Nat.zero_add, Nat.add_zero, ra.cell, rb.cell]
  refine cm_view_Within (within_ok (hsw.ext xx) (hpo.ext xx) (hst.ext xx) (by (try simp only); omega) (by (try simp only); omega) (by (try simp only); omega) (bl := []) (el := []) SlN.nil SlN.nil (by (try simp only); omega) (by (try simp only); omega)) ?_
  rintro r w4 ⟨⟨rc, h4, h4'⟩, f4⟩
  have e : rc = 0 := chk_one h4 hc
  subst e
  have hr : r = 0 := by
    rcases h4' with ⟨h, _⟩ | ⟨_, ⟨h, _⟩ | ⟨_, h, _⟩⟩
    · exact absurd rfl h
    · exact absurd ⟨List.nodup_nil, List.nodup_nil⟩ h
    · refine h ⟨rfl, rfl, ?_⟩
      rcases hc with ⟨_, h⟩ | ⟨hok, _⟩
      · cases h
      have hn := hok.nums
      have k1 : okB (n21, 1, 4096, ()) := hn _ (by simp [bnds])
      have k2 : okB (n22, 1, 4096, ()) := hn _ (by simp [bnds])
      have k3 : okB (n23, 0, 4096, ()) := hn _ (by simp [bnds])
      have k4 : okB (n24, 0, 67108864, ()) := hn _ (by simp [bnds])
      unfold okB at k1 k2 k3 k4
      simp only at k1 k2 k3 k4
      unfold crowdB
      rw [wrap_i64 (n := 2 * n23) (by omega) (by omega), wrap_i64 (n := 2 * n24) (by omega) (by omega)]
      simp only
      rw [decide_eq_false (by omega), cond_false, decide_eq_false (by omega), cond_false, decide_eq_false (by omega), cond_false, decide_eq_false (by omega), cond_false]
      rfl
  subst hr
  rw [bt rfl, cond_true]
  have rb := rb.ext f4
  simp -zeta only [List.getElem?_cons_zero, List.getElem?_cons_succ, LdV_some, dec_slice, dec_int, rb.cell]
  refine cm_view_Injective (injective_ok SlN.nil (by (try simp only); omega)) ?_
  rintro r w5 ⟨h5, f5⟩
  rw [h5.2 ⟨List.nodup_nil, List.nodup_nil⟩, cond_true]
  refine cm_law38_awake (awake38_ok _) ?_
  rintro r w' ⟨rfl, g⟩
  exact ⟨rfl, ((xx.trans f4).trans f5).trans g⟩

theorem owns_ok {w : World} {p0 p1 p2 p3 p4 p5 p6 p7 p8 p9 p10 p11 p12 p13 p14 p15 : Int} {sw po : SliceV} {n18 n19 n20 n21 n22 n23 n24 n25 n26 n27 n28 n29 n30 n31 n32 n33 n34 : Int} {st : SliceV} {sl : List T16} {pl : List Int} {tl : List T7} (hsw : SlN 16 e16 w sw sl) (hpo : SlN 1 eI w po pl) (hst : SlN 7 e7 w st tl)
    {v0 v3 v4 v5 : Int} {vb vs vc : SliceV} {bl : List T8} {el : List T5} (hb : SlN 8 e8 w vb bl) (he : SlN 5 e5 w vs el) :
    c_law38_ViewOwns p0 p1 p2 p3 p4 p5 p6 p7 p8 p9 p10 p11 p12 p13 p14 p15 sw po n18 n19 n20 n21 n22 n23 n24 n25 n26 n27 n28 n29 n30 n31 n32 n33 n34 st v0 vb vs v3 v4 v5 vc w fun r w' => r = true ∧ Ext w w' := by
  apply ok_law38_ViewOwns
  unfold s_law38_ViewOwns
  refine Al_e fun a w1 ra ea z1 f1 => Al_e fun b w2 rb eb z2 f2 => ?_
  have ra := ra.ext f2
  have xx := f1.trans f2
  intro J
  have hT : ∀ W, Ext w W → J true W := by
    intro W f
    simp only [J]
    rw [cond_true]
    refine cm_law38_awake (awake38_ok _) ?_
    rintro r w' ⟨rfl, g⟩
    exact ⟨rfl, f.trans g⟩
  have hF : ∀ W, Row W b [.int .i64 v0, .slice vb.a vb.len vb.cap, .slice vs.a vs.len vs.cap, .int .i64 v3, .int .i64 v4, .int .i64 v5, .slice vc.a vc.len vc.cap] → Row W a (.int .u8 p0 :: .int .u8 p1 :: .int .u8 p2 :: .int .u8 p3 :: .int .u8 p4 :: .int .u8 p5 :: .int .u8 p6 :: .int .u8 p7 :: .int .u8 p8 :: .int .u8 p9 :: .int .u8 p10 :: .int .u8 p11 :: .int .u8 p12 :: .int .u8 p13 :: .int .u8 p14 :: .int .u8 p15 :: .slice sw.a sw.len sw.cap :: .slice po.a po.len po.cap :: .int .i64 n18 :: .int .i64 n19 :: .int .i64 n20 :: .int .i64 n21 :: .int .i64 n22 :: .int .i64 n23 :: .int .i64 n24 :: .int .i64 n25 :: .int .i64 n26 :: .int .i64 n27 :: .int .i64 n28 :: .int .i64 n29 :: .int .i64 n30 :: .int .i64 n31 :: .int .i64 n32 :: .int .i64 n33 :: .int .i64 n34 :: .slice st.a st.len st.cap :: []) → Ext w W → vb.len ≤ 60 → injP bl → (vb.len : Int) ≤ n21 → J false W := by
    intro W rb ra f lb hin hn
    clear hT
    simp -zeta only [J]
    rw [cond_false]
    simp -zeta only [Ld_eq, List.getElem?_cons_zero, List.getElem?_cons_succ, LdV_some, dec_slice, add_mk, Nat.zero_add, Nat.add_zero, rb.cell]
    have hlen := hb.len
    refine LoopP_inv (fun s' W' => ∃ j : Nat, j ≤ bl.length ∧ s'.1 = (j : Int) ∧ Ext W W') (fun s' _ => (vb.len - s'.1).toNat) ⟨0, by omega, rfl, Ext.refl _⟩ ?_
    rintro ⟨i, ⟨⟩⟩ W2 ⟨j, hj, hi, hx⟩ next hnext
    simp only at hi
    subst hi
    have fW := f.trans hx
    have rb := rb.ext hx
    have ra := ra.ext hx
    by_cases hlt : (j : Int) < (vb.len : Int)
    · rw [decide_eq_true hlt, cond_true]
      have hxj := List.getElem?_eq_getElem (show j < bl.length by omega)
      generalize bl[j] = x at hxj
      refine SlN_ix e8_len (by omega) (hb.ext fW) (by omega) (by rw [Int.toNat_natCast]; exact hxj) fun a' hc => ?_
      have hxj0 := hxj
      obtain ⟨x0, x1, x2, x3, x4, x5, x6, x7, ⟨⟩⟩ := x
      have c0 : W2.cell? (a'.add 0) = some (.int .i64 x0) := hc 0 _ rfl; have c1 : W2.cell? (a'.add 1) = some (.int .i64 x1) := hc 1 _ rfl; have c2 : W2.cell? (a'.add 2) = some (.int .i64 x2) := hc 2 _ rfl; have c3 : W2.cell? (a'.add 3) = some (.int .i64 x3) := hc 3 _ rfl; have c4 : W2.cell? (a'.add 4) = some (.int .i64 x4) := hc 4 _ rfl; have c5 : W2.cell? (a'.add 5) = some (.int .i64 x5) := hc 5 _ rfl; have c6 : W2.cell? (a'.add 6) = some (.int .i64 x6) := hc 6 _ rfl
      have c7 : W2.cell? (a'.add 7) = some (.bool x7) := hc 7 _ rfl
      simp -zeta only [LdV_some, dec_int, dec_bool, c0, c1, c2, c3, c4, c5, c6, c7]
      refine Al_f rfl rfl fun t W3 rt et zt ft => ?_
      have rb := rb.ext ft
      have fW := fW.trans ft
      simp -zeta only [List.getElem?_cons_zero, List.getElem?_cons_succ, LdV_some, dec_slice, dec_int, add_mk, Nat.zero_add, Nat.add_zero, rb.cell, rt.cell]
      refine cm_view_Owner (owner_ok (hb.ext fW) (by (try simp only); omega)) ?_
      rintro i ok W4 ⟨h4, f4⟩
      have rt := rt.ext f4
      have hio : i = x0 ∧ ok = true := by
        rcases h4 with ⟨k, y, hk, ho, rfl, rfl⟩ | ⟨_, h⟩
        · refine ⟨?_, rfl⟩
          have ho : outer8 y = outer8 (x0, x1, x2, x3, x4, x5, x6, x7, ()) := ho
          have hnd := Gp.Cfg.map_nodup_take.1 hin.2
          have hkj : k = j := by
            rcases Nat.lt_trichotomy k j with h | h | h
            · exact absurd ho (hnd _ _ hxj0 _ (mem_take_lt hk h))
            · exact h
            · exact absurd ho.symm (hnd _ _ hk _ (mem_take_lt hxj0 h))
          subst hkj
          rw [hk] at hxj0
          cases hxj0
          rfl
        · exact absurd rfl (h _ (List.mem_of_getElem? hxj0))
      obtain ⟨rfl, rfl⟩ := hio
      intro J2
      simp -zeta only [cond_false, List.getElem?_cons_zero, LdV_some, dec_int, rt.cell, Bool.not_true]
      simp only [bne_self_eq_false, J2, cond_false]
      rw [wrap_i64 (by omega) (by omega)]
      exact hnext _ _ ⟨j + 1, by omega, by simp, (hx.trans ft).trans f4⟩ (by (try simp only); omega)
    · rw [decide_eq_false hlt, cond_false]
      intro J2
      simp -zeta only [List.getElem?_cons_zero, List.getElem?_cons_succ, LdV_some, dec_slice, dec_int, rb.cell, ra.cell]
      rw [decide_eq_true hn, cond_true]
      refine cm_view_Injective (injective_ok (hb.ext fW) (by (try simp only); omega)) ?_
      rintro r W3 ⟨h3, f3⟩
      rw [h3.2 hin, cond_true]
      refine cm_law38_awake (awake38_ok _) ?_
      rintro r w' ⟨rfl, g⟩
      exact ⟨rfl, (fW.trans f3).trans g⟩
  clear_value J
  simp -zeta only [Ld_eq, List.getElem?_cons_zero, List.getElem?_cons_succ, LdV_some, dec_slice, dec_int, add_mk, Nat.zero_add, Nat.add_zero, rb.cell]
  refine cm_law38_few few_ok ?_
  rintro r w3 ⟨h3, f3⟩
  have xx := xx.trans f3
  have ra := ra.ext f3
  have rb := rb.ext f3
  cases r
  · rw [Bool.not_false, cond_true]; exact hT _ xx
  rw [Bool.not_true, cond_false]
  obtain ⟨l1, l2⟩ := h3 rfl
  simp -zeta only [List.getElem?_cons_zero, List.getElem?_cons_succ, LdV_some, dec_slice, dec_int, ra.cell]
  refine cm_plain_Small small_ok ?_
  rintro r w4 ⟨h4, f4⟩
  have xx := xx.trans f4
  have ra := ra.ext f4
  have rb := rb.ext f4
  cases r
  · rw [Bool.not_false, cond_true]; exact hT _ xx
  rw [Bool.not_true, cond_false]
  obtain ⟨l3, l4, l5⟩ := h4 rfl
  simp only at l1 l2 l3 l4 l5
  simp -zeta only [List.getElem?_cons_zero, List.getElem?_cons_succ, LdV_some, dec_slice, dec_int, ra.cell, rb.cell]
  refine cm_view_Within (within_ok (hsw.ext xx) (hpo.ext xx) (hst.ext xx) (by (try simp only); omega) (by (try simp only); omega) (by (try simp only); omega) (hb.ext xx) (he.ext xx) (by (try simp only); omega) (by (try simp only); omega)) ?_
  rintro r w5 ⟨⟨rc, h5, h5'⟩, f5⟩
  have xx := xx.trans f5
  have ra := ra.ext f5
  have rb := rb.ext f5
  by_cases hr : r = 0
  · subst hr
    rcases h5' with ⟨h, h'⟩ | ⟨_, ⟨_, h⟩ | ⟨hin, _, h⟩⟩
    · exact absurd h'.symm h
    · cases h
    · have hcr := h rfl
      refine hF _ rb ra xx l1 hin ?_
      by_cases hle : (vb.len : Int) > n21
      · unfold crowdB at hcr
        simp only at hcr
        rw [decide_eq_true hle, cond_true] at hcr
        cases hcr
      · omega
  · rw [show (r != 0) = true by simpa using hr]; exact hT _ xx

end Go.Proofs
