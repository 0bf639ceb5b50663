import Derived.Test.YtjejhaefbhbghaaPool2
import Derived.Test.YtjejhaefbhbghaaExt2
/- The ports that are tried, as a function that yields them. -/
namespace Go.Proofs
open Gp
open Gp.Pool (stepL stepL_get alike cls oth wantsL)
set_option maxRecDepth 100000

theorem St_same {w : World} {b i : Nat} {l : List Value} {v : Value} {K : World → Prop} (hr : Row w b l) (h1 : isOne v = true) (hi : l[i]? = some v) (h : ∀ w', Ext w w' → w'.heap.size = w.heap.size → K w') : St w ⟨b, i, none⟩ v K := by
  refine ⟨h1, by rw [hr.cell, hi]; rfl, hr.frozen i, h _ (fun S => ?_) (by simp)⟩
  have hf : Fr8 w (w.setCell ⟨b, i, none⟩ v) (· = b) := Fr8.set w ⟨b, i, none⟩ v rfl
  refine ⟨hf.size, fun c hc _ => ?_, hf.io⟩
  by_cases e : c = b
  · subst e
    obtain ⟨T, ht⟩ := hr
    obtain ⟨hlt, hv⟩ := List.getElem?_eq_some_iff.1 hi
    show (w.heap.modify c _)[c]? = w.heap[c]?
    rw [Array.getElem?_modify, if_pos rfl, ht]
    subst hv
    simp
  · exact hf.same c hc e

theorem mask {x : Int} (h : 0 ≤ x) (h2 : x ≤ 65535) : andI .i64 x 65535 = x := by
  obtain ⟨m, rfl⟩ : ∃ m : Nat, x = (m : Int) := ⟨x.toNat, by omega⟩
  rw [show (65535 : Int) = ((65535 : Nat) : Int) from rfl, and_i64 (by omega) (by decide), show (65535 : Nat) = 2 ^ 16 - 1 from rfl, Nat.and_two_pow_sub_one_eq_mod, Nat.mod_eq_of_lt (by omega)]

theorem filt_get {A B X : List Int} {f : Int → Bool} {i : Nat} {x : Int} (hx : X[i]? = some x) (hp : f x = true) : (A ++ (X.filter f ++ B))[A.length + ((X.take i).filter f).length]? = some x := by
  obtain ⟨hlt, rfl⟩ := List.getElem?_eq_some_iff.1 hx
  have hX : X.filter f = (X.take i).filter f ++ (X[i] :: (X.drop (i + 1)).filter f) := by
    conv => lhs; rw [← List.take_append_drop i X, List.filter_append, List.drop_eq_getElem_cons hlt, List.filter_cons_of_pos hp]
  rw [List.getElem?_append_right (by omega), hX]
  simp

theorem filt_succ {X : List Int} {f : Int → Bool} {i : Nat} {x : Int} (hx : X[i]? = some x) : ((X.take (i + 1)).filter f).length = ((X.take i).filter f).length + (if f x then 1 else 0) := by
  rw [List.take_add_one, hx]
  by_cases h : f x = true <;> simp [List.filter_append, h]

/-- The rows, and which of their ports are tried. -/
def rowsL (lo hi want : Int) (cl cl' : Int × Int) : List (List Int) :=
  [stepL (min hi cl.2) (max (want + 2) (alike (max lo cl.1) want)) 2, stepL (min hi cl.2) (alike (max lo cl.1) want) 2, stepL (min hi cl'.2) (alike (max lo cl'.1) want) 2, stepL hi (alike lo (want + 1)) 2]
def keepF (want : Int) (j : Nat) (p : Int) : Bool := decide (p ≠ want ∧ ¬ (j = 1 ∧ want ≤ p))
def headL (lo hi want : Int) : List Int := if lo ≤ want ∧ want ≤ hi then [want] else []
/-- What is tried from a row on. -/
def fromL (want : Int) : Nat → List (List Int) → List Int
  | _, [] => []
  | j, r :: rs => r.filter (keepF want j) ++ fromL want (j + 1) rs

theorem wantsL_eq (lo hi want : Int) (cl cl' : Int × Int) : wantsL lo hi want cl cl' = headL lo hi want ++ fromL want 0 (rowsL lo hi want cl cl') := by
  unfold wantsL headL rowsL fromL fromL fromL fromL fromL keepF
  simp

theorem fromL_app (want : Int) : ∀ (a b : List (List Int)) (k : Nat), fromL want k (a ++ b) = fromL want k a ++ fromL want (k + a.length) b := by
  intro a
  induction a with
  | nil => intro b k; simp [fromL]
  | cons x a ih =>
    intro b k
    simp only [List.cons_append, fromL, ih, List.append_assoc, List.length_cons]
    rw [show k + 1 + a.length = k + (a.length + 1) by omega]

/-- What is tried ahead of a row. -/
def preL (want : Int) (h : List Int) (rs : List (List Int)) (j : Nat) : List Int := h ++ fromL want 0 (rs.take j)

theorem preL_all {want : Int} {h : List Int} {rs : List (List Int)} {j : Nat} {r : List Int} (hr : rs[j]? = some r) :
    h ++ fromL want 0 rs = preL want h rs j ++ (r.filter (keepF want j) ++ fromL want (j + 1) (rs.drop (j + 1))) := by
  obtain ⟨hlt, rfl⟩ := List.getElem?_eq_some_iff.1 hr
  have e : rs = rs.take j ++ (rs[j] :: rs.drop (j + 1)) := by rw [← List.drop_eq_getElem_cons hlt, List.take_append_drop]
  unfold preL
  conv => lhs; rw [e, fromL_app, List.length_take, Nat.min_eq_left (by omega), fromL, Nat.zero_add]
  simp only [List.append_assoc]

theorem preL_succ {want : Int} {h : List Int} {rs : List (List Int)} {j : Nat} {r : List Int} (hr : rs[j]? = some r) :
    (preL want h rs (j + 1)).length = (preL want h rs j).length + (r.filter (keepF want j)).length := by
  obtain ⟨hlt, rfl⟩ := List.getElem?_eq_some_iff.1 hr
  unfold preL
  rw [List.take_add_one, List.getElem?_eq_getElem hlt, fromL_app, List.length_take, Nat.min_eq_left (by omega)]
  simp [fromL]
  omega

theorem wants_iter {p g f0 f1 f2 : Nat} {lo hi want n : Int} {s : SliceV} (hn : n = 6 ∨ n = 17) (h1 : IntP lo) (h2 : IntP hi) (h3 : 0 ≤ want) (h4 : want ≤ 65535) :
    IterFn2 Try.prog [.one (.int .i64)] (Value.func (.func n_pool_Pool_Wants_1) #[] #[(Value.pointer (some ⟨f0, 0, none⟩)), (Value.pointer (some ⟨f1, 0, none⟩)), (Value.pointer (some ⟨f2, 0, none⟩))])
      (fun W => Row W f0 [.pointer (some ⟨p, 0, none⟩)] ∧ Row W f1 [.int .i64 n] ∧ Row W f2 [.int .i64 want] ∧ Row W p (poolV lo hi s g)) (yP (wantsL lo hi want (cls want) (oth want))) := by
  refine ⟨by kernel_rfl, fun l w Q D hC hQ hD hy h0 => ?_⟩
  refine Calls.mono (ok_pool_Pool_Wants_1 (a0 := .func (.yield l) #[] #[]) (f0 := ⟨f0, 0, none⟩) (f1 := ⟨f1, 0, none⟩) (f2 := ⟨f2, 0, none⟩) (K := fun w' => Q (yP (wantsL lo hi want (cls want) (oth want))).length w' ∨ D w') ?_) (fun e w' h => h)
  have hlen : (yP (wantsL lo hi want (cls want) (oth want))).length = (preL want (headL lo hi want) (rowsL lo hi want (cls want) (oth want)) 4).length := by
    simp only [yP, List.length_map, wantsL_eq, preL, rowsL, List.take]
  rw [hlen]
  unfold s_pool_Pool_Wants_1
  refine ⟨rfl, Al_e fun b3 w1 r3 e3 z3 x3 => ?_⟩
  have up : ∀ {i W W'}, Q i W → Ext W W' → Q i W' := fun hq hx => hQ _ _ _ hq (hx _)
  have q1 := up h0 x3
  intro J4
  suffices hJ4 : J4 false w1 by
    obtain ⟨c0, c1, c2, c3⟩ := hC _ _ q1
    simp only [Ld_eq, List.getElem?_cons_zero, LdV_some, dec_ptr, c0.cell]
    refine cm_pool_Pool_ready (ready_ok c3) ?_
    rintro _ w' ⟨rfl, hw⟩
    subst hw
    simp only [Bool.not_true, cond_false, List.getElem?_cons_zero, LdV_some, dec_int, c1.cell]
    refine cm_pool_proto (proto_ok n _) ?_
    rintro _ w' ⟨rfl, hw⟩
    subst hw
    have : (n = 1 ∨ n = 6 ∨ n = 17) := .inr hn
    simp only [this, decide_true, Bool.not_true]
    exact hJ4
  obtain ⟨c0, c1, c2, c3⟩ := hC _ _ q1
  simp -zeta only [J4, cond_false, cond_false, Ld_eq, List.getElem?_cons_zero, LdV_some, dec_int, c2.cell, mask h3 h4]
  refine St_same c2 rfl rfl fun w8 x8 z8 => ?_
  have q8 := up q1 x8
  have r8 := r3.ext x8
  intro J9
  have hJ9 : ∀ W, Q (headL lo hi want).length W → Row W b3 [.func (.yield l) #[] #[]] → w.heap.size ≤ W.heap.size → J9 false W := by
    intro W hq hb3 hs
    simp -zeta only [J9, cond_false]
    obtain ⟨c0, c1, c2, c3⟩ := hC _ _ hq
    simp -zeta only [List.getElem?_cons_zero, LdV_some, dec_int, dec_ptr, c0.cell, c1.cell, c2.cell]
    refine cm_pool_Pool_rows (rows_ok c3 (by omega) h1 h2 ⟨h3, by omega⟩ h4) ?_
    rintro _ W1 ⟨xr, b, v0, v1, v2, v3, rfl, rb, lb, y0, y1, y2, y3⟩
    have q1' := up hq xr
    have hb3' := hb3.ext xr
    have sr := xr.size
    have hy4 : ∀ j, j < 4 → ∃ v r, (rowsL lo hi want (cls want) (oth want))[j]? = some r ∧ [v0, v1, v2, v3][j]? = some v ∧ YieldsP W W1 v r := by
      intro j hj
      match j, hj with
      | 0, _ => exact ⟨v0, _, rfl, rfl, y0⟩
      | 1, _ => exact ⟨v1, _, rfl, rfl, y1⟩
      | 2, _ => exact ⟨v2, _, rfl, rfl, y2⟩
      | 3, _ => exact ⟨v3, _, rfl, rfl, y3⟩
    rw [wantsL_eq] at hy
    generalize rowsL lo hi want (cls want) (oth want) = R at hy4 hy ⊢
    generalize headL lo hi want = H at hq q1' hy ⊢
    have b3w : b3 < W1.heap.size := hb3'.lt
    refine LoopP_inv (fun st W' => ∃ j : Nat, j ≤ 4 ∧ st.1.1 = (j : Int) ∧ Q (preL want H R j).length W' ∧ Fr8 W1 W' (· < w.heap.size) ∧ (∀ d ∈ st.2, W1.heap.size ≤ d ∧ d < W'.heap.size ∧ W'.heap[d]? = some (.deferred (some []))) ∧ st.2.Nodup)
      (fun st _ => (4 - st.1.1).toNat) ⟨0, by omega, rfl, by simpa [preL, fromL] using q1', Fr8.refl _ _, by simp, by simp⟩ ?_
    rintro ⟨⟨jj, ⟨⟩⟩, ds⟩ W2 ⟨j, hj, hjj, hq2, f2', hd2, nd2⟩ next hnext
    simp only at hjj hd2 nd2
    subst hjj
    have s2 := f2'.size
    by_cases hj4 : j < 4
    · obtain ⟨v, r, hr, hv, hyv⟩ := hy4 j hj4
      have rb2 := rb.fr f2' (by omega)
      have hlt : ((j : Int) < ((4 : Nat) : Int)) := by omega
      simp only [hlt, decide_true, cond_true]
      refine AtIx_row (b := b) (o := 0) rfl (by omega) (by simp only; omega) ?_
      simp only [Int.toNat_natCast, Nat.zero_add, Nat.mul_one]
      have rv : W2.cell? ⟨b, j, none⟩ = some v := by rw [rb2.cell]; exact hv
      simp only [cond_false, LdV_some, dec_any, rv]
      refine Al_e fun a23 W3 r23 e23 z23 x23 => ?_
      refine St_row r23 rfl (by simp) fun W4 r24 f24 z24 => ?_
      have x24 : Ext W2 W4 := x23.new (f24 (· = a23) rfl) fun x hx e => by omega
      simp only [List.set_cons_zero] at r24
      have q4 := up hq2 x24
      have f4 : Fr8 W1 W4 (· < w.heap.size) := f2'.ext x24
      have r34 : Row W4 b3 _ := hb3'.fr f4 (by omega)
      obtain ⟨_, C, hit, hCk⟩ := hyv
      refine rng_iter hit (fun i W' => Q ((preL want H R j).length + ((r.take i).filter (keepF want j)).length) W' ∧ Fr8 W4 W' (· < w.heap.size)) (fun e W' => e = .ret ∧ D W' ∧ Fr8 W4 W' (· < w.heap.size)) (by simp) ?_ ?_ ?_ ?_ ?_ ?_ ?_ ?_ ?_
      · exact fun W' hx _ => ⟨by simpa using up q4 hx, hx _⟩
      · exact fun i W' hI => hCk W' _ (f4.trans hI.2 fun _ _ e => e) fun x hx hlt => by omega
      · exact fun i W' W'' hI hf => ⟨hQ _ _ _ hI.1 (hf.mono fun x e => by simp only [lAt] at e; simp at e; omega), hI.2.trans hf fun x hx e => by simp [lAt] at e; omega⟩
      · exact fun e W' W'' hI hf => ⟨hI.1, hD _ _ hI.2.1 (hf.mono fun x e => by simp only [lAt] at e; simp at e; omega), hI.2.2.trans hf fun x hx e => by simp [lAt] at e; omega⟩
      · exact fun e W' hI => .inl hI.1
      · rintro i ⟨p', ⟨⟩⟩ W' Kb hx ⟨hqi, hfi⟩ hlt2 hn2 hj2
        rw [yP_get] at hx
        obtain ⟨p'', hp, he⟩ := Option.map_eq_some_iff.1 hx
        have hpe : p'' = p' := congrArg Prod.fst he
        subst hpe
        have lq : lAt none W4 = W4.heap.size + 1 := rfl
        have s24 := x24.size
        rw [lq] at hlt2 hn2 hj2 ⊢
        refine ⟨by trivial, ?_⟩
        have qb : Q _ (busyW W' (W4.heap.size + 1)) := hQ _ _ _ hqi ((Fr8.busyW W' _).mono fun x e => by omega)
        obtain ⟨d0, d1, d2, d3⟩ := hC _ _ qb
        have hfb : Fr8 W4 (busyW W' (W4.heap.size + 1)) (· < w.heap.size) := hfi.trans (Fr8.busyW W' _) fun x hx e => by omega
        have ra := r24.fr hfb (by omega)
        have rb3 := r34.fr hfb (by omega)
        have skip : keepF want j p'' = false → Kb .normal (busyW W' (W4.heap.size + 1)) := fun hk =>
          hn2 _ (fun _ => False) (Fr8.refl _ _) (by simp) ⟨by rw [filt_succ hp, hk]; simpa using qb, hfb⟩
        have go : keepF want j p'' = true → CallV Try.prog [.one .bool] (.func (.yield l) #[] #[]) [.int .i64 p''] (busyW W' (W4.heap.size + 1)) fun r34 w35 =>
            ∃ r36 : Bool, r34 = (Value.bool r36) ∧ (bif (!r36) then Kb .ret w35 else Kb .normal w35) := fun hk =>
          callV_yield (hy ((preL want H R j).length + ((r.take i).filter (keepF want j)).length) (p'', ()) _ _ (by rw [yP_get, preL_all hr, filt_get hp hk]; rfl) qb
            (fun W'' hq'' hf'' => ⟨true, rfl, hn2 W'' (· < w.heap.size) hf'' (fun x h1 h2 h3 => by omega) ⟨by rw [filt_succ hp, hk]; exact hq'', hfb.trans hf'' fun _ _ e => e⟩⟩)
            (fun W'' hd hf'' => ⟨false, rfl, hj2 .ret W'' (· < w.heap.size) hf'' (fun x h1 h2 h3 => by omega) ⟨rfl, hd, hfb.trans hf'' fun _ _ e => e⟩⟩))
        have hn1 : (n != 1) = true := by rcases hn with rfl | rfl <;> rfl
        simp only [cond_true, List.getElem?_cons_zero, LdV_some, dec_int, dec_any, ra.cell, rb3.cell, d1.cell, d2.cell, hn1]
        by_cases hw : p'' = want
        · have hb : (p'' == want) = true := by simp [hw]
          simp only [hb, cond_true, Bool.cond_self]
          exact skip (by simp [keepF, hw])
        · have hb : (p'' == want) = false := by simp [hw]
          simp only [hb, cond_false]
          by_cases hj1 : j = 1
          · have hb2 : ((j : Int) == 1) = true := by simp [hj1]
            simp only [hb2, cond_true]
            by_cases hge : p'' ≥ want
            · simp only [hge, decide_true, cond_true]
              exact skip (by simp [keepF, hj1]; omega)
            · simp only [hge, decide_false, cond_false]
              exact go (by simp [keepF, hw]; omega)
          · have hb2 : ((j : Int) == 1) = false := by simp; omega
            simp only [hb2, cond_false]
            exact go (by simp [keepF, hw, hj1])
      · rintro W' ⟨hqi, hfi⟩ hm
        have hm := hm rfl
        have s24 := x24.size
        have s4 := hfi.size
        rw [wrap_i64 (by omega) (by omega)]
        refine hnext _ _ ⟨j + 1, by omega, by simp, ?_, f4.trans hfi fun _ _ e => e, ?_, ?_⟩ (by simp only; omega)
        · rw [preL_succ hr]
          rwa [List.take_of_length_le (by simp [yP])] at hqi
        · intro d hd
          rcases List.mem_cons.1 hd with rfl | hd
          · exact ⟨by omega, (Array.getElem?_eq_some_iff.1 hm).1, hm⟩
          · obtain ⟨g1, g2, g3⟩ := hd2 d hd
            exact ⟨g1, by omega, by rw [hfi.same d (by omega) (by omega), (x24 fun _ => False).same d (by omega) (by simp)]; exact g3⟩
        · simp only [List.nodup_cons]
          exact ⟨fun hd => by have := hd2 _ hd; omega, nd2⟩
      · rintro W' ⟨_, hd, hfi⟩ hm
        have hm := hm rfl
        have s24 := x24.size
        refine closeP_ok (n := w.heap.size) _ W' ?_ ?_ fun w6 f6 z6 => .inr (hD _ _ hd f6)
        · intro d hd
          rcases List.mem_cons.1 hd with rfl | hd
          · exact ⟨by omega, hm⟩
          · obtain ⟨g1, g2, g3⟩ := hd2 d hd
            exact ⟨by omega, by rw [hfi.same d (by omega) (by omega), (x24 fun _ => False).same d (by omega) (by simp)]; exact g3⟩
        · simp only [List.nodup_cons]
          exact ⟨fun hd => by have := hd2 _ hd; omega, nd2⟩
      · rintro id W' ⟨h, _⟩
        cases h
    · have hj' : j = 4 := by omega
      subst hj'
      have hlt : ¬ (((4 : Nat) : Int) < ((4 : Nat) : Int)) := by omega
      simp only [hlt, decide_false, cond_false]
      refine closeP_ok (n := w.heap.size) ds W2 (fun d hd => ⟨by have := hd2 d hd; omega, (hd2 d hd).2.2⟩) nd2 fun w6 f6 z6 => .inl (hQ _ _ _ hq2 f6)
  obtain ⟨c0, c1, c2, c3⟩ := hC _ _ (up q8 (Ext.drew w8))
  simp only [ex_some, List.getElem?_cons_zero, List.getElem?_cons_succ, LdV_some, dec_int, dec_ptr, add_mk, Nat.zero_add, Nat.add_zero, c0.cell, c2.cell, c3.cell]
  refine cm_pool_span_has (span_has_ok lo hi want _) ?_
  rintro _ w52 ⟨rfl, x52⟩
  have q52 := up (up q8 (Ext.drew w8)) x52
  have r52 := (r8.ext (Ext.drew w8)).ext x52
  have s52 := x52.size
  have s8 := x8.size
  have s3 := x3.size
  have sd := (Ext.drew w8).size
  by_cases hin : lo ≤ want ∧ want ≤ hi
  · have hh : headL lo hi want = [want] := by unfold headL; rw [if_pos hin]
    obtain ⟨c0, c1, c2, c3⟩ := hC _ _ q52
    simp only [hin, decide_true, and_self, cond_true, cond_true, List.getElem?_cons_zero, LdV_some, dec_int, dec_any, r52.cell, c2.cell]
    refine callV_yield (hy 0 (want, ()) w52 _ ?_ q52 ?_ ?_)
    · rw [yP_get, wantsL_eq, hh]; rfl
    · intro W' hq' hf'
      exact ⟨true, rfl, hJ9 W' (by rw [hh]; exact hq') (r52.fr hf' (by omega)) (by have := hf'.size; omega)⟩
    · intro W' hd hf'
      refine ⟨false, rfl, ?_⟩
      show (bif true then _ else _)
      exact .inr hd
  · have hh : headL lo hi want = [] := by unfold headL; rw [if_neg hin]
    simp only [hin, decide_false, cond_false]
    exact hJ9 w52 (by rw [hh]; exact q52) r52 (by omega)

end Go.Proofs
