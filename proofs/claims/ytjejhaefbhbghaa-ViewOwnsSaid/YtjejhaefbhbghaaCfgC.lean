import Derived.Test.YtjejhaefbhbghaaCfgB
import Derived.Test.YtjejhaefbhbghaaG19d
/- Settings: softwires, waits, and the ordinary settings. -/
namespace Go.Proofs
open Gp
set_option maxRecDepth 100000

theorem index16_ok {w : World} {s : SliceV} {xs : List T16} {x0 x1 x2 x3 x4 x5 x6 x7 x8 x9 x10 x11 x12 x13 x14 x15 : Int} (hs : SlN 16 e16 w s xs) (hl : s.len ≤ 2 ^ 40) : c_slices_Index_api_Six_api_Six s x0 x1 x2 x3 x4 x5 x6 x7 x8 x9 x10 x11 x12 x13 x14 x15 w fun r w' => idx xs (x0, x1, x2, x3, x4, x5, x6, x7, x8, x9, x10, x11, x12, x13, x14, x15, ()) r ∧ Ext w w' := by
  apply ok_slices_Index_api_Six_api_Six
  unfold s_slices_Index_api_Six_api_Six
  refine Al_e fun a w1 ra ea z1 f1 => ?_
  have hlen := hs.len
  refine LoopP_inv (fun st W => ∃ j : Nat, j ≤ xs.length ∧ st.1 = (j : Int) ∧ Ext w1 W ∧ (x0, x1, x2, x3, x4, x5, x6, x7, x8, x9, x10, x11, x12, x13, x14, x15, ()) ∉ xs.take j) (fun st _ => (s.len - st.1).toNat) ⟨0, by omega, rfl, Ext.refl _, by simp⟩ ?_
  rintro ⟨i, ⟨⟩⟩ W ⟨j, hj, hi, hx, hm⟩ next hnext
  simp only at hi
  subst hi
  by_cases hlt : (j : Int) < (s.len : Int)
  · rw [decide_eq_true hlt, cond_true]
    have dW := hx.trans (Ext.drew W)
    have raW := ra.ext dW
    have hyj := List.getElem?_eq_getElem (show j < xs.length by omega)
    generalize xs[j] = y at hyj
    simp -zeta only [Ld_eq, List.getElem?_cons_zero, List.getElem?_cons_succ, LdV_some, dec_int, add_mk, Nat.zero_add, Nat.add_zero, raW.cell]
    refine SlN_ix e16_len (by omega) (hs.ext (f1.trans dW)) (by omega) (by rw [Int.toNat_natCast]; exact hyj) fun a' hc => ?_
    obtain ⟨y0, y1, y2, y3, y4, y5, y6, y7, y8, y9, y10, y11, y12, y13, y14, y15, ⟨⟩⟩ := y
    have c0 : W.drew.cell? (a'.add 0) = some (.int .u8 y0) := hc 0 _ rfl; have c1 : W.drew.cell? (a'.add 1) = some (.int .u8 y1) := hc 1 _ rfl; have c2 : W.drew.cell? (a'.add 2) = some (.int .u8 y2) := hc 2 _ rfl; have c3 : W.drew.cell? (a'.add 3) = some (.int .u8 y3) := hc 3 _ rfl; have c4 : W.drew.cell? (a'.add 4) = some (.int .u8 y4) := hc 4 _ rfl; have c5 : W.drew.cell? (a'.add 5) = some (.int .u8 y5) := hc 5 _ rfl; have c6 : W.drew.cell? (a'.add 6) = some (.int .u8 y6) := hc 6 _ rfl; have c7 : W.drew.cell? (a'.add 7) = some (.int .u8 y7) := hc 7 _ rfl; have c8 : W.drew.cell? (a'.add 8) = some (.int .u8 y8) := hc 8 _ rfl; have c9 : W.drew.cell? (a'.add 9) = some (.int .u8 y9) := hc 9 _ rfl; have c10 : W.drew.cell? (a'.add 10) = some (.int .u8 y10) := hc 10 _ rfl; have c11 : W.drew.cell? (a'.add 11) = some (.int .u8 y11) := hc 11 _ rfl; have c12 : W.drew.cell? (a'.add 12) = some (.int .u8 y12) := hc 12 _ rfl; have c13 : W.drew.cell? (a'.add 13) = some (.int .u8 y13) := hc 13 _ rfl; have c14 : W.drew.cell? (a'.add 14) = some (.int .u8 y14) := hc 14 _ rfl; have c15 : W.drew.cell? (a'.add 15) = some (.int .u8 y15) := hc 15 _ rfl
    simp -zeta only [LdV_some, dec_int, c0, c1, c2, c3, c4, c5, c6, c7, c8, c9, c10, c11, c12, c13, c14, c15]
    rw [eqb16 _ rfl]
    by_cases he : ((x0, x1, x2, x3, x4, x5, x6, x7, x8, x9, x10, x11, x12, x13, x14, x15, ()) : T16) = (y0, y1, y2, y3, y4, y5, y6, y7, y8, y9, y10, y11, y12, y13, y14, y15, ())
    · rw [decide_eq_true he, cond_true]
      exact ⟨.inl ⟨j, rfl, by rw [hyj, he], hm⟩, f1.trans dW⟩
    · rw [decide_eq_false he, cond_false, wrap_i64 (by omega) (by omega)]
      refine hnext _ _ ⟨j + 1, by omega, by simp, dW, ?_⟩ (by simp only; omega)
      rw [Gp.Cfg.take_snoc hyj, List.mem_append, List.mem_singleton]
      exact fun h => h.elim hm he
  · rw [decide_eq_false hlt, cond_false]
    rw [List.take_of_length_le (by omega)] at hm
    exact ⟨.inr ⟨rfl, hm⟩, f1.trans hx⟩

/-- Which softwire has an address. -/
def swP (xs : List T16) (x : T16) (r : Int) (b : Bool) : Prop := (∃ i : Nat, r = (i : Int) ∧ b = true ∧ xs[i]? = some x ∧ x ∉ xs.take i) ∨ (r = 0 ∧ b = false ∧ x ∉ xs)

theorem swP_one {xs : List T16} {x : T16} {r r' : Int} {b b' : Bool} (h : swP xs x r b) (h' : swP xs x r' b') : r = r' ∧ b = b' := by
  rcases h with ⟨i, rfl, rfl, h1, h2⟩ | ⟨rfl, rfl, h1⟩ <;> rcases h' with ⟨k, rfl, rfl, g1, g2⟩ | ⟨rfl, rfl, g1⟩
  · refine ⟨?_, rfl⟩
    rcases Nat.lt_trichotomy i k with h | h | h
    · exact absurd (mem_take_lt h1 h) g2
    · rw [h]
    · exact absurd (mem_take_lt g1 h) h2
  · exact absurd (List.mem_of_getElem? h1) g1
  · exact absurd (List.mem_of_getElem? g1) h1
  · exact ⟨rfl, rfl⟩

theorem softwire_ok {w : World} {p0 p1 p2 p3 p4 p5 p6 p7 p8 p9 p10 p11 p12 p13 p14 p15 : Int} {sw po : SliceV} {n18 n19 n20 n21 n22 n23 n24 n25 n26 n27 n28 n29 n30 n31 n32 n33 n34 : Int} {st : SliceV} {x0 x1 x2 x3 x4 x5 x6 x7 x8 x9 x10 x11 x12 x13 x14 x15 : Int} {sl : List T16} (hsw : SlN 16 e16 w sw sl) (hl : sw.len ≤ 2 ^ 40) : c_config_Softwire p0 p1 p2 p3 p4 p5 p6 p7 p8 p9 p10 p11 p12 p13 p14 p15 sw po n18 n19 n20 n21 n22 n23 n24 n25 n26 n27 n28 n29 n30 n31 n32 n33 n34 st x0 x1 x2 x3 x4 x5 x6 x7 x8 x9 x10 x11 x12 x13 x14 x15 w fun r b w' => swP sl (x0, x1, x2, x3, x4, x5, x6, x7, x8, x9, x10, x11, x12, x13, x14, x15, ()) r b ∧ Ext w w' := by
  apply ok_config_Softwire
  unfold s_config_Softwire
  refine Al_e fun a w1 ra ea z1 f1 => Al_e fun b w2 rb eb z2 f2 => ?_
  have ra := ra.ext f2
  have ee2 := f1.trans f2
  simp only [Ld_eq, List.getElem?_cons_zero, List.getElem?_cons_succ, LdV_some, dec_slice, dec_int, add_mk, Nat.zero_add, Nat.add_zero, ra.cell, rb.cell]
  refine cm_slices_Index_api_Six_api_Six (index16_ok (hsw.ext ee2) hl) ?_
  rintro r w3 ⟨h, f3⟩
  refine ⟨?_, ee2.trans f3⟩
  rcases h with ⟨i, rfl, h1, h2⟩ | ⟨rfl, h1⟩
  · exact .inl ⟨i, by rw [if_neg (by omega)], decide_eq_true (by omega), h1, h2⟩
  · exact .inr ⟨rfl, rfl, h1⟩

theorem refsoftwire_ok {w : World} {p0 p1 p2 p3 p4 p5 p6 p7 p8 p9 p10 p11 p12 p13 p14 p15 : Int} {sw po : SliceV} {n18 n19 n20 n21 n22 n23 n24 n25 n26 n27 n28 n29 n30 n31 n32 n33 n34 : Int} {st : SliceV} {x0 x1 x2 x3 x4 x5 x6 x7 x8 x9 x10 x11 x12 x13 x14 x15 : Int} {sl : List T16} (hsw : SlN 16 e16 w sw sl) (hl : sw.len ≤ 2 ^ 40) : c_ref20_Softwire p0 p1 p2 p3 p4 p5 p6 p7 p8 p9 p10 p11 p12 p13 p14 p15 sw po n18 n19 n20 n21 n22 n23 n24 n25 n26 n27 n28 n29 n30 n31 n32 n33 n34 st x0 x1 x2 x3 x4 x5 x6 x7 x8 x9 x10 x11 x12 x13 x14 x15 w fun r b w' => swP sl (x0, x1, x2, x3, x4, x5, x6, x7, x8, x9, x10, x11, x12, x13, x14, x15, ()) r b ∧ Ext w w' := by
  apply ok_ref20_Softwire
  unfold s_ref20_Softwire
  refine Al_e fun a w1 ra ea z1 f1 => Al_e fun b w2 rb eb z2 f2 => ?_
  have ra := ra.ext f2
  have ee2 := f1.trans f2
  have hlen := hsw.len
  refine LoopP_inv (fun st W => ∃ j : Nat, j ≤ sl.length ∧ st.1 = (j : Int) ∧ Ext w2 W ∧ (x0, x1, x2, x3, x4, x5, x6, x7, x8, x9, x10, x11, x12, x13, x14, x15, ()) ∉ sl.take j) (fun st _ => (sw.len - st.1).toNat) ⟨0, by omega, rfl, Ext.refl _, by simp⟩ ?_
  rintro ⟨i, ⟨⟩⟩ W ⟨j, hj, hi, hx, hm⟩ next hnext
  simp only at hi
  subst hi
  have raW := ra.ext hx
  simp -zeta only [Ld_eq, List.getElem?_cons_zero, List.getElem?_cons_succ, LdV_some, dec_slice, add_mk, Nat.zero_add, Nat.add_zero, raW.cell]
  by_cases hlt : (j : Int) < (sw.len : Int)
  · rw [decide_eq_true hlt, cond_true]
    have dW := hx.trans (Ext.drew W)
    have raD := ra.ext dW
    have rbD := rb.ext dW
    have hyj := List.getElem?_eq_getElem (show j < sl.length by omega)
    generalize sl[j] = y at hyj
    simp -zeta only [List.getElem?_cons_zero, List.getElem?_cons_succ, LdV_some, dec_slice, raD.cell]
    refine SlN_ix e16_len (by omega) (hsw.ext (ee2.trans dW)) (by omega) (by rw [Int.toNat_natCast]; exact hyj) fun a' hc => ?_
    obtain ⟨y0, y1, y2, y3, y4, y5, y6, y7, y8, y9, y10, y11, y12, y13, y14, y15, ⟨⟩⟩ := y
    have c0 : W.drew.cell? (a'.add 0) = some (.int .u8 y0) := hc 0 _ rfl; have c1 : W.drew.cell? (a'.add 1) = some (.int .u8 y1) := hc 1 _ rfl; have c2 : W.drew.cell? (a'.add 2) = some (.int .u8 y2) := hc 2 _ rfl; have c3 : W.drew.cell? (a'.add 3) = some (.int .u8 y3) := hc 3 _ rfl; have c4 : W.drew.cell? (a'.add 4) = some (.int .u8 y4) := hc 4 _ rfl; have c5 : W.drew.cell? (a'.add 5) = some (.int .u8 y5) := hc 5 _ rfl; have c6 : W.drew.cell? (a'.add 6) = some (.int .u8 y6) := hc 6 _ rfl; have c7 : W.drew.cell? (a'.add 7) = some (.int .u8 y7) := hc 7 _ rfl; have c8 : W.drew.cell? (a'.add 8) = some (.int .u8 y8) := hc 8 _ rfl; have c9 : W.drew.cell? (a'.add 9) = some (.int .u8 y9) := hc 9 _ rfl; have c10 : W.drew.cell? (a'.add 10) = some (.int .u8 y10) := hc 10 _ rfl; have c11 : W.drew.cell? (a'.add 11) = some (.int .u8 y11) := hc 11 _ rfl; have c12 : W.drew.cell? (a'.add 12) = some (.int .u8 y12) := hc 12 _ rfl; have c13 : W.drew.cell? (a'.add 13) = some (.int .u8 y13) := hc 13 _ rfl; have c14 : W.drew.cell? (a'.add 14) = some (.int .u8 y14) := hc 14 _ rfl; have c15 : W.drew.cell? (a'.add 15) = some (.int .u8 y15) := hc 15 _ rfl
    simp -zeta only [List.getElem?_cons_zero, List.getElem?_cons_succ, LdV_some, dec_int, c0, c1, c2, c3, c4, c5, c6, c7, c8, c9, c10, c11, c12, c13, c14, c15, rbD.cell]
    rw [eqb16 _ rfl]
    by_cases he : ((y0, y1, y2, y3, y4, y5, y6, y7, y8, y9, y10, y11, y12, y13, y14, y15, ()) : T16) = (x0, x1, x2, x3, x4, x5, x6, x7, x8, x9, x10, x11, x12, x13, x14, x15, ())
    · rw [decide_eq_true he, cond_true]
      exact ⟨.inl ⟨j, rfl, rfl, by rw [hyj, he], hm⟩, ee2.trans dW⟩
    · rw [decide_eq_false he, cond_false, wrap_i64 (by omega) (by omega)]
      refine hnext _ _ ⟨j + 1, by omega, by simp, dW, ?_⟩ (by simp only; omega)
      rw [Gp.Cfg.take_snoc hyj, List.mem_append, List.mem_singleton]
      exact fun h => h.elim hm fun e => he e.symm
  · rw [decide_eq_false hlt, cond_false]
    rw [List.take_of_length_le (by omega)] at hm
    exact ⟨.inr ⟨rfl, rfl, hm⟩, ee2.trans hx⟩

def waitF (n30 n31 n32 n33 proto state : Int) : Int := if proto = 17 then n30 else if proto = 1 then n33 else if proto = 6 then (if state = 3 then n31 else n32) else 0

theorem bt {a b : Int} (h : a = b) : (a == b) = true := by simpa using h
theorem bf {a b : Int} (h : ¬ a = b) : (a == b) = false := by simpa using h

theorem wait_ok {p0 p1 p2 p3 p4 p5 p6 p7 p8 p9 p10 p11 p12 p13 p14 p15 : Int} {sw po : SliceV} {n18 n19 n20 n21 n22 n23 n24 n25 n26 n27 n28 n29 n30 n31 n32 n33 n34 : Int} {st : SliceV} (proto state : Int) (w : World) : c_config_Wait p0 p1 p2 p3 p4 p5 p6 p7 p8 p9 p10 p11 p12 p13 p14 p15 sw po n18 n19 n20 n21 n22 n23 n24 n25 n26 n27 n28 n29 n30 n31 n32 n33 n34 st proto state w fun r w' => r = waitF n30 n31 n32 n33 proto state ∧ Ext w w' := by
  apply ok_config_Wait
  unfold s_config_Wait
  refine Al_e fun a w1 ra ea z1 f1 => ?_
  simp -zeta only [Ld_eq, List.getElem?_cons_zero, List.getElem?_cons_succ, LdV_some, dec_int, add_mk, Nat.zero_add, ra.cell]
  unfold waitF
  by_cases h1 : proto = 17
  · rw [bt h1, cond_true, if_pos h1]; exact ⟨rfl, f1⟩
  rw [bf h1, cond_false, if_neg h1]
  by_cases h2 : proto = 1
  · rw [bt h2, cond_true, if_pos h2]; exact ⟨rfl, f1⟩
  rw [bf h2, cond_false, if_neg h2]
  by_cases h3 : proto = 6
  · rw [bt h3, cond_true, if_pos h3]
    by_cases h4 : state = 3
    · rw [bt h4, cond_true, if_pos h4]; exact ⟨rfl, f1⟩
    · rw [bf h4, cond_false, if_neg h4]; exact ⟨rfl, f1⟩
  · rw [bf h3, cond_false, if_neg h3]; exact ⟨rfl, f1⟩

theorem refwait_ok {p0 p1 p2 p3 p4 p5 p6 p7 p8 p9 p10 p11 p12 p13 p14 p15 : Int} {sw po : SliceV} {n18 n19 n20 n21 n22 n23 n24 n25 n26 n27 n28 n29 n30 n31 n32 n33 n34 : Int} {st : SliceV} (proto state : Int) (w : World) : c_ref20_Wait p0 p1 p2 p3 p4 p5 p6 p7 p8 p9 p10 p11 p12 p13 p14 p15 sw po n18 n19 n20 n21 n22 n23 n24 n25 n26 n27 n28 n29 n30 n31 n32 n33 n34 st proto state w fun r w' => r = waitF n30 n31 n32 n33 proto state ∧ Ext w w' := by
  apply ok_ref20_Wait
  unfold s_ref20_Wait
  refine Al_e fun a w1 ra ea z1 f1 => ?_
  simp only [cond_false, Ld_eq, List.getElem?_cons_zero, List.getElem?_cons_succ, LdV_some, dec_int, add_mk, Nat.zero_add, ra.cell]
  unfold waitF
  by_cases h1 : proto = 17
  · rw [bt h1, cond_true, if_pos h1]; exact ⟨rfl, f1⟩
  rw [bf h1, cond_false, if_neg h1]
  by_cases h2 : proto = 1
  · rw [bt h2, cond_true, if_pos h2]; exact ⟨rfl, f1⟩
  rw [bf h2, cond_false, if_neg h2]
  by_cases h3 : proto = 6
  · rw [bt h3, cond_true, if_pos h3]
    by_cases h4 : state = 3
    · rw [bt h4, cond_true, if_pos h4]; exact ⟨rfl, f1⟩
    · rw [bf h4, cond_false, if_neg h4]; exact ⟨rfl, f1⟩
  · rw [bf h3, cond_false, if_neg h3]; exact ⟨rfl, f1⟩

/-- The words of an ordinary address. -/
def words (n : Nat) : List Int := [8193, 3512, (n : Int), 0, 0, 0, 0, 1]
/-- Its bytes, as far as they are written. -/
def ownI (n j : Nat) : List Int := ((words n).take j).flatMap (fun x => [x / 256, x % 256]) ++ List.replicate (16 - 2 * j) 0
def ownT (n : Nat) : T16 := (32, 1, 13, 184, 0, (n : Int), 0, 0, 0, 0, 0, 0, 0, 0, 0, 1, ())
abbrev cu8 (l : List Int) : List Value := l.map fun x => Value.int .u8 x

theorem cu8_set (l : List Int) (i : Nat) (x : Int) : (cu8 l).set i (.int .u8 x) = cu8 (l.set i x) := by
  unfold cu8; rw [List.map_set]

theorem own_step1 : ∀ (n : Fin 3) (j : Fin 8), ((ownI n j).set (2 * j) (IntKind.u8.wrap (shrI .i64 ((words n).getD j 0) 8))).set (2 * j + 1) (IntKind.u8.wrap ((words n).getD j 0)) = ownI n (j + 1) := by decide
theorem own_step2 : ∀ (n : Fin 3) (j : Fin 8), ((ownI n j).set (2 * j) (IntKind.u8.wrap (IntKind.i64.wrap (Int.tdiv (Int.tmod (IntKind.i64.wrap ((Int.tmod ((words n).getD j 0) 65536) + 65536)) 65536) 256)))).set (2 * j + 1) (IntKind.u8.wrap (Int.tmod (Int.tmod (IntKind.i64.wrap ((Int.tmod ((words n).getD j 0) 65536) + 65536)) 65536) 256)) = ownI n (j + 1) := by decide
theorem own_len : ∀ (n : Fin 3) (j : Fin 9), (ownI n j).length = 16 := by decide
theorem own_end : ∀ (n : Fin 3), cu8 (ownI n 8) = e16 (ownT n) := by
  intro n
  match n with
  | 0 => rfl
  | 1 => rfl
  | 2 => rfl

end Go.Proofs

/- Settings: the bytes of an ordinary address. -/
namespace Go.Proofs
open Gp
set_option maxRecDepth 100000

theorem words_get (n : Nat) : ∀ (j : Nat), j < 8 → (words n)[j]? = some ((words n).getD j 0)
  | 0, _ => rfl
  | 1, _ => rfl
  | 2, _ => rfl
  | 3, _ => rfl
  | 4, _ => rfl
  | 5, _ => rfl
  | 6, _ => rfl
  | 7, _ => rfl
  | j + 8, h => absurd h (by omega)

theorem zero16 : ∀ (n : Fin 3), [Value.int .u8 0, .int .u8 0, .int .u8 0, .int .u8 0, .int .u8 0, .int .u8 0, .int .u8 0, .int .u8 0, .int .u8 0, .int .u8 0, .int .u8 0, .int .u8 0, .int .u8 0, .int .u8 0, .int .u8 0, .int .u8 0] = cu8 (ownI n 0) := fun _ => rfl

theorem own_row {W : World} {b : Nat} (n : Fin 3) (h : Row W b (cu8 (ownI n 8))) : Row W b [.int .u8 32, .int .u8 1, .int .u8 13, .int .u8 184, .int .u8 0, .int .u8 ((n : Nat) : Int), .int .u8 0, .int .u8 0, .int .u8 0, .int .u8 0, .int .u8 0, .int .u8 0, .int .u8 0, .int .u8 0, .int .u8 0, .int .u8 1] := by
  rw [own_end] at h; exact h

theorem cu8_len (l : List Int) : (cu8 l).length = l.length := List.length_map ..

theorem of_ok (n : Fin 3) {w : World} {s : SliceV} (hs : SlN 1 eI w s (words n)) : c_six_Of s w fun r0 r1 r2 r3 r4 r5 r6 r7 r8 r9 r10 r11 r12 r13 r14 r15 w' => ((r0, r1, r2, r3, r4, r5, r6, r7, r8, r9, r10, r11, r12, r13, r14, r15, ()) : T16) = ownT n ∧ Ext w w' := by
  apply ok_six_Of
  unfold s_six_Of
  refine Al_e fun a w1 ra ea z1 f1 => Al_e fun b w2 rb eb z2 f2 => ?_
  have hs0 := hs
  have ra := ra.ext f2
  have hs := hs.ext (f1.trans f2)
  have hlen : s.len = 8 := hs.len
  rw [zero16 n] at rb
  intro J6
  have hJ : ∀ W, Row W b (cu8 (ownI n 8)) → Fr8 w2 W (· = b) → J6 W := by
    intro W rW fW
    have rW := own_row n rW
    have raW := ra.fr fW (by omega)
    simp only [J6, Ld_eq, List.getElem?_cons_zero, List.getElem?_cons_succ, LdV_some, dec_int, add_mk, Nat.zero_add, Nat.add_zero, rW.cell]
    refine StN_full raW rfl rfl fun w5 r5 f5 z5 => ?_
    simp only [List.getElem?_cons_zero, List.getElem?_cons_succ, LdV_some, dec_int, r5.cell]
    exact ⟨rfl, (f1.trans f2).new (S := fun x => x = b ∨ x = a) ((fW.mono fun _ => Or.inl).trans (f5 _ (.inr rfl)) fun _ _ e => e) (by intro x hx h; rcases h with rfl | rfl <;> omega)⟩
  clear_value J6
  refine LoopP_inv (fun st W => ∃ j : Nat, j ≤ 8 ∧ st.1 = (j : Int) ∧ Row W b (cu8 (ownI n j)) ∧ Fr8 w2 W (· = b)) (fun st _ => (8 - st.1).toNat) ⟨0, by omega, rfl, rb, Fr8.refl _ _⟩ ?_
  rintro ⟨i, ⟨⟩⟩ W ⟨j, hj, hi, rW, fW⟩ next hnext
  simp only at hi
  subst hi
  by_cases hlt : (j : Int) < (s.len : Int)
  · rw [decide_eq_true hlt, cond_true]
    have hj8 : j < 8 := by omega
    have hget := words_get n j hj8
    have hsW : SlN 1 eI W s (words n) := hs.fr fW (fun c hc _ e => by
      have := SlN_lt eI_len (by omega) hs0 hc (by show 0 < 8; omega)
      omega)
    refine SlN_ix eI_len (by omega) hsW (by omega) (by rw [Int.toNat_natCast]; exact hget) fun a' hc => ?_
    have hc0 := hc 0 _ rfl
    rw [show a'.add 0 = a' from rfl] at hc0
    have h8 : ¬ ((j : Nat) : Int) = 8 := by omega
    have hl16 := own_len n ⟨j, by omega⟩
    have hst := own_step1 n ⟨j, hj8⟩
    simp only at hl16 hst
    have e2j : IntKind.i64.wrap (2 * (j : Int)) = ((2 * j : Nat) : Int) := by rw [wrap_i64 (by omega) (by omega)]; omega
    simp only [cond_false, Ld_eq, LdV_some, dec_int, add_mk, Nat.zero_add, hc0, bf h8, e2j]
    rw [wrap_i64 (n := ((2 * j : Nat) : Int) + 1) (by omega) (by omega), show ((2 * j : Nat) : Int) + 1 = ((2 * j + 1 : Nat) : Int) by omega]
    simp only [Int.toNat_natCast, Nat.mul_one]
    refine ⟨by omega, by omega, by omega, St_row rW rfl (by rw [cu8_len, hl16]; omega) fun w5 r5 f5 z5 => ?_⟩
    rw [cu8_set] at r5
    refine ⟨by omega, by omega, St_row r5 rfl (by rw [cu8_len, List.length_set, hl16]; omega) fun w6 r6 f6 z6 => ?_⟩
    rw [cu8_set, hst] at r6
    rw [wrap_i64 (by omega) (by omega)]
    refine hnext _ _ ⟨j + 1, by omega, by simp, r6, (fW.trans (f5 (· = b) rfl) fun _ _ e => e).trans (f6 (· = b) rfl) fun _ _ e => e⟩ (by simp only; omega)
  · rw [decide_eq_false hlt, cond_false]
    have : j = 8 := by omega
    subst this
    exact hJ _ rW fW

theorem refof_ok (n : Fin 3) {w : World} {s : SliceV} (hs : SlN 1 eI w s (words n)) : c_ref04_Of s w fun r0 r1 r2 r3 r4 r5 r6 r7 r8 r9 r10 r11 r12 r13 r14 r15 w' => ((r0, r1, r2, r3, r4, r5, r6, r7, r8, r9, r10, r11, r12, r13, r14, r15, ()) : T16) = ownT n ∧ Ext w w' := by
  apply ok_ref04_Of
  unfold s_ref04_Of
  refine Al_e fun a w1 ra ea z1 f1 => Al_e fun b w2 rb eb z2 f2 => ?_
  have hs0 := hs
  have ra := ra.ext f2
  have hs := hs.ext (f1.trans f2)
  have hlen : s.len = 8 := hs.len
  rw [zero16 n] at rb
  refine LoopP_inv (fun st W => ∃ j : Nat, j ≤ 8 ∧ st.1 = (j : Int) ∧ Row W b (cu8 (ownI n j)) ∧ Fr8 w2 W (· = b)) (fun st _ => (8 - st.1).toNat) ⟨0, by omega, rfl, rb, Fr8.refl _ _⟩ ?_
  rintro ⟨i, ⟨⟩⟩ W ⟨j, hj, hi, rW, fW⟩ next hnext
  simp only at hi
  subst hi
  simp -zeta only []
  intro J9
  by_cases hlt : (j : Int) < (s.len : Int)
  · have hj8 : j < 8 := by omega
    rw [decide_eq_true hlt, cond_true, decide_eq_true (show (j : Int) < 8 by omega)]
    simp only [J9]
    rw [cond_true]
    have hget := words_get n j hj8
    have hsW : SlN 1 eI W s (words n) := hs.fr fW (fun c hc _ e => by
      have := SlN_lt eI_len (by omega) hs0 hc (by show 0 < 8; omega)
      omega)
    refine SlN_ix eI_len (by omega) hsW (by omega) (by rw [Int.toNat_natCast]; exact hget) fun a' hc => ?_
    have hc0 := hc 0 _ rfl
    rw [show a'.add 0 = a' from rfl] at hc0
    have hl16 := own_len n ⟨j, by omega⟩
    have hst := own_step2 n ⟨j, hj8⟩
    simp only at hl16 hst
    have e2j : IntKind.i64.wrap (2 * (j : Int)) = ((2 * j : Nat) : Int) := by rw [wrap_i64 (by omega) (by omega)]; omega
    simp only [Ld_eq, LdV_some, dec_int, add_mk, Nat.zero_add, hc0, e2j]
    rw [wrap_i64 (n := ((2 * j : Nat) : Int) + 1) (by omega) (by omega), show ((2 * j : Nat) : Int) + 1 = ((2 * j + 1 : Nat) : Int) by omega]
    simp only [Int.toNat_natCast, Nat.mul_one]
    refine ⟨by decide, by decide, by decide, by decide, by omega, by omega, St_row rW rfl (by rw [cu8_len, hl16]; omega) fun w5 r5 f5 z5 => ?_⟩
    rw [cu8_set] at r5
    refine ⟨by omega, by omega, St_row r5 rfl (by rw [cu8_len, List.length_set, hl16]; omega) fun w6 r6 f6 z6 => ?_⟩
    rw [cu8_set, hst] at r6
    rw [wrap_i64 (by omega) (by omega)]
    refine hnext _ _ ⟨j + 1, by omega, by simp, r6, (fW.trans (f5 (· = b) rfl) fun _ _ e => e).trans (f6 (· = b) rfl) fun _ _ e => e⟩ (by simp only; omega)
  · rw [decide_eq_false hlt, cond_false]
    have : j = 8 := by omega
    subst this
    simp only [J9]
    rw [cond_false]
    have rW := own_row n rW
    have raW := ra.fr fW (by omega)
    simp only [Ld_eq, List.getElem?_cons_zero, List.getElem?_cons_succ, LdV_some, dec_int, add_mk, Nat.zero_add, Nat.add_zero, rW.cell]
    refine StN_full raW rfl rfl fun w5 r5 f5 z5 => ?_
    simp only [List.getElem?_cons_zero, List.getElem?_cons_succ, LdV_some, dec_int, r5.cell]
    exact ⟨rfl, (f1.trans f2).new (S := fun x => x = b ∨ x = a) ((fW.mono fun _ => Or.inl).trans (f5 _ (.inr rfl)) fun _ _ e => e) (by intro x hx h; rcases h with rfl | rfl <;> omega)⟩

end Go.Proofs

/- Settings: the ordinary ones. -/
namespace Go.Proofs
open Gp
set_option maxRecDepth 100000

theorem tuple16 {r0 r1 r2 r3 r4 r5 r6 r7 r8 r9 r10 r11 r12 r13 r14 r15 : Int} {n : Nat} {z : Int} (hz : (n : Int) = z) (h : ((r0, r1, r2, r3, r4, r5, r6, r7, r8, r9, r10, r11, r12, r13, r14, r15, ()) : T16) = ownT n) : r0 = 32 ∧ r1 = 1 ∧ r2 = 13 ∧ r3 = 184 ∧ r4 = 0 ∧ r5 = z ∧ r6 = 0 ∧ r7 = 0 ∧ r8 = 0 ∧ r9 = 0 ∧ r10 = 0 ∧ r11 = 0 ∧ r12 = 0 ∧ r13 = 0 ∧ r14 = 0 ∧ r15 = 1 := by
  subst hz
  simp only [ownT, Prod.mk.injEq, and_true] at h
  exact h

theorem s0l {w : World} {b : Nat} {l : List Value} {n : Nat} (_ : Row w b l) (h : l.length = n) : l.length = n := h

theorem own_call (n : Fin 3) {z : Int} (hz : ((n : Nat) : Int) = z) {w : World} {K : Value → World → Prop} (hK : ∀ w', Ext w w' → K (.agg ⟨[.int .u8 32, .int .u8 1, .int .u8 13, .int .u8 184, .int .u8 0, .int .u8 z, .int .u8 0, .int .u8 0, .int .u8 0, .int .u8 0, .int .u8 0, .int .u8 0, .int .u8 0, .int .u8 0, .int .u8 0, .int .u8 1]⟩) w') :
    CallV Try.prog [.agg [(.int .u8), (.int .u8), (.int .u8), (.int .u8), (.int .u8), (.int .u8), (.int .u8), (.int .u8), (.int .u8), (.int .u8), (.int .u8), (.int .u8), (.int .u8), (.int .u8), (.int .u8), (.int .u8)]] (Value.func (.func 45) #[] #[]) [(Value.int .i64 z)] w K := by
  subst hz
  refine callV_fn (by kernel_rfl) ?_
  refine Calls.mono (ok_config_Base_1 (w := w) (a0 := ((n : Nat) : Int)) (K := fun r0 r1 r2 r3 r4 r5 r6 r7 r8 r9 r10 r11 r12 r13 r14 r15 w' => ((r0, r1, r2, r3, r4, r5, r6, r7, r8, r9, r10, r11, r12, r13, r14, r15, ()) : T16) = ownT n ∧ Ext w w') ?_) ?_
  · unfold s_config_Base_1
    refine Al_e fun a w1 ra ea z1 f1 => Al_e fun b w2 rb eb z2 f2 => ?_
    have hb : SlN 1 eI w2 ⟨some ⟨b, 0, none⟩, 8, 8⟩ (words n) := (BufN.row (xs := words n) (f := eI) (n := 1) rb).sl eI_len (by omega)
    refine cm_six_Of (of_ok n hb) ?_
    rintro r0 r1 r2 r3 r4 r5 r6 r7 r8 r9 r10 r11 r12 r13 r14 r15 w3 ⟨hr, f3⟩
    have ra := (ra.ext f2).ext f3
    refine StN_full ra rfl rfl fun w5 r5 f5 z5 => ?_
    simp only [Ld_eq, List.getElem?_cons_zero, List.getElem?_cons_succ, LdV_some, dec_int, add_mk, Nat.zero_add, Nat.add_zero, r5.cell]
    exact ⟨hr, ((f1.trans f2).trans f3).new (f5 (· = a) rfl) (by intro x hx h; omega)⟩
  · rintro e W' ⟨r0, r1, r2, r3, r4, r5, r6, r7, r8, r9, r10, r11, r12, r13, r14, r15, he, h, hf⟩
    refine ⟨r0, r1, r2, r3, r4, r5, r6, r7, r8, r9, r10, r11, r12, r13, r14, r15, he, ?_⟩
    have hK := hK W' hf
    obtain ⟨rfl, rfl, rfl, rfl, rfl, rfl, rfl, rfl, rfl, rfl, rfl, rfl, rfl, rfl, rfl, rfl⟩ := tuple16 rfl h
    exact hK

/-- Where the lists of ordinary settings lie. -/
structure BaseR (w w' : World) (bs bp : Nat) : Prop where
  rs : Row w' bs (.int .u8 32 :: .int .u8 1 :: .int .u8 13 :: .int .u8 184 :: .int .u8 0 :: .int .u8 1 :: .int .u8 0 :: .int .u8 0 :: .int .u8 0 :: .int .u8 0 :: .int .u8 0 :: .int .u8 0 :: .int .u8 0 :: .int .u8 0 :: .int .u8 0 :: .int .u8 1 :: .int .u8 32 :: .int .u8 1 :: .int .u8 13 :: .int .u8 184 :: .int .u8 0 :: .int .u8 2 :: .int .u8 0 :: .int .u8 0 :: .int .u8 0 :: .int .u8 0 :: .int .u8 0 :: .int .u8 0 :: .int .u8 0 :: .int .u8 0 :: .int .u8 0 :: .int .u8 1 :: [])
  rp : Row w' bp [.int .i64 3325256705]
  hs : w.heap.size ≤ bs
  hp : w.heap.size ≤ bp
  ne : bs ≠ bp
  ext : Ext w w'

abbrev BaseK (w w' : World) (p0 p1 p2 p3 p4 p5 p6 p7 p8 p9 p10 p11 p12 p13 p14 p15 : Int) (sw po : SliceV) (n18 n19 n20 n21 n22 n23 n24 n25 n26 n27 n28 n29 n30 n31 n32 n33 n34 : Int) (st : SliceV) : Prop := ∃ bs bp, BaseR w w' bs bp ∧ p0 = 32 ∧ p1 = 1 ∧ p2 = 13 ∧ p3 = 184 ∧ p4 = 0 ∧ p5 = 0 ∧ p6 = 0 ∧ p7 = 0 ∧ p8 = 0 ∧ p9 = 0 ∧ p10 = 0 ∧ p11 = 0 ∧ p12 = 0 ∧ p13 = 0 ∧ p14 = 0 ∧ p15 = 1 ∧ sw = ⟨some ⟨bs, 0, none⟩, 2, 2⟩ ∧ po = ⟨some ⟨bp, 0, none⟩, 1, 1⟩ ∧ n18 = 1024 ∧ n19 = 65535 ∧ n20 = 16 ∧ n21 = 64 ∧ n22 = 128 ∧ n23 = 8 ∧ n24 = 1048576 ∧ n25 = 1500 ∧ n26 = 1500 ∧ n27 = 64 ∧ n28 = 0 ∧ n29 = 2 ∧ n30 = 300 ∧ n31 = 7440 ∧ n32 = 240 ∧ n33 = 60 ∧ n34 = 60 ∧ st = ⟨none, 0, 0⟩

set_option maxHeartbeats 4000000 in
theorem base_ok (w : World) : c_config_Base w fun p0 p1 p2 p3 p4 p5 p6 p7 p8 p9 p10 p11 p12 p13 p14 p15 sw po n18 n19 n20 n21 n22 n23 n24 n25 n26 n27 n28 n29 n30 n31 n32 n33 n34 st w' => BaseK w w' p0 p1 p2 p3 p4 p5 p6 p7 p8 p9 p10 p11 p12 p13 p14 p15 sw po n18 n19 n20 n21 n22 n23 n24 n25 n26 n27 n28 n29 n30 n31 n32 n33 n34 st := by
  apply ok_config_Base
  unfold s_config_Base
  refine Al_e fun a w1 ra ea z1 f1 => ?_
  refine own_call 0 rfl fun w2 f2 => ⟨32, 1, 13, 184, 0, 0, 0, 0, 0, 0, 0, 0, 0, 0, 0, 1, rfl, ?_⟩
  refine own_call 1 rfl fun w3 f3 => ⟨32, 1, 13, 184, 0, 1, 0, 0, 0, 0, 0, 0, 0, 0, 0, 1, rfl, ?_⟩
  refine own_call 2 rfl fun w4 f4 => ⟨32, 1, 13, 184, 0, 2, 0, 0, 0, 0, 0, 0, 0, 0, 0, 1, rfl, ?_⟩
  refine Al_e fun bs w5 rs es z5 f5 => Al_e fun bp w6 rp ep z6 f6 => Al_e fun c w7 rc ec z7 f7 => ?_
  have g2 := f2.size; have g3 := f3.size; have g4 := f4.size
  refine StN_full rc rfl rfl fun v0 s0 t0 y0 => ?_
  have l0 : List.length _ = 36 := s0l s0 rfl
  simp only [add_mk, Nat.zero_add]
  refine St_row s0 rfl (by (try simp only [List.length_set]); exact Nat.lt_of_lt_of_eq (by decide) l0.symm) fun v1 s1 t1 y1 => ?_
  refine St_row s1 rfl (by (try simp only [List.length_set]); exact Nat.lt_of_lt_of_eq (by decide) l0.symm) fun v2 s2 t2 y2 => ?_
  refine St_row s2 rfl (by (try simp only [List.length_set]); exact Nat.lt_of_lt_of_eq (by decide) l0.symm) fun v3 s3 t3 y3 => ?_
  refine St_row s3 rfl (by (try simp only [List.length_set]); exact Nat.lt_of_lt_of_eq (by decide) l0.symm) fun v4 s4 t4 y4 => ?_
  refine St_row s4 rfl (by (try simp only [List.length_set]); exact Nat.lt_of_lt_of_eq (by decide) l0.symm) fun v5 s5 t5 y5 => ?_
  refine St_row s5 rfl (by (try simp only [List.length_set]); exact Nat.lt_of_lt_of_eq (by decide) l0.symm) fun v6 s6 t6 y6 => ?_
  refine St_row s6 rfl (by (try simp only [List.length_set]); exact Nat.lt_of_lt_of_eq (by decide) l0.symm) fun v7 s7 t7 y7 => ?_
  refine St_row s7 rfl (by (try simp only [List.length_set]); exact Nat.lt_of_lt_of_eq (by decide) l0.symm) fun v8 s8 t8 y8 => ?_
  refine St_row s8 rfl (by (try simp only [List.length_set]); exact Nat.lt_of_lt_of_eq (by decide) l0.symm) fun v9 s9 t9 y9 => ?_
  refine St_row s9 rfl (by (try simp only [List.length_set]); exact Nat.lt_of_lt_of_eq (by decide) l0.symm) fun v10 s10 t10 y10 => ?_
  refine St_row s10 rfl (by (try simp only [List.length_set]); exact Nat.lt_of_lt_of_eq (by decide) l0.symm) fun v11 s11 t11 y11 => ?_
  refine St_row s11 rfl (by (try simp only [List.length_set]); exact Nat.lt_of_lt_of_eq (by decide) l0.symm) fun v12 s12 t12 y12 => ?_
  refine St_row s12 rfl (by (try simp only [List.length_set]); exact Nat.lt_of_lt_of_eq (by decide) l0.symm) fun v13 s13 t13 y13 => ?_
  refine St_row s13 rfl (by (try simp only [List.length_set]); exact Nat.lt_of_lt_of_eq (by decide) l0.symm) fun v14 s14 t14 y14 => ?_
  refine St_row s14 rfl (by (try simp only [List.length_set]); exact Nat.lt_of_lt_of_eq (by decide) l0.symm) fun v15 s15 t15 y15 => ?_
  refine St_row s15 rfl (by (try simp only [List.length_set]); exact Nat.lt_of_lt_of_eq (by decide) l0.symm) fun v16 s16 t16 y16 => ?_
  simp only [List.set_cons_succ, List.set_cons_zero] at s16
  have sN : Row v16 c (.int .u8 32 :: .int .u8 1 :: .int .u8 13 :: .int .u8 184 :: .int .u8 0 :: .int .u8 0 :: .int .u8 0 :: .int .u8 0 :: .int .u8 0 :: .int .u8 0 :: .int .u8 0 :: .int .u8 0 :: .int .u8 0 :: .int .u8 0 :: .int .u8 0 :: .int .u8 1 :: .slice (some ⟨bs, 0, none⟩) 2 2 :: .slice (some ⟨bp, 0, none⟩) 1 1 :: .int .i64 1024 :: .int .i64 65535 :: .int .i64 16 :: .int .i64 64 :: .int .i64 128 :: .int .i64 8 :: .int .i64 1048576 :: .int .i64 1500 :: .int .i64 1500 :: .int .i64 64 :: .int .i64 0 :: .int .i64 2 :: .int .i64 300 :: .int .i64 7440 :: .int .i64 240 :: .int .i64 60 :: .int .i64 60 :: .slice none 0 0 :: []) := s16
  have tN : ∀ S : Nat → Prop, S c → Fr8 w7 v16 S := fun S h => Fr8.trans (Fr8.trans (Fr8.trans (Fr8.trans (Fr8.trans (Fr8.trans (Fr8.trans (Fr8.trans (Fr8.trans (Fr8.trans (Fr8.trans (Fr8.trans (Fr8.trans (Fr8.trans (Fr8.trans (Fr8.trans (t0 S h) (t1 S h) (fun _ _ e => e)) (t2 S h) (fun _ _ e => e)) (t3 S h) (fun _ _ e => e)) (t4 S h) (fun _ _ e => e)) (t5 S h) (fun _ _ e => e)) (t6 S h) (fun _ _ e => e)) (t7 S h) (fun _ _ e => e)) (t8 S h) (fun _ _ e => e)) (t9 S h) (fun _ _ e => e)) (t10 S h) (fun _ _ e => e)) (t11 S h) (fun _ _ e => e)) (t12 S h) (fun _ _ e => e)) (t13 S h) (fun _ _ e => e)) (t14 S h) (fun _ _ e => e)) (t15 S h) (fun _ _ e => e)) (t16 S h) (fun _ _ e => e)
  have yN : v16.heap.size = w7.heap.size := by rw [y16, y15, y14, y13, y12, y11, y10, y9, y8, y7, y6, y5, y4, y3, y2, y1, y0]
  clear s1 s2 s3 s4 s5 s6 s7 s8 s9 s10 s11 s12 s13 s14 s15 s16
  simp only [Ld_eq, List.getElem?_cons_zero, List.getElem?_cons_succ, LdV_some, dec_slice, dec_int, sN.cell]
  have ra : Row v16 a _ := (((((((ra.ext f2).ext f3).ext f4).ext f5).ext f6).ext f7).fr (tN (· = c) rfl) (by omega))
  refine StN_full ra rfl rfl fun u r t y => ?_
  simp only [List.getElem?_cons_zero, List.getElem?_cons_succ, LdV_some, dec_slice, dec_int, r.cell]
  have rs : Row u bs _ := (((rs.ext f6).ext f7).fr (tN (· = c) rfl) (by omega)).fr (t (· = a) rfl) (by omega)
  have rp : Row u bp _ := ((rp.ext f7).fr (tN (· = c) rfl) (by omega)).fr (t (· = a) rfl) (by omega)
  have fe := (((((f1.trans f2).trans f3).trans f4).trans f5).trans f6).trans f7
  have fz : Ext w u := fe.new (S := fun x => x = c ∨ x = a) ((tN (fun x => x = c ∨ x = a) (.inl rfl)).trans (t (fun x => x = c ∨ x = a) (.inr rfl)) fun _ _ e => e) (by intro x hx h; rcases h with rfl | rfl <;> omega)
  exact ⟨bs, bp, ⟨rs, rp, by omega, by omega, by omega, fz⟩, rfl, rfl, rfl, rfl, rfl, rfl, rfl, rfl, rfl, rfl, rfl, rfl, rfl, rfl, rfl, rfl, rfl, rfl, rfl, rfl, rfl, rfl, rfl, rfl, rfl, rfl, rfl, rfl, rfl, rfl, rfl, rfl, rfl, rfl, rfl, rfl⟩

set_option maxHeartbeats 4000000 in
theorem refbase_ok (w : World) : c_ref20_Base w fun p0 p1 p2 p3 p4 p5 p6 p7 p8 p9 p10 p11 p12 p13 p14 p15 sw po n18 n19 n20 n21 n22 n23 n24 n25 n26 n27 n28 n29 n30 n31 n32 n33 n34 st w' => BaseK w w' p0 p1 p2 p3 p4 p5 p6 p7 p8 p9 p10 p11 p12 p13 p14 p15 sw po n18 n19 n20 n21 n22 n23 n24 n25 n26 n27 n28 n29 n30 n31 n32 n33 n34 st := by
  apply ok_ref20_Base
  unfold s_ref20_Base
  refine Al_e fun a w1 ra ea z1 f1 => ?_
  refine Al_e fun b0 v0 rb0 eb0 y0 g0 => ?_
  have hb0 : SlN 1 eI v0 ⟨some ⟨b0, 0, none⟩, 8, 8⟩ (words 0) := (BufN.row (xs := words 0) (f := eI) (n := 1) rb0).sl eI_len (by omega)
  refine cm_ref04_Of (refof_ok 0 hb0) ?_
  rintro q0 q1 q2 q3 q4 q5 q6 q7 q8 q9 q10 q11 q12 q13 q14 q15 u0 ⟨hq, h0⟩
  obtain ⟨rfl, rfl, rfl, rfl, rfl, rfl, rfl, rfl, rfl, rfl, rfl, rfl, rfl, rfl, rfl, rfl⟩ := tuple16 (z := 0) rfl hq
  refine Al_e fun b1 v1 rb1 eb1 y1 g1 => ?_
  have hb1 : SlN 1 eI v1 ⟨some ⟨b1, 0, none⟩, 8, 8⟩ (words 1) := (BufN.row (xs := words 1) (f := eI) (n := 1) rb1).sl eI_len (by omega)
  refine cm_ref04_Of (refof_ok 1 hb1) ?_
  rintro q0 q1 q2 q3 q4 q5 q6 q7 q8 q9 q10 q11 q12 q13 q14 q15 u1 ⟨hq, h1⟩
  obtain ⟨rfl, rfl, rfl, rfl, rfl, rfl, rfl, rfl, rfl, rfl, rfl, rfl, rfl, rfl, rfl, rfl⟩ := tuple16 (z := 1) rfl hq
  refine Al_e fun b2 v2 rb2 eb2 y2 g2 => ?_
  have hb2 : SlN 1 eI v2 ⟨some ⟨b2, 0, none⟩, 8, 8⟩ (words 2) := (BufN.row (xs := words 2) (f := eI) (n := 1) rb2).sl eI_len (by omega)
  refine cm_ref04_Of (refof_ok 2 hb2) ?_
  rintro q0 q1 q2 q3 q4 q5 q6 q7 q8 q9 q10 q11 q12 q13 q14 q15 u2 ⟨hq, h2⟩
  obtain ⟨rfl, rfl, rfl, rfl, rfl, rfl, rfl, rfl, rfl, rfl, rfl, rfl, rfl, rfl, rfl, rfl⟩ := tuple16 (z := 2) rfl hq
  have g0' := h0.size; have g1' := h1.size; have g2' := h2.size
  refine Al_e fun bs w5 rs es z5 f5 => Al_e fun bp w6 rp ep z6 f6 => ?_
  have fa := (((((g0.trans h0).trans g1).trans h1).trans g2).trans h2)
  have ra := (((ra.ext fa).ext f5).ext f6)
  refine StN_full ra rfl rfl fun u r t y => ?_
  have r : Row u a (.int .u8 32 :: .int .u8 1 :: .int .u8 13 :: .int .u8 184 :: .int .u8 0 :: .int .u8 0 :: .int .u8 0 :: .int .u8 0 :: .int .u8 0 :: .int .u8 0 :: .int .u8 0 :: .int .u8 0 :: .int .u8 0 :: .int .u8 0 :: .int .u8 0 :: .int .u8 1 :: .slice (some ⟨bs, 0, none⟩) 2 2 :: .slice (some ⟨bp, 0, none⟩) 1 1 :: .int .i64 1024 :: .int .i64 65535 :: .int .i64 16 :: .int .i64 64 :: .int .i64 128 :: .int .i64 8 :: .int .i64 1048576 :: .int .i64 1500 :: .int .i64 1500 :: .int .i64 64 :: .int .i64 0 :: .int .i64 2 :: .int .i64 300 :: .int .i64 7440 :: .int .i64 240 :: .int .i64 60 :: .int .i64 60 :: .slice none 0 0 :: []) := r
  simp only [Ld_eq, List.getElem?_cons_zero, List.getElem?_cons_succ, LdV_some, dec_slice, dec_int, add_mk, Nat.zero_add, Nat.add_zero, r.cell]
  have rs : Row u bs _ := (rs.ext f6).fr (t (· = a) rfl) (by omega)
  have rp : Row u bp _ := rp.fr (t (· = a) rfl) (by omega)
  have fz : Ext w u := (((f1.trans fa).trans f5).trans f6).new (t (· = a) rfl) (by intro x hx h; omega)
  exact ⟨bs, bp, ⟨rs, rp, by omega, by omega, by omega, fz⟩, rfl, rfl, rfl, rfl, rfl, rfl, rfl, rfl, rfl, rfl, rfl, rfl, rfl, rfl, rfl, rfl, rfl, rfl, rfl, rfl, rfl, rfl, rfl, rfl, rfl, rfl, rfl, rfl, rfl, rfl, rfl, rfl, rfl, rfl, rfl, rfl⟩

end Go.Proofs
/- Settings: the laws. -/
namespace Go.Proofs
open Gp
set_option maxRecDepth 100000

theorem base_good : OkP (ownT 0) ((2 : Nat) : Int) ((1 : Nat) : Int) ((0 : Nat) : Int) 1024 65535 16 64 128 8 1048576 1500 1500 64 0 2 300 7440 240 60 60 2 [ownT 1, ownT 2] [3325256705] [] := ⟨by decide, by decide, by decide⟩
theorem base_fine : fineP (ownT 0) [ownT 1, ownT 2] [3325256705] [] 2 16 := ⟨by decide, by decide, by decide, by decide, fun k hk => by simp [cnt]⟩

theorem base_zero {r : Int} (h : (¬ OkP (ownT 0) ((2 : Nat) : Int) ((1 : Nat) : Int) ((0 : Nat) : Int) 1024 65535 16 64 128 8 1048576 1500 1500 64 0 2 300 7440 240 60 60 2 [ownT 1, ownT 2] [3325256705] [] ∧ r = 1) ∨
      (OkP (ownT 0) ((2 : Nat) : Int) ((1 : Nat) : Int) ((0 : Nat) : Int) 1024 65535 16 64 128 8 1048576 1500 1500 64 0 2 300 7440 240 60 60 2 [ownT 1, ownT 2] [3325256705] [] ∧ ((¬ fineP (ownT 0) [ownT 1, ownT 2] [3325256705] [] 2 16 ∧ r = 9) ∨ (fineP (ownT 0) [ownT 1, ownT 2] [3325256705] [] 2 16 ∧ r = 0)))) : r = 0 := by
  rcases h with ⟨h, _⟩ | ⟨_, ⟨h, _⟩ | ⟨_, h⟩⟩
  · exact absurd base_good h
  · exact absurd base_fine h
  · exact h

theorem BaseR.sl {w w' : World} {bs bp : Nat} (h : BaseR w w' bs bp) : SlN 16 e16 w' ⟨some ⟨bs, 0, none⟩, 2, 2⟩ [ownT 1, ownT 2] := (BufN.row (xs := [ownT 1, ownT 2]) (f := e16) (n := 16) h.rs).sl e16_len (by omega)
theorem BaseR.pl {w w' : World} {bs bp : Nat} (h : BaseR w w' bs bp) : SlN 1 eI w' ⟨some ⟨bp, 0, none⟩, 1, 1⟩ [3325256705] := (BufN.row (xs := [(3325256705 : Int)]) (f := eI) (n := 1) h.rp).sl eI_len (by omega)

theorem awake20_ok (w : World) : c_law20_awake w fun r w' => r = true ∧ Ext w w' := by
  apply ok_law20_awake
  unfold s_law20_awake
  refine cm_config_Base (base_ok w) ?_
  rintro _ _ _ _ _ _ _ _ _ _ _ _ _ _ _ _ _ _ _ _ _ _ _ _ _ _ _ _ _ _ _ _ _ _ _ _ w1 ⟨bs, bp, hR, rfl, rfl, rfl, rfl, rfl, rfl, rfl, rfl, rfl, rfl, rfl, rfl, rfl, rfl, rfl, rfl, rfl, rfl, rfl, rfl, rfl, rfl, rfl, rfl, rfl, rfl, rfl, rfl, rfl, rfl, rfl, rfl, rfl, rfl, rfl, rfl⟩
  refine Al_e fun a w2 ra ea z2 f2 => ?_
  refine StN_full ra rfl rfl fun w3 r3 f3 z3 => ?_
  have g3 : Ext w1 w3 := f2.new (f3 (· = a) rfl) (by intro x hx h; omega)
  simp -zeta only [Ld_eq, List.getElem?_cons_zero, List.getElem?_cons_succ, LdV_some, dec_slice, add_mk, Nat.zero_add, Nat.add_zero, r3.cell]
  rw [show (((2 : Nat) : Int) != 2) = false from rfl, cond_false]
  have r3 := r3.drew
  have gD : Ext w1 w3.drew := g3.trans (Ext.drew _)
  have hs := hR.sl.ext gD
  have hp := hR.pl.ext gD
  simp -zeta only [List.getElem?_cons_zero, List.getElem?_cons_succ, LdV_some, dec_slice, dec_int, AtIx_some, add_mk, Nat.zero_add, Nat.add_zero, r3.cell]
  have hrs := hR.rs.ext gD
  refine ⟨by decide, by decide, ?_⟩
  simp -zeta only [show Int.toNat 1 * 16 = 16 from rfl, Nat.reduceAdd, List.getElem?_cons_zero, List.getElem?_cons_succ, LdV_some, dec_int, hrs.cell]
  refine cm_config_Softwire (softwire_ok hs (by simp only; omega)) ?_
  rintro i ok w4 ⟨h4, f4⟩
  have hsw : swP [ownT 1, ownT 2] (ownT 2) 1 true := .inl ⟨1, rfl, rfl, rfl, by decide⟩
  obtain ⟨rfl, rfl⟩ := swP_one h4 hsw
  have r4 := r3.ext f4
  have hs := hs.ext f4
  have hp := hp.ext f4
  intro J
  simp -zeta only [cond_true, List.getElem?_cons_zero, List.getElem?_cons_succ, LdV_some, dec_slice, dec_int, r4.cell]
  refine cm_config_Check (check_ok hs hp SlN.nil (by simp only; omega) (by simp only; omega) (by simp only; omega)) ?_
  rintro r w5 ⟨h5, f5⟩
  obtain rfl := base_zero h5
  have r5 := r4.ext f5
  rw [bt rfl, cond_true, bt rfl, cond_true]
  simp -zeta only [List.getElem?_cons_zero, List.getElem?_cons_succ, LdV_some, dec_slice, dec_int, r5.cell]
  refine cm_config_Wait (wait_ok 6 3 w5) ?_
  rintro v w6 ⟨rfl, f6⟩
  exact ⟨by decide, (((hR.ext.trans gD).trans f4).trans f5).trans f6⟩

theorem checks_ok {w : World} {p0 p1 p2 p3 p4 p5 p6 p7 p8 p9 p10 p11 p12 p13 p14 p15 : Int} {sw po : SliceV} {n18 n19 n20 n21 n22 n23 n24 n25 n26 n27 n28 n29 n30 n31 n32 n33 n34 : Int} {st : SliceV} {x0 x1 x2 x3 x4 x5 x6 x7 x8 x9 x10 x11 x12 x13 x14 x15 : Int} {sl : List T16} {pl : List Int} {tl : List T7} (hsw : SlN 16 e16 w sw sl) (hpo : SlN 1 eI w po pl) (hst : SlN 7 e7 w st tl) (proto state : Int) :
    c_law20_ConfigChecks p0 p1 p2 p3 p4 p5 p6 p7 p8 p9 p10 p11 p12 p13 p14 p15 sw po n18 n19 n20 n21 n22 n23 n24 n25 n26 n27 n28 n29 n30 n31 n32 n33 n34 st x0 x1 x2 x3 x4 x5 x6 x7 x8 x9 x10 x11 x12 x13 x14 x15 proto state w fun r w' => r = true ∧ Ext w w' := by
  apply ok_law20_ConfigChecks
  unfold s_law20_ConfigChecks
  refine Al_e fun a w1 ra ea z1 f1 => Al_e fun b w2 rb eb z2 f2 => ?_
  have ra := ra.ext f2
  have f := f1.trans f2
  have hsw := hsw.ext f
  have hpo := hpo.ext f
  have hst := hst.ext f
  intro J
  have hT : J true := by
    simp only [J]
    rw [cond_true]
    refine cm_law20_awake (awake20_ok _) ?_
    rintro r w' ⟨rfl, g⟩
    exact ⟨rfl, f.trans g⟩
  by_cases hb : (sw.len : Int) > 200 ∨ (po.len : Int) > 200 ∨ (st.len : Int) > 200
  · clear_value J
    simp only [Ld_eq, List.getElem?_cons_zero, List.getElem?_cons_succ, LdV_some, dec_slice, add_mk, Nat.zero_add, ra.cell]
    by_cases h1 : (sw.len : Int) > 200
    · rw [decide_eq_true h1, cond_true]; exact hT
    rw [decide_eq_false h1, cond_false]
    by_cases h2 : (po.len : Int) > 200
    · rw [decide_eq_true h2, cond_true]; exact hT
    rw [decide_eq_false h2, cond_false]
    have h3 : (st.len : Int) > 200 := by omega
    rw [decide_eq_true h3]; exact hT
  have hF : J false := by
    clear hT
    simp -zeta only [J]
    rw [cond_false]
    simp -zeta only [Ld_eq, List.getElem?_cons_zero, List.getElem?_cons_succ, LdV_some, dec_slice, dec_int, add_mk, Nat.zero_add, Nat.add_zero, ra.cell, rb.cell]
    refine cm_config_Softwire (softwire_ok hsw (by simp only; omega)) ?_
    rintro i ok w3 ⟨h3, f3⟩
    have ra := ra.ext f3
    have rb := rb.ext f3
    have hsw := hsw.ext f3
    have hpo := hpo.ext f3
    have hst := hst.ext f3
    simp -zeta only [List.getElem?_cons_zero, List.getElem?_cons_succ, LdV_some, dec_slice, dec_int, ra.cell, rb.cell]
    refine cm_ref20_Softwire (refsoftwire_ok hsw (by simp only; omega)) ?_
    rintro k is w4 ⟨h4, f4⟩
    have d4 := f4.trans (Ext.drew w4)
    have ra := ra.ext d4
    have hsw := hsw.ext d4
    have hpo := hpo.ext d4
    have hst := hst.ext d4
    intro J2
    simp -zeta only [List.getElem?_cons_zero, List.getElem?_cons_succ, LdV_some, dec_slice, dec_int, ra.cell]
    refine cm_config_Check (check_ok hsw hpo hst (by simp only; omega) (by simp only; omega) (by simp only; omega)) ?_
    rintro r w5 ⟨h5, f5⟩
    have ra := ra.ext f5
    have hsw := hsw.ext f5
    have hpo := hpo.ext f5
    have hst := hst.ext f5
    simp -zeta only [List.getElem?_cons_zero, List.getElem?_cons_succ, ra.cell, true_and]
    refine cm_ref20_Check (refcheck_ok hsw hpo hst (by simp only; omega) (by simp only; omega) (by simp only; omega)) ?_
    rintro r' w6 ⟨h6, f6⟩
    obtain ⟨e1, e2⟩ := swP_one h3 h4
    have e3 : r = r' := chk_one h5 h6
    subst e1 e2 e3
    have ra := ra.ext f6
    rw [bt rfl, cond_true, bt rfl, cond_true, show (ok == ok) = true by simp, cond_true]
    simp -zeta only [List.getElem?_cons_zero, List.getElem?_cons_succ, LdV_some, dec_slice, dec_int, ra.cell]
    refine cm_config_Wait (wait_ok proto state w6) ?_
    rintro v w7 ⟨e7, f7⟩
    have ra := ra.ext f7
    simp -zeta only [List.getElem?_cons_zero, List.getElem?_cons_succ, ra.cell, true_and]
    refine cm_ref20_Wait (refwait_ok proto state w7) ?_
    rintro v' w8 ⟨rfl, f8⟩
    rw [bt e7, cond_true]
    refine cm_law20_awake (awake20_ok _) ?_
    rintro r w' ⟨rfl, g⟩
    exact ⟨rfl, (((((((f.trans f3).trans d4).trans f5).trans f6).trans f7).trans f8).trans g)⟩
  clear_value J
  simp only [Ld_eq, List.getElem?_cons_zero, List.getElem?_cons_succ, LdV_some, dec_slice, add_mk, Nat.zero_add, ra.cell]
  rw [decide_eq_false (show ¬ (sw.len : Int) > 200 by omega), decide_eq_false (show ¬ (po.len : Int) > 200 by omega), decide_eq_false (show ¬ (st.len : Int) > 200 by omega), cond_false, cond_false]
  exact hF

theorem waits_ok {w : World} {p0 p1 p2 p3 p4 p5 p6 p7 p8 p9 p10 p11 p12 p13 p14 p15 : Int} {sw po : SliceV} {n18 n19 n20 n21 n22 n23 n24 n25 n26 n27 n28 n29 n30 n31 n32 n33 n34 : Int} {st : SliceV} {sl : List T16} {pl : List Int} {tl : List T7} (hsw : SlN 16 e16 w sw sl) (hpo : SlN 1 eI w po pl) (hst : SlN 7 e7 w st tl) (state : Int) :
    c_law20_ConfigWaits p0 p1 p2 p3 p4 p5 p6 p7 p8 p9 p10 p11 p12 p13 p14 p15 sw po n18 n19 n20 n21 n22 n23 n24 n25 n26 n27 n28 n29 n30 n31 n32 n33 n34 st state w fun r w' => r = true ∧ Ext w w' := by
  apply ok_law20_ConfigWaits
  unfold s_law20_ConfigWaits
  refine Al_e fun a w1 ra ea z1 f1 => ?_
  have hsw := hsw.ext f1
  have hpo := hpo.ext f1
  have hst := hst.ext f1
  intro J
  have hT : ∀ W, Ext w W → J true W := by
    intro W f
    simp only [J]
    rw [cond_true]
    refine cm_law20_awake (awake20_ok _) ?_
    rintro r w' ⟨rfl, g⟩
    exact ⟨rfl, f.trans g⟩
  have hF : ∀ W, Row W a (.int .u8 p0 :: .int .u8 p1 :: .int .u8 p2 :: .int .u8 p3 :: .int .u8 p4 :: .int .u8 p5 :: .int .u8 p6 :: .int .u8 p7 :: .int .u8 p8 :: .int .u8 p9 :: .int .u8 p10 :: .int .u8 p11 :: .int .u8 p12 :: .int .u8 p13 :: .int .u8 p14 :: .int .u8 p15 :: .slice sw.a sw.len sw.cap :: .slice po.a po.len po.cap :: .int .i64 n18 :: .int .i64 n19 :: .int .i64 n20 :: .int .i64 n21 :: .int .i64 n22 :: .int .i64 n23 :: .int .i64 n24 :: .int .i64 n25 :: .int .i64 n26 :: .int .i64 n27 :: .int .i64 n28 :: .int .i64 n29 :: .int .i64 n30 :: .int .i64 n31 :: .int .i64 n32 :: .int .i64 n33 :: .int .i64 n34 :: .slice st.a st.len st.cap :: []) → Ext w W → 120 ≤ n30 → 7440 ≤ n31 → 240 ≤ n32 → 60 ≤ n33 → J false W := by
    intro W ra f m1 m2 m3 m4
    clear hT
    simp -zeta only [J]
    rw [cond_false]
    intro J2
    simp -zeta only [Ld_eq, List.getElem?_cons_zero, List.getElem?_cons_succ, LdV_some, dec_slice, dec_int, add_mk, Nat.zero_add, Nat.add_zero, ra.cell]
    refine cm_config_Wait (wait_ok 17 state W) ?_
    rintro v w3 ⟨e3, f3⟩
    have ra := ra.ext f3
    rw [decide_eq_true (show v ≥ 120 by rw [e3]; exact m1), cond_true]
    simp -zeta only [List.getElem?_cons_zero, List.getElem?_cons_succ, LdV_some, dec_slice, dec_int, ra.cell]
    refine cm_config_Wait (wait_ok 6 3 w3) ?_
    rintro v w4 ⟨e4, f4⟩
    have ra := ra.ext f4
    rw [decide_eq_true (show v ≥ 7440 by rw [e4]; exact m2), cond_true]
    simp -zeta only [List.getElem?_cons_zero, List.getElem?_cons_succ, LdV_some, dec_slice, dec_int, ra.cell]
    refine cm_config_Wait (wait_ok 6 state w4) ?_
    rintro v w5 ⟨e5, f5⟩
    have ra := ra.ext f5
    rw [decide_eq_true (show v ≥ 240 by rw [e5]; show (240 : Int) ≤ if state = 3 then n31 else n32; split <;> omega), cond_true]
    simp -zeta only [List.getElem?_cons_zero, List.getElem?_cons_succ, LdV_some, dec_slice, dec_int, ra.cell]
    refine cm_config_Wait (wait_ok 1 state w5) ?_
    rintro v w6 ⟨e6, f6⟩
    rw [decide_eq_true (show v ≥ 60 by rw [e6]; exact m4), cond_true]
    refine cm_law20_awake (awake20_ok _) ?_
    rintro r w' ⟨rfl, g⟩
    exact ⟨rfl, ((((f.trans f3).trans f4).trans f5).trans f6).trans g⟩
  clear_value J
  simp -zeta only [Ld_eq, List.getElem?_cons_zero, List.getElem?_cons_succ, LdV_some, dec_slice, dec_int, add_mk, Nat.zero_add, Nat.add_zero, ra.cell]
  by_cases h1 : (sw.len : Int) > 200
  · rw [decide_eq_true h1, cond_true]; exact hT _ f1
  rw [decide_eq_false h1, cond_false]
  by_cases h2 : (po.len : Int) > 200
  · rw [decide_eq_true h2, cond_true]; exact hT _ f1
  rw [decide_eq_false h2, cond_false]
  by_cases h3 : (st.len : Int) > 200
  · rw [decide_eq_true h3, cond_true]; exact hT _ f1
  rw [decide_eq_false h3, cond_false]
  refine cm_config_Check (check_ok hsw hpo hst (by simp only; omega) (by simp only; omega) (by simp only; omega)) ?_
  rintro r w5 ⟨h5, f5⟩
  rcases h5 with ⟨_, rfl⟩ | ⟨hok, ⟨_, rfl⟩ | ⟨_, rfl⟩⟩
  · exact hT _ (f1.trans f5)
  · exact hT _ (f1.trans f5)
  · have hn := hok.nums
    have k1 : okB (n30, 120, 1048576, ()) := hn _ (by simp [bnds])
    have k2 : okB (n31, 7440, 1048576, ()) := hn _ (by simp [bnds])
    have k3 : okB (n32, 240, 1048576, ()) := hn _ (by simp [bnds])
    have k4 : okB (n33, 60, 1048576, ()) := hn _ (by simp [bnds])
    exact hF _ (ra.ext f5) (f1.trans f5) k1.1 k2.1 k3.1 k4.1

end Go.Proofs

/- Settings: the ordinary ones are what the document says, each time new. -/
namespace Go.Proofs
open Gp
set_option maxRecDepth 100000

set_option maxHeartbeats 4000000 in
theorem baselaw_ok (w : World) {x0 x1 x2 x3 x4 x5 x6 x7 x8 x9 x10 x11 x12 x13 x14 x15 : Int} {n : Int} : c_law20_ConfigBase x0 x1 x2 x3 x4 x5 x6 x7 x8 x9 x10 x11 x12 x13 x14 x15 n w fun r w' => r = true ∧ Ext w w' := by
  apply ok_law20_ConfigBase
  unfold s_law20_ConfigBase
  refine Al_e fun a w1 ra ea z1 f1 => ?_
  refine cm_config_Base (base_ok w1) ?_
  rintro _ _ _ _ _ _ _ _ _ _ _ _ _ _ _ _ _ _ _ _ _ _ _ _ _ _ _ _ _ _ _ _ _ _ _ _ w2 ⟨bs, bp, hR, rfl, rfl, rfl, rfl, rfl, rfl, rfl, rfl, rfl, rfl, rfl, rfl, rfl, rfl, rfl, rfl, rfl, rfl, rfl, rfl, rfl, rfl, rfl, rfl, rfl, rfl, rfl, rfl, rfl, rfl, rfl, rfl, rfl, rfl, rfl, rfl⟩
  refine Al_e fun b w3 rb eb z3 f3 => ?_
  refine StN_full rb rfl rfl fun w4 r4 f4 z4 => ?_
  have g4 : Ext w2 w4 := f3.new (f4 (· = b) rfl) (by intro x hx h; omega)
  have l1 := hR.hs
  have l2 := hR.hp
  have l3 := hR.rs.lt
  have l4 := hR.rp.lt
  have l5 := hR.ne
  intro J
  have hF : J false := by
    simp -zeta only [J]
    rw [cond_false]
    have gD : Ext w2 w4.drew := g4.trans (Ext.drew _)
    have r4 := r4.drew
    have ra := (ra.ext hR.ext).ext gD
    have hs := hR.rs.ext gD
    have hp := hR.rp.ext gD
    simp -zeta only [Ld_eq, List.getElem?_cons_zero, List.getElem?_cons_succ, LdV_some, dec_slice, dec_int, AtIx_some, add_mk, Nat.zero_add, Nat.add_zero, r4.cell, ra.cell]
    refine ⟨by decide, by decide, ?_⟩
    refine StN_row _ _ _ _ 0 hs (fun v hv => List.all_eq_true.1 (show List.all _ isOne = true from rfl) v hv) (by simp only [List.length_cons, List.length_nil]; decide) fun w5 r5 f5 z5 => ?_
    have r4 := r4.fr (f5 (· = bs) rfl) (by omega)
    have hp := hp.fr (f5 (· = bs) rfl) (by omega)
    simp -zeta only [List.getElem?_cons_zero, List.getElem?_cons_succ, r4.cell, true_and]
    refine ⟨by decide, by decide, ?_⟩
    refine St_row hp rfl (by decide) fun w6 r6 f6 z6 => ?_
    have g6 : Ext w w6 := ((f1.trans hR.ext).trans gD).new (S := fun x => x = bs ∨ x = bp) ((f5 _ (.inl rfl)).trans (f6 _ (.inr rfl)) fun _ _ e => e) (by intro x hx h; rcases h with rfl | rfl <;> omega)
    clear r6 hp r4 hs ra r5 f6 f5 gD
    refine cm_config_Base (base_ok w6) ?_
    rintro _ _ _ _ _ _ _ _ _ _ _ _ _ _ _ _ _ _ _ _ _ _ _ _ _ _ _ _ _ _ _ _ _ _ _ _ w7 ⟨cs, cp, hC, rfl, rfl, rfl, rfl, rfl, rfl, rfl, rfl, rfl, rfl, rfl, rfl, rfl, rfl, rfl, rfl, rfl, rfl, rfl, rfl, rfl, rfl, rfl, rfl, rfl, rfl, rfl, rfl, rfl, rfl, rfl, rfl, rfl, rfl, rfl, rfl⟩
    refine cm_ref20_Base (refbase_ok w7) ?_
    rintro _ _ _ _ _ _ _ _ _ _ _ _ _ _ _ _ _ _ _ _ _ _ _ _ _ _ _ _ _ _ _ _ _ _ _ _ w8 ⟨ds, dp, hD, rfl, rfl, rfl, rfl, rfl, rfl, rfl, rfl, rfl, rfl, rfl, rfl, rfl, rfl, rfl, rfl, rfl, rfl, rfl, rfl, rfl, rfl, rfl, rfl, rfl, rfl, rfl, rfl, rfl, rfl, rfl, rfl, rfl, rfl, rfl, rfl⟩
    refine Al_e fun c w9 rc ec z9 f9 => Al_e fun d w10 rd ed z10 f10 => ?_
    refine StN_full (rc.ext f10) rfl rfl fun w11 rc f11 z11 => ?_
    refine StN_full (rd.fr (f11 (· = c) rfl) (by omega)) rfl rfl fun w12 rd f12 z12 => ?_
    have rc := rc.fr (f12 (· = d) rfl) (by omega)
    have g12 : Ext w8 w12 := (f9.trans f10).new (S := fun x => x = c ∨ x = d) ((f11 _ (.inl rfl)).trans (f12 _ (.inr rfl)) fun _ _ e => e) (by intro x hx h; rcases h with rfl | rfl <;> omega)
    have e12 : Ext w w12.drew := (((g6.trans hC.ext).trans hD.ext).trans g12).trans (Ext.drew _)
    have hcs := (hC.sl.ext hD.ext).ext (g12.trans (Ext.drew _))
    have hcp := (hC.pl.ext hD.ext).ext (g12.trans (Ext.drew _))
    have rcs := (hC.rs.ext hD.ext).ext (g12.trans (Ext.drew _))
    have rcp := (hC.rp.ext hD.ext).ext (g12.trans (Ext.drew _))
    have rds := hD.rs.ext (g12.trans (Ext.drew _))
    have rdp := hD.rp.ext (g12.trans (Ext.drew _))
    have rcD := rc.drew
    have rdD := rd.drew
    intro J2
    have h2 : J2 false := by
      simp -zeta only [J2]
      rw [cond_false]
      intro J3
      have h3 : J3 true w12.drew := by
        simp -zeta only [J3]
        refine JoinP.of fun J4 hJ4 => ?_
        simp -zeta only [cond_true, List.getElem?_cons_zero, List.getElem?_cons_succ, LdV_some, dec_int, add_mk, Nat.zero_add, rcD.cell, rdD.cell, beq_self_eq_true]
        refine hJ4 _ ?_
        dsimp -zeta only
        intro J5
        have h5 : J5 true := by
          simp -zeta only [J5]
          refine JoinP.of fun J6 hJ6 => ?_
          simp -zeta only [cond_true, List.getElem?_cons_zero, List.getElem?_cons_succ, LdV_some, dec_slice, dec_int, add_mk, Nat.zero_add, Nat.add_zero, rcD.cell, rdD.cell, beq_self_eq_true]
          refine cm_config_Check (check_ok hcs hcp SlN.nil (by simp only; omega) (by simp only; omega) (by simp only; omega)) ?_
          rintro r w13 ⟨h13, f13⟩
          obtain rfl := base_zero h13
          rw [bt rfl, cond_true]
          refine cm_law20_awake (awake20_ok _) ?_
          rintro r w' ⟨rfl, g⟩
          exact hJ6 _ ⟨rfl, (e12.trans f13).trans g⟩
        clear_value J5
        simp -zeta only [cond_true, List.getElem?_cons_zero, List.getElem?_cons_succ, LdV_some, dec_int, add_mk, Nat.zero_add, rcD.cell, rdD.cell, beq_self_eq_true]
        exact h5
      clear_value J3
      simp -zeta only [cond_true, List.getElem?_cons_zero, List.getElem?_cons_succ, LdV_some, dec_slice, dec_int, AtIx_some, add_mk, Nat.zero_add, Nat.add_zero, rcD.cell, rdD.cell, beq_self_eq_true, Bool.and_self, show Int.toNat 0 * 16 = 0 from rfl, show Int.toNat 1 * 16 = 16 from rfl, show Int.toNat 0 * 1 = 0 from rfl, Nat.reduceAdd, rcs.cell, rds.cell, rcp.cell, rdp.cell]
      repeat (refine ⟨by decide, by decide, ?_⟩)
      exact h3
    clear_value J2
    simp -zeta only [List.getElem?_cons_zero, List.getElem?_cons_succ, LdV_some, dec_slice, add_mk, Nat.zero_add, rc.cell]
    exact h2
  clear_value J
  simp -zeta only [Ld_eq, List.getElem?_cons_zero, List.getElem?_cons_succ, LdV_some, dec_slice, add_mk, Nat.zero_add, r4.cell]
  rw [show (((2 : Nat) : Int) != 2) = false from rfl, cond_false]
  exact hF

end Go.Proofs
