import Derived.Test.YtcnkafgimclghaaHL3
/- The document's table: entries in the order of their keys. -/
namespace Go.Proofs
open Gp Gp.Hash
set_option maxRecDepth 100000

def eR (x : KN) : List Value := [.string x.1, .int .i64 x.2]
theorem eR_len (x : KN) : (eR x).length = 2 := rfl
theorem eR_one (x : KN) : ∀ v ∈ eR x, isOne v = true := by
  intro v hv
  simp only [eR, List.mem_cons, List.not_mem_nil, or_false] at hv
  rcases hv with rfl | rfl <;> rfl

/-- The document's table in memory. -/
structure RT (w : World) (x : Nat) (s : SliceV) (most : Int) (L : List KN) : Prop where
  hd : Row w x [.slice s.a s.len s.cap, .int .i64 most]
  buf : BufN 2 eR w s L
  ne : ¬ SliceV.at s x

section
variable {w w' : World} {x : Nat} {s : SliceV} {most : Int} {L : List KN} {M : ByteArray → Option Int}

theorem RT.fr {F : Nat → Prop} (h : RT w x s most L) (hf : Fr8 w w' F) (h1 : ¬ F x) (h2 : ∀ b, SliceV.at s b → ¬ F b) : RT w' x s most L :=
  ⟨h.hd.fr hf h1, h.buf.fr hf h2, h.ne⟩
theorem RT.ext (h : RT w x s most L) (hf : Ext w w') : RT w' x s most L := h.fr (hf fun _ => False) (by simp) (fun _ _ => by simp)

theorem RT.cells (h : RT w x s most L) {i : Nat} {y : KN} (hi : L[i]? = some y) : ∃ a, s.a = some a ∧ ∀ j v, (eR y)[j]? = some v → w.cell? (a.add (i * 2 + j)) = some v :=
  (h.buf.sl eR_len (by omega)).at_ eR_len (by omega) hi

theorem strEq_dec (a b : ByteArray) : strEq a b = decide (a = b) := by
  by_cases h : a = b
  · rw [decide_eq_true h, strEq_iff.2 h]
  · rw [decide_eq_false h]
    cases hc : strEq a b with
    | false => rfl
    | true => exact absurd (strEq_iff.1 hc) h

theorem rnew18_ok (n : Int) (w : World) : c_ref18_New n w fun p e w' => Ext w w' ∧ ((¬ (0 ≤ n ∧ n ≤ 65536) ∧ p = none ∧ e = 1) ∨ (0 ≤ n ∧ n ≤ 65536 ∧ e = 0 ∧ ∃ x, p = some ⟨x, 0, none⟩ ∧ w.heap.size ≤ x ∧ RT w' x ⟨none, 0, 0⟩ n [])) := by
  apply ok_ref18_New
  unfold s_ref18_New
  by_cases c1 : n < 0
  · simp only [c1, decide_true, cond_true]
    exact ⟨Ext.refl _, .inl ⟨by omega, by trivial, by trivial⟩⟩
  by_cases c2 : n > 65536
  · simp only [c1, c2, decide_true, decide_false, cond_true, cond_false]
    exact ⟨Ext.refl _, .inl ⟨by omega, by trivial, by trivial⟩⟩
  simp only [c1, c2, decide_false, cond_false]
  refine Al_e fun x w1 r1 e1 z1 f1 => ⟨f1, .inr ⟨by omega, by omega, by trivial, x, rfl, by omega, ⟨r1, BufN.nil, ?_⟩⟩⟩
  rintro ⟨o, h⟩; cases h

theorem rget18_ok (h : RT w x s most L) (hr : Rep L M) (hl : L.length ≤ 1000) (k : ByteArray) :
    c_ref18_Table_Get (some ⟨x, 0, none⟩) k w fun n t w' => t = (M k).isSome ∧ n = (M k).getD 0 ∧ w' = w := by
  apply ok_ref18_Table_Get
  unfold s_ref18_Table_Get
  have hlen := h.buf.len
  refine LoopP_inv (fun st W => W = w ∧ ∃ i : Nat, i ≤ L.length ∧ st.1 = (i : Int) ∧ ∀ y ∈ L.take i, y.1 ≠ k) (fun st _ => L.length - st.1.toNat) ⟨rfl, 0, by omega, rfl, by simp⟩ ?_
  rintro ⟨j, ⟨⟩⟩ W ⟨rfl, i, hi, rfl, hp⟩ next hnext
  simp only [ex_some, Ld_eq, List.getElem?_cons_zero, LdV_some, dec_slice, h.hd.cell]
  by_cases hlt : i < L.length
  · have hlt' : ((i : Int) < (s.len : Int)) := by omega
    have hL : L[i]? = some L[i] := List.getElem?_eq_getElem hlt
    have htk : L.take (i + 1) = L.take i ++ [L[i]] := List.take_succ_eq_append_getElem hlt
    generalize L[i] = y at hL htk
    obtain ⟨aa, ha, hc⟩ := h.cells hL
    have k0 := hc 0 _ rfl
    have k1 := hc 1 _ rfl
    rw [Nat.add_zero] at k0
    simp only [hlt', decide_true, cond_true, ex_some, LdV_some, dec_str, AtIx, ha, Int.toNat_natCast, k0]
    refine ⟨by first | trivial | omega, by first | trivial | omega, ?_⟩
    by_cases hq : y.1 = k
    · rw [strEq_dec, decide_eq_true hq, cond_true]
      simp only [LdV_some, dec_int, addr_add2, k1]
      have hm : M k = some y.2 := (hr.mem k y.2).1 (by rw [← hq]; exact List.mem_of_getElem? hL)
      refine ⟨by first | trivial | omega, by first | trivial | omega, ?_, ?_, ?_⟩
      · rw [hm]; rfl
      · rw [hm]; rfl
      · trivial
    · rw [strEq_dec, decide_eq_false hq, cond_false]
      rw [wrap_i64 (by omega) (by omega)]
      refine hnext _ _ ⟨rfl, i + 1, by omega, by simp, fun z hz => ?_⟩ (by simp only; omega)
      rw [htk] at hz
      rcases List.mem_append.1 hz with hz | hz
      · exact hp z hz
      · have : z = y := by simpa using hz
        rw [this]; exact hq
  · have hlt' : ¬ ((i : Int) < (s.len : Int)) := by omega
    rw [List.take_of_length_le (by omega)] at hp
    have hm : M k = none := by
      cases hc : M k with
      | none => rfl
      | some n => exact absurd rfl (hp (k, n) ((hr.mem k n).2 hc))
    simp only [hlt', decide_false, cond_false, hm]
    exact ⟨by trivial, by trivial, by trivial⟩

open Classical in
theorem del_eq (L : List KN) (k : ByteArray) : del L k = L.filter fun y => !strEq y.1 k := by
  unfold del
  refine congrArg (fun p => L.filter p) (funext fun y => ?_)
  rw [strEq_dec]
  by_cases h : y.1 = k <;> simp [h]

theorem rdel18_ok (h : RT w x s most L) (hr : Rep L M) (hl : L.length ≤ 1000) (k : ByteArray) :
    c_ref18_Table_Delete (some ⟨x, 0, none⟩) k w fun r w' => r = (M k).isSome ∧ Fr8 w w' (· = x) ∧ ∃ s', RT w' x s' most (del L k) ∧ ∀ b, SliceV.at s' b → w.heap.size ≤ b := by
  apply ok_ref18_Table_Delete
  unfold s_ref18_Table_Delete
  have hlen := h.buf.len
  have hxl := h.hd.lt
  rw [del_eq]
  refine LoopP_inv (fun st W => ∃ i : Nat, i ≤ L.length ∧ st.2.1 = (i : Int) ∧ Ext w W ∧ BufN 2 eR W st.1 ((L.take i).filter fun y => !strEq y.1 k) ∧ ∀ b, SliceV.at st.1 b → w.heap.size ≤ b) (fun st _ => L.length - st.2.1.toNat) ⟨0, by omega, rfl, Ext.refl _, BufN.nil, by rintro b ⟨o, h⟩; cases h⟩ ?_
  rintro ⟨t, j, ⟨⟩⟩ W ⟨i, hi, rfl, hx, hb, hn⟩ next hnext
  have hW := h.ext hx
  have hb : BufN 2 eR W t ((L.take i).filter fun y => !strEq y.1 k) := hb
  have hn : ∀ b, SliceV.at t b → w.heap.size ≤ b := hn
  simp only [ex_some, Ld_eq, List.getElem?_cons_zero, LdV_some, dec_slice, hW.hd.cell]
  by_cases hlt : i < L.length
  · have hlt' : ((i : Int) < (s.len : Int)) := by omega
    have hL : L[i]? = some L[i] := List.getElem?_eq_getElem hlt
    have htk : L.take (i + 1) = L.take i ++ [L[i]] := List.take_succ_eq_append_getElem hlt
    generalize L[i] = y at hL htk
    obtain ⟨aa, ha, hc⟩ := hW.cells hL
    have k0 := hc 0 _ rfl
    have k1 := hc 1 _ rfl
    rw [Nat.add_zero] at k0
    simp only [hlt', decide_true, cond_true, ex_some, LdV_some, dec_str, AtIx, ha, Int.toNat_natCast, k0]
    refine ⟨by first | trivial | omega, by first | trivial | omega, ?_⟩
    cases hq : (!strEq y.1 k) with
    | true =>
      simp only [cond_true, LdV_some, dec_int, dec_str, Nat.add_zero, addr_add2, k0, k1]
      refine ⟨by first | trivial | omega, by first | trivial | omega, Al_e fun p w3 r3 e3 z3 f3 => ?_⟩
      have hel : SlN 2 eR w3 ⟨some ⟨p, 0, none⟩, 1, 1⟩ [y] := (BufN.row (xs := [y]) (by simpa [eR] using r3)).sl eR_len (by omega)
      have hfl : ((L.take i).filter fun y => !strEq y.1 k).length ≤ L.length := by
        refine Nat.le_trans (List.length_filter_le _ _) ?_
        rw [List.length_take]; omega
      refine AppSl_bufN eR_len (hb.ext f3) hel rfl (by omega) eR_one (by simp only [List.length_singleton]; omega) (by simp only [List.length_singleton]; omega) fun t4 w4 b4 f4 n4 => ?_
      rw [wrap_i64 (by omega) (by omega)]
      have z1 := hx.size
      refine hnext _ _ ⟨i + 1, by omega, by simp, (hx.trans f3).new f4 fun z hz hzz => by have := hn z hzz; omega, ?_, fun b hb' => ?_⟩ (by simp only; omega)
      · rw [htk, List.filter_append, List.filter_cons_of_pos (p := fun y : KN => !strEq y.1 k) (a := y) hq]; exact b4
      · rcases n4 b hb' with h4 | h4
        · exact hn b h4
        · omega
    | false =>
      simp only [cond_false]
      rw [wrap_i64 (by omega) (by omega)]
      refine hnext _ _ ⟨i + 1, by omega, by simp, hx, ?_, hn⟩ (by simp only; omega)
      rw [htk, List.filter_append, List.filter_cons_of_neg (p := fun y : KN => !strEq y.1 k) (a := y) (by rw [hq]; simp)]
      simpa using hb
  · have hlt' : ¬ ((i : Int) < (s.len : Int)) := by omega
    simp only [hlt', decide_false, cond_false]
    rw [List.take_of_length_le (by omega)] at hb
    refine St_row hW.hd rfl (by simp) fun w3 r3 f3 z3 => ?_
    simp only [List.set_cons_zero] at r3
    have f3x := f3 (· = x) rfl
    have hnx : ¬ SliceV.at t x := fun hh => by have := hn x hh; omega
    have hfl := List.length_filter_le (fun y : KN => !strEq y.1 k) L
    refine ⟨?_, (hx _).trans f3x fun z _ hz => hz, t, ⟨r3, hb.fr f3x fun z hz e => hnx (e ▸ hz), hnx⟩, hn⟩
    rw [hb.len, hlen]
    cases hm : M k with
    | none =>
      have : (L.filter fun y => !strEq y.1 k) = L := List.filter_eq_self.2 fun y hy => by
        have hne : y.1 ≠ k := fun e => by
          have := (hr.mem y.1 y.2).1 hy
          rw [e, hm] at this; cases this
        rw [strEq_dec, decide_eq_false hne]; rfl
      rw [this]; simp
    | some n =>
      have hy := (hr.mem k n).2 hm
      have : (L.filter fun y => !strEq y.1 k).length < L.length := by
        rcases Nat.lt_or_ge (L.filter fun y => !strEq y.1 k).length L.length with h1 | h1
        · exact h1
        · have h2 := List.filter_eq_self.1 ((List.filter_sublist (p := fun y : KN => !strEq y.1 k) (l := L)).eq_of_length_le h1) (k, n) hy
          rw [strEq_iff.2 rfl] at h2; cases h2
      simp only [Option.isSome_some]
      exact decide_eq_true (by omega)

theorem takeWhile_snoc {α : Type} {p : α → Bool} {L : List α} {i : Nat} (hi : i < L.length) (h : ∀ y ∈ L.take i, p y = true) (hp : p L[i] = false) : L.takeWhile p = L.take i ∧ L.dropWhile p = L.drop i := by
  have e : L = L.take i ++ L.drop i := (List.take_append_drop i L).symm
  have hd : L.drop i = L[i] :: L.drop (i + 1) := List.drop_eq_getElem_cons hi
  constructor
  · conv => lhs; rw [e]
    rw [List.takeWhile_append_of_pos h, hd, List.takeWhile_cons_of_neg (by rw [hp]; simp), List.append_nil]
  · conv => lhs; rw [e]
    rw [List.dropWhile_append_of_pos h, hd, List.dropWhile_cons_of_neg (by rw [hp]; simp)]

theorem takeWhile_all {α : Type} {p : α → Bool} {L : List α} (h : ∀ y ∈ L, p y = true) : L.takeWhile p = L.take L.length ∧ L.dropWhile p = L.drop L.length := by
  rw [List.take_length, List.drop_length]
  have h1 := List.takeWhile_append_of_pos (l₂ := []) h
  have h2 := List.dropWhile_append_of_pos (l₂ := []) h
  rw [List.append_nil] at h1 h2
  simp at h1 h2
  exact ⟨by simpa using h1, by simpa using h2⟩

end
end Go.Proofs
