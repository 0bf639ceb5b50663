import Derived.Test.YtgnlnicmgnkliaaBind3
/- The document's bindings. -/
namespace Go.Proofs
open Gp Gp.Hash
open Gp.Bind (Bnd Slots live GoodB freeN getS In64)
set_option maxRecDepth 100000

def rcell (x : Int × Bnd) : List Value := [.int .i64 x.1, .int .i64 x.2.sw, .int .i64 x.2.pr, .int .i64 x.2.ad, .int .i64 x.2.po, .int .i64 x.2.opr, .int .i64 x.2.oad, .int .i64 x.2.opo, .bool x.2.st]
theorem rcell_len (x : Int × Bnd) : (rcell x).length = 9 := rfl
theorem rcell_one (x : Int × Bnd) : ∀ v ∈ rcell x, isOne v = true := by
  intro v hv
  simp only [rcell, List.mem_cons, List.not_mem_nil, or_false] at hv
  rcases hv with rfl | rfl | rfl | rfl | rfl | rfl | rfl | rfl | rfl <;> rfl

/-- The document's bindings in memory. -/
structure RF (w : World) (x : Nat) (s : SliceV) (most : Int) (L : List (Int × Bnd)) : Prop where
  hd : Row w x [.slice s.a s.len s.cap, .int .i64 most]
  buf : BufN 9 rcell w s L
  ne : ¬ SliceV.at s x
  len : L.length ≤ 5000

def fpR (x : Nat) (s : SliceV) (b : Nat) : Prop := b = x ∨ SliceV.at s b

section
variable {w w' : World} {x : Nat} {s : SliceV} {most : Int} {L : List (Int × Bnd)}

theorem RF.fr {F : Nat → Prop} (h : RF w x s most L) (hf : Fr8 w w' F) (hs : ∀ b, fpR x s b → ¬ F b) : RF w' x s most L :=
  ⟨h.hd.fr hf (hs _ (.inl rfl)), h.buf.fr hf fun b hb => hs b (.inr hb), h.ne, h.len⟩
theorem RF.ext (h : RF w x s most L) (hf : Ext w w') : RF w' x s most L := h.fr (hf fun _ => False) (fun _ _ => by simp)

theorem RF.cells (h : RF w x s most L) {i : Nat} {y : Int × Bnd} (hi : L[i]? = some y) : ∃ a, s.a = some a ∧ ∀ j v, (rcell y)[j]? = some v → w.cell? (a.add (i * 9 + j)) = some v :=
  (h.buf.sl rcell_len (by omega)).at_ rcell_len (by omega) hi

theorem find_snoc {α : Type} {p : α → Bool} {L : List α} {i : Nat} (hi : i < L.length) (h : (L.take i).find? p = none) : (p L[i] = true → L.find? p = some L[i]) ∧ (p L[i] = false → (L.take (i + 1)).find? p = none) := by
  have e : L = L.take i ++ L[i] :: L.drop (i + 1) := by
    conv => lhs; rw [← List.take_append_drop i L, List.drop_eq_getElem_cons hi]
  constructor
  · intro hp
    conv => lhs; rw [e]
    rw [List.find?_append, h, List.find?_cons_of_pos hp]; rfl
  · intro hp
    rw [List.take_succ_eq_append_getElem hi, List.find?_append, h, List.find?_cons_of_neg (by simp [hp])]; rfl

theorem ibeq (a b : Int) : (a == b) = decide (a = b) := rfl
theorem tup4 (a b c d a' b' c' d' : Int) : ((a == a') && ((b == b') && ((c == c') && ((d == d') && true)))) = decide ([a, b, c, d] = [a', b', c', d']) := by
  simp [ibeq, Bool.decide_and]
theorem tup3 (a b c a' b' c' : Int) : ((a == a') && ((b == b') && ((c == c') && true))) = decide ([a, b, c] = [a', b', c']) := by
  simp [ibeq, Bool.decide_and]

theorem rfind_ok (h : RF w x s most L) (a b c d : Int) : c_ref22_DB_Find (some ⟨x, 0, none⟩) a b c d w fun n t w' => t = (L.find? fun y => decide (y.2.i = [a, b, c, d])).isSome ∧ n = ((L.find? fun y => decide (y.2.i = [a, b, c, d])).map (·.1)).getD 0 ∧ Ext w w' := by
  apply ok_ref22_DB_Find
  unfold s_ref22_DB_Find
  refine Al_e fun p w1 r1 e1 z1 f1 => ?_
  have hlen := h.buf.len
  have hll := h.len
  refine LoopP_inv (fun st W => ∃ i : Nat, i ≤ L.length ∧ st.1 = (i : Int) ∧ Ext w1 W ∧ (L.take i).find? (fun y => decide (y.2.i = [a, b, c, d])) = none) (fun st _ => L.length - st.1.toNat) ⟨0, by omega, rfl, Ext.refl _, by simp⟩ ?_
  rintro ⟨k, ⟨⟩⟩ W ⟨i, hi, rfl, hx, hp⟩ next hnext
  have hW := (h.ext f1).ext hx
  simp only [ex_some, Ld_eq, List.getElem?_cons_zero, LdV_some, dec_slice, add_mk, Nat.zero_add, Nat.add_zero, hW.hd.cell]
  by_cases hlt : i < L.length
  · have hlt' : ((i : Int) < (s.len : Int)) := by omega
    have hWd := hW.ext (Ext.drew W)
    have hL : L[i]? = some L[i] := List.getElem?_eq_getElem hlt
    obtain ⟨f1', f2'⟩ := find_snoc hlt hp
    generalize L[i] = y at hL f1' f2'
    obtain ⟨aa, ha, hc⟩ := hWd.cells hL
    have k0 := hc 0 _ rfl
    have k1 := hc 1 _ rfl
    have k2 := hc 2 _ rfl
    have k3 := hc 3 _ rfl
    have k4 := hc 4 _ rfl
    rw [Nat.add_zero] at k0
    have ed : ∀ (m : Nat), (aa.add (i * 9)).add m = aa.add (i * 9 + m) := fun m => addr_add2 _ _ _
    have ee : ∀ (m l : Nat), ((aa.add (i * 9)).add m).add l = aa.add (i * 9 + (m + l)) := fun m l => by rw [addr_add2, addr_add2]
    have r1d := (r1.ext hx).drew
    simp only [hlt', decide_true, cond_true, ex_some, List.getElem?_cons_zero, List.getElem?_cons_succ, LdV_some, dec_slice, dec_int, Nat.add_zero, hWd.hd.cell, AtIx, ha, Int.toNat_natCast, addr_add2, Nat.add_assoc, k0, k1, k2, k3, k4, r1d.cell, tup4]
    refine ⟨by first | trivial | omega, by first | trivial | omega, ?_⟩
    by_cases hq : [y.2.sw, y.2.pr, y.2.ad, y.2.po] = [a, b, c, d]
    · have hq' : decide (y.2.i = [a, b, c, d]) = true := decide_eq_true hq
      simp only [hq, decide_true, cond_true]
      refine ⟨by first | trivial | omega, by first | trivial | omega, ?_⟩
      rw [f1' hq']
      exact ⟨rfl, rfl, (f1.trans hx).trans (Ext.drew _)⟩
    · have hq' : decide (y.2.i = [a, b, c, d]) = false := decide_eq_false hq
      simp only [hq, decide_false, cond_false]
      rw [wrap_i64 (by omega) (by omega)]
      exact hnext _ _ ⟨i + 1, by omega, by simp, hx.trans (Ext.drew _), f2' hq'⟩ (by simp only; omega)
  · have hlt' : ¬ ((i : Int) < (s.len : Int)) := by omega
    simp only [hlt', decide_false, cond_false]
    rw [List.take_of_length_le (by omega)] at hp
    rw [hp]
    exact ⟨rfl, rfl, f1.trans hx⟩

theorem rback_ok (h : RF w x s most L) (a b c : Int) : c_ref22_DB_Back (some ⟨x, 0, none⟩) a b c w fun n t w' => t = (L.find? fun y => decide (y.2.o = [a, b, c])).isSome ∧ n = ((L.find? fun y => decide (y.2.o = [a, b, c])).map (·.1)).getD 0 ∧ Ext w w' := by
  apply ok_ref22_DB_Back
  unfold s_ref22_DB_Back
  refine Al_e fun p w1 r1 e1 z1 f1 => ?_
  have hlen := h.buf.len
  have hll := h.len
  refine LoopP_inv (fun st W => ∃ i : Nat, i ≤ L.length ∧ st.1 = (i : Int) ∧ Ext w1 W ∧ (L.take i).find? (fun y => decide (y.2.o = [a, b, c])) = none) (fun st _ => L.length - st.1.toNat) ⟨0, by omega, rfl, Ext.refl _, by simp⟩ ?_
  rintro ⟨k, ⟨⟩⟩ W ⟨i, hi, rfl, hx, hp⟩ next hnext
  have hW := (h.ext f1).ext hx
  simp only [ex_some, Ld_eq, List.getElem?_cons_zero, LdV_some, dec_slice, add_mk, Nat.zero_add, Nat.add_zero, hW.hd.cell]
  by_cases hlt : i < L.length
  · have hlt' : ((i : Int) < (s.len : Int)) := by omega
    have hWd := hW.ext (Ext.drew W)
    have hL : L[i]? = some L[i] := List.getElem?_eq_getElem hlt
    obtain ⟨f1', f2'⟩ := find_snoc hlt hp
    generalize L[i] = y at hL f1' f2'
    obtain ⟨aa, ha, hc⟩ := hWd.cells hL
    have k0 := hc 0 _ rfl
    have k5 := hc 5 _ rfl
    have k6 := hc 6 _ rfl
    have k7 := hc 7 _ rfl
    rw [Nat.add_zero] at k0
    have r1d := (r1.ext hx).drew
    simp only [hlt', decide_true, cond_true, ex_some, List.getElem?_cons_zero, List.getElem?_cons_succ, LdV_some, dec_slice, dec_int, Nat.add_zero, hWd.hd.cell, AtIx, ha, Int.toNat_natCast, addr_add2, Nat.add_assoc, Nat.reduceAdd, k0, k5, k6, k7, r1d.cell, tup3]
    refine ⟨by first | trivial | omega, by first | trivial | omega, ?_⟩
    by_cases hq : [y.2.opr, y.2.oad, y.2.opo] = [a, b, c]
    · have hq' : decide (y.2.o = [a, b, c]) = true := decide_eq_true hq
      simp only [hq, decide_true, cond_true]
      refine ⟨by first | trivial | omega, by first | trivial | omega, ?_⟩
      rw [f1' hq']
      exact ⟨rfl, rfl, (f1.trans hx).trans (Ext.drew _)⟩
    · have hq' : decide (y.2.o = [a, b, c]) = false := decide_eq_false hq
      simp only [hq, decide_false, cond_false]
      rw [wrap_i64 (by omega) (by omega)]
      exact hnext _ _ ⟨i + 1, by omega, by simp, hx.trans (Ext.drew _), f2' hq'⟩ (by simp only; omega)
  · have hlt' : ¬ ((i : Int) < (s.len : Int)) := by omega
    simp only [hlt', decide_false, cond_false]
    rw [List.take_of_length_le (by omega)] at hp
    rw [hp]
    exact ⟨rfl, rfl, f1.trans hx⟩

theorem rgetb_ok (h : RF w x s most L) (id : Int) : c_ref22_DB_Get (some ⟨x, 0, none⟩) id w fun a1 a2 a3 a4 a5 a6 a7 a8 r w' => r = (L.find? fun y => y.1 == id).isSome ∧ BndR (((L.find? fun y => y.1 == id).map (·.2)).getD Bnd0) a1 a2 a3 a4 a5 a6 a7 a8 ∧ Ext w w' := by
  apply ok_ref22_DB_Get
  unfold s_ref22_DB_Get
  refine Al_e fun p w1 r1 e1 z1 f1 => ?_
  have hlen := h.buf.len
  have hll := h.len
  refine LoopP_inv (fun st W => W = w1 ∧ ∃ i : Nat, i ≤ L.length ∧ st.1 = (i : Int) ∧ (L.take i).find? (fun y => y.1 == id) = none) (fun st _ => L.length - st.1.toNat) ⟨rfl, 0, by omega, rfl, by simp⟩ ?_
  rintro ⟨k, ⟨⟩⟩ W ⟨rfl, i, hi, rfl, hp⟩ next hnext
  have hW := h.ext f1
  simp only [ex_some, Ld_eq, List.getElem?_cons_zero, LdV_some, dec_slice, add_mk, Nat.zero_add, Nat.add_zero, hW.hd.cell]
  by_cases hlt : i < L.length
  · have hlt' : ((i : Int) < (s.len : Int)) := by omega
    have hL : L[i]? = some L[i] := List.getElem?_eq_getElem hlt
    obtain ⟨f1', f2'⟩ := find_snoc hlt hp
    generalize L[i] = y at hL f1' f2'
    obtain ⟨aa, ha, hc⟩ := hW.cells hL
    have k0 := hc 0 _ rfl
    have k1 := hc 1 _ rfl
    have k2 := hc 2 _ rfl
    have k3 := hc 3 _ rfl
    have k4 := hc 4 _ rfl
    have k5 := hc 5 _ rfl
    have k6 := hc 6 _ rfl
    have k7 := hc 7 _ rfl
    have k8 := hc 8 _ rfl
    rw [Nat.add_zero] at k0
    simp only [hlt', decide_true, cond_true, ex_some, LdV_some, dec_int, AtIx, ha, Int.toNat_natCast, k0]
    refine ⟨by first | trivial | omega, by first | trivial | omega, ?_⟩
    cases hq : (y.1 == id) with
    | true =>
      simp only [cond_true, LdV_some, dec_int, dec_bool, Nat.add_zero, addr_add2, Nat.add_assoc, Nat.reduceAdd, k1, k2, k3, k4, k5, k6, k7, k8]
      refine ⟨by first | trivial | omega, by first | trivial | omega, StN_full r1 rfl rfl fun w3 r3 f3 _ => ?_⟩
      simp only [List.getElem?_cons_zero, List.getElem?_cons_succ, LdV_some, dec_int, dec_bool, r3.cell]
      rw [f1' hq]
      exact ⟨rfl, ⟨rfl, rfl, rfl, rfl, rfl, rfl, rfl, rfl⟩, f1.new (f3 (· = p) rfl) fun y hy e => by omega⟩
    | false =>
      simp only [cond_false]
      rw [wrap_i64 (by omega) (by omega)]
      exact hnext _ _ ⟨rfl, i + 1, by omega, by simp, f2' hq⟩ (by simp only; omega)
  · have hlt' : ¬ ((i : Int) < (s.len : Int)) := by omega
    simp only [hlt', decide_false, cond_false]
    rw [List.take_of_length_le (by omega)] at hp
    refine StN_full r1 rfl rfl fun w3 r3 f3 _ => ?_
    simp only [List.getElem?_cons_zero, List.getElem?_cons_succ, LdV_some, dec_int, dec_bool, r3.cell]
    rw [hp]
    exact ⟨rfl, ⟨rfl, rfl, rfl, rfl, rfl, rfl, rfl, rfl⟩, f1.new (f3 (· = p) rfl) fun y hy e => by omega⟩

theorem rnewb_ok (n : Int) (w : World) : c_ref22_New n w fun p e w' => Ext w w' ∧ ((¬ (0 ≤ n ∧ n ≤ 4096) ∧ p = none ∧ e = 1) ∨ (0 ≤ n ∧ n ≤ 4096 ∧ e = 0 ∧ ∃ x, p = some ⟨x, 0, none⟩ ∧ w.heap.size ≤ x ∧ x < w'.heap.size ∧ RF w' x ⟨none, 0, 0⟩ n [])) := by
  apply ok_ref22_New
  unfold s_ref22_New
  by_cases c1 : n < 0
  · simp only [c1, decide_true, cond_true]
    exact ⟨Ext.refl _, .inl ⟨by omega, by trivial, by trivial⟩⟩
  by_cases c2 : n > 4096
  · simp only [c1, c2, decide_true, decide_false, cond_true, cond_false]
    exact ⟨Ext.refl _, .inl ⟨by omega, by trivial, by trivial⟩⟩
  simp only [c1, c2, decide_false, cond_false]
  refine Al_e fun x w1 r1 e1 z1 f1 => ⟨f1, .inr ⟨by omega, by omega, by trivial, x, rfl, by omega, by omega, ⟨r1, BufN.nil, ?_, by simp⟩⟩⟩
  rintro ⟨o, h⟩; cases h

theorem rremove_ok (h : RF w x s most L) (id : Int) :
    c_ref22_DB_Remove (some ⟨x, 0, none⟩) id w fun r w' => r = (L.find? fun y => y.1 == id).isSome ∧ Fr8 w w' (· = x) ∧ ∃ s', RF w' x s' most (L.filter fun y => y.1 != id) ∧ ∀ b, SliceV.at s' b → w.heap.size ≤ b := by
  apply ok_ref22_DB_Remove
  unfold s_ref22_DB_Remove
  have hlen := h.buf.len
  have hll := h.len
  have hxl := h.hd.lt
  refine LoopP_inv (fun st W => ∃ i : Nat, i ≤ L.length ∧ st.2.1 = (i : Int) ∧ Ext w W ∧ BufN 9 rcell W st.1 ((L.take i).filter fun y => y.1 != id) ∧ ∀ b, SliceV.at st.1 b → w.heap.size ≤ b) (fun st _ => L.length - st.2.1.toNat) ⟨0, by omega, rfl, Ext.refl _, BufN.nil, by rintro b ⟨o, h⟩; cases h⟩ ?_
  rintro ⟨t, k, ⟨⟩⟩ W ⟨i, hi, rfl, hx, hb, hn⟩ next hnext
  have hW := h.ext hx
  have hb : BufN 9 rcell W t ((L.take i).filter fun y => y.1 != id) := hb
  have hn : ∀ b, SliceV.at t b → w.heap.size ≤ b := hn
  simp only [ex_some, Ld_eq, List.getElem?_cons_zero, LdV_some, dec_slice, hW.hd.cell]
  by_cases hlt : i < L.length
  · have hlt' : ((i : Int) < (s.len : Int)) := by omega
    have hL : L[i]? = some L[i] := List.getElem?_eq_getElem hlt
    have htk : L.take (i + 1) = L.take i ++ [L[i]] := List.take_succ_eq_append_getElem hlt
    generalize L[i] = y at hL htk
    obtain ⟨aa, ha, hc⟩ := hW.cells hL
    have k0 := hc 0 _ rfl
    have k1 := hc 1 _ rfl
    have k2 := hc 2 _ rfl
    have k3 := hc 3 _ rfl
    have k4 := hc 4 _ rfl
    have k5 := hc 5 _ rfl
    have k6 := hc 6 _ rfl
    have k7 := hc 7 _ rfl
    have k8 := hc 8 _ rfl
    rw [Nat.add_zero] at k0
    simp only [hlt', decide_true, cond_true, ex_some, LdV_some, dec_int, AtIx, ha, Int.toNat_natCast, k0]
    refine ⟨by first | trivial | omega, by first | trivial | omega, ?_⟩
    cases hq : (y.1 != id) with
    | true =>
      simp only [cond_true, LdV_some, dec_int, dec_bool, Nat.add_zero, addr_add2, k0, k1, k2, k3, k4, k5, k6, k7, k8]
      refine ⟨by first | trivial | omega, by first | trivial | omega, Al_e fun p w3 r3 e3 z3 f3 => ?_⟩
      have hel : SlN 9 rcell w3 ⟨some ⟨p, 0, none⟩, 1, 1⟩ [y] := (BufN.row (xs := [y]) (by simpa [rcell] using r3)).sl rcell_len (by omega)
      have hfl : ((L.take i).filter fun y => y.1 != id).length ≤ L.length := by
        refine Nat.le_trans (List.length_filter_le _ _) ?_
        rw [List.length_take]; omega
      refine AppSl_bufN rcell_len (hb.ext f3) hel rfl (by omega) rcell_one (by simp only [List.length_singleton]; omega) (by simp only [List.length_singleton]; omega) fun t4 w4 b4 f4 n4 => ?_
      rw [wrap_i64 (by omega) (by omega)]
      have z1 := hx.size
      refine hnext _ _ ⟨i + 1, by omega, by simp, (hx.trans f3).new f4 fun z hz hzz => by have := hn z hzz; omega, ?_, fun b hb' => ?_⟩ (by simp only; omega)
      · rw [htk, List.filter_append, List.filter_cons_of_pos (p := fun y : Int × Bnd => y.1 != id) (a := y) hq]; exact b4
      · rcases n4 b hb' with h4 | h4
        · exact hn b h4
        · omega
    | false =>
      simp only [cond_false]
      rw [wrap_i64 (by omega) (by omega)]
      refine hnext _ _ ⟨i + 1, by omega, by simp, hx, ?_, hn⟩ (by simp only; omega)
      rw [htk, List.filter_append, List.filter_cons_of_neg (p := fun y : Int × Bnd => y.1 != id) (a := y) (by rw [hq]; simp)]
      simpa using hb
  · have hlt' : ¬ ((i : Int) < (s.len : Int)) := by omega
    simp only [hlt', decide_false, cond_false]
    rw [List.take_of_length_le (by omega)] at hb
    refine St_row hW.hd rfl (by simp) fun w3 r3 f3 z3 => ?_
    simp only [List.set_cons_zero] at r3
    have f3x := f3 (· = x) rfl
    have hnx : ¬ SliceV.at t x := fun hh => by have := hn x hh; omega
    have hfl := List.length_filter_le (fun y : Int × Bnd => y.1 != id) L
    refine ⟨?_, (hx _).trans f3x fun z _ hz => hz, t, ⟨r3, hb.fr f3x fun z hz e => hnx (e ▸ hz), hnx, by omega⟩, hn⟩
    rw [hb.len, hlen]
    cases hf : L.find? fun y => y.1 == id with
    | none =>
      have : (L.filter fun y => y.1 != id) = L := List.filter_eq_self.2 fun y hy => by
        have := List.find?_eq_none.1 hf y hy
        simpa using this
      rw [this]; simp
    | some y =>
      have hm := List.mem_of_find?_eq_some hf
      have hp := List.find?_some hf
      have : (L.filter fun y => y.1 != id).length < L.length := by
        rcases Nat.lt_or_ge (L.filter fun y => y.1 != id).length L.length with h1 | h1
        · exact h1
        · have h2 := List.filter_eq_self.1 ((List.filter_sublist (p := fun y : Int × Bnd => y.1 != id) (l := L)).eq_of_length_le h1) y hm
          simp at h2 hp
          exact absurd hp h2
      simp only [Option.isSome_some]
      exact decide_eq_true (by omega)
end
end Go.Proofs
