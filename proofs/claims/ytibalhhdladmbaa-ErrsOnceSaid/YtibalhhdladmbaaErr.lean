import Derived.Test.YtibalhhdladmbaaG05e
import Derived.Test.YtibalhhdladmbaaV4g
import Derived.Test.YtibalhhdladmbaaErrPure
/- What is told of faults: what the program's functions and the document's compute. -/
namespace Go.Proofs
open Gp Gp.V4
set_option maxRecDepth 100000

/-- A row of numbers is looked through. -/
theorem indexI_ok {w : World} {b : Nat} {l : List Int} {vs : List Value} (h : Row w b vs) (hv : vs = l.map fun n => Value.int .i64 n) (n c : Nat) (hn : n = l.length) (hl : l.length ≤ 100) (x : Int) : c_slices_Index_int_int ⟨some ⟨b, 0, none⟩, n, c⟩ x w fun r w' => (r ≥ 0 ↔ x ∈ l) ∧ w' = w := by
  subst hv hn
  apply ok_slices_Index_int_int
  unfold s_slices_Index_int_int
  refine LoopP_inv (fun st W => W = w ∧ ∃ i : Nat, i ≤ l.length ∧ st.1 = (i : Int) ∧ x ∉ l.take i) (fun st _ => l.length - st.1.toNat) ⟨rfl, 0, by omega, rfl, by simp⟩ ?_
  rintro ⟨y, ⟨⟩⟩ W ⟨rfl, i, hi, rfl, hp⟩ next hnext
  by_cases hlt : i < l.length
  · have hlt' : ((i : Int) < (l.length : Int)) := by omega
    simp only [hlt', decide_true, cond_true, Ld_eq, LdV_some, dec_int, AtIx_some, add_mk, Nat.zero_add, h.cell, Int.toNat_natCast, Nat.mul_one, List.getElem?_map, List.getElem?_eq_getElem hlt, Option.map_some]
    refine ⟨by omega, by trivial, ?_⟩
    by_cases hx : x = l[i]
    · simp only [int_beq, hx, decide_true, cond_true]
      exact ⟨⟨fun _ => List.getElem_mem hlt, fun _ => by omega⟩, by trivial⟩
    · simp only [int_beq, hx, decide_false, cond_false]
      rw [wrap_i64 (by omega) (by omega)]
      refine hnext _ _ ⟨rfl, i + 1, by omega, by simp, ?_⟩ (by simp only; omega)
      rw [List.take_succ_eq_append_getElem hlt, List.mem_append]
      rintro (h | h)
      · exact hp h
      · simp only [List.mem_singleton] at h; exact hx h
  · have hlt' : ¬ ((i : Int) < (l.length : Int)) := by omega
    simp only [hlt', decide_false, cond_false]
    have : i = l.length := by omega
    subst this
    rw [List.take_length] at hp
    exact ⟨⟨fun h => by omega, fun h => absurd h hp⟩, by trivial⟩

theorem containsI_ok {w : World} {b : Nat} {l : List Int} {vs : List Value} (h : Row w b vs) (hv : vs = l.map fun n => Value.int .i64 n) (n c : Nat) (hn : n = l.length) (hl : l.length ≤ 100) (x : Int) : c_slices_Contains_int_int ⟨some ⟨b, 0, none⟩, n, c⟩ x w fun r w' => r = decide (x ∈ l) ∧ w' = w := by
  apply ok_slices_Contains_int_int
  unfold s_slices_Contains_int_int
  refine cm_slices_Index_int_int (indexI_ok h hv n c hn hl x) ?_
  rintro r w' ⟨hr, hw⟩
  exact ⟨decide_eq_decide.2 hr, hw⟩

theorem fault_ok (k : Int) (w : World) : c_icmp_Fault k w fun r w' => r = decide (faultP k) ∧ Ext w w' := by
  apply ok_icmp_Fault
  unfold s_icmp_Fault
  refine Al_e fun a w1 r1 e1 z1 f1 => ?_
  apply ok_icmp_one
  unfold s_icmp_one
  refine cm_slices_Contains_int_int (containsI_ok (l := [3, 4, 5, 11, 12]) r1 rfl 5 5 rfl (by decide) k) ?_
  rintro _ w2 ⟨rfl, hw⟩
  subst hw
  refine ⟨decide_eq_decide.2 ?_, f1⟩
  simp only [List.mem_cons, List.not_mem_nil, or_false, faultP]
  omega

theorem rfault_ok (k : Int) (w : World) : c_ref09_Fault k w fun r w' => r = decide (faultP k) ∧ w' = w := by
  apply ok_ref09_Fault
  unfold s_ref09_Fault
  have e : ∀ p : Prop, [Decidable p] → (p ↔ faultP k) → decide p = decide (faultP k) := fun p _ h => decide_eq_decide.2 h
  by_cases c1 : k ≥ 3
  · by_cases c2 : k ≤ 5
    · simp only [c1, c2, decide_true, cond_true]
      exact ⟨(decide_eq_true (.inl ⟨c1, c2⟩)).symm, by trivial⟩
    · by_cases c3 : k = 11
      · subst c3
        exact ⟨(decide_eq_true (p := faultP 11) (.inr (.inl rfl))).symm, rfl⟩
      · simp only [c1, c2, c3, int_beq, decide_true, decide_false, cond_true, cond_false]
        exact ⟨e _ (by unfold faultP; omega), by trivial⟩
  · by_cases c3 : k = 11
    · omega
    · simp only [c1, c3, int_beq, decide_false, cond_false]
      exact ⟨e _ (by unfold faultP; omega), by trivial⟩

theorem has_ok (base bits a : Int) (k b : Nat) (hb : base = (b : Int)) (hk : bits = 32 - (k : Int)) (hk2 : k ≤ 32) (w : World) : c_four_block_has base bits a w fun r w' => r = decide (rightP a ∧ a / (2 ^ k : Nat) = ((b / 2 ^ k : Nat) : Int)) ∧ Ext w w' := by
  subst hb hk
  apply ok_four_block_has
  unfold s_four_block_has
  refine Al_e fun c w1 r1 e1 z1 f1 => ?_
  simp only [Ld_eq, List.getElem?_cons_zero, List.getElem?_cons_succ, LdV_some, dec_int, add_mk, Nat.zero_add, r1.cell]
  refine cm_four_Right (four_right _ _) ?_
  rintro _ w2 ⟨rfl, hw⟩
  subst hw
  have x2 := f1.trans (Ext.drew w1)
  have e32 : IntKind.i64.wrap (32 - (32 - (k : Int))) = (k : Int) := by rw [wrap_i64 (by omega) (by omega)]; omega
  by_cases hr : rightP a
  · simp only [hr, decide_true, cond_true, List.getElem?_cons_zero, LdV_some, dec_int, r1.drew.cell, e32]
    refine ⟨by omega, by omega, ?_, x2⟩
    obtain ⟨n, rfl⟩ : ∃ n : Nat, a = (n : Int) := ⟨a.toNat, by have := hr.1; omega⟩
    rw [shr_i64 (by omega), shr_i64 (by omega), int_beq]
    refine decide_eq_decide.2 ?_
    rw [true_and, ← Int.natCast_ediv]
  · simp only [hr, decide_false, cond_false]
    exact ⟨(decide_eq_false fun h => h.1).symm, x2⟩

theorem host_ok (a : Int) (w : World) : c_four_Host a w fun r w' => r = decide (hostP a) ∧ Ext w w' := by
  apply ok_four_Host
  unfold s_four_Host
  refine cm_four_Right (four_right _ _) ?_
  rintro _ w1 ⟨rfl, hw⟩
  subst hw
  by_cases hr : rightP a
  · simp only [hr, decide_true, Bool.not_true, cond_false]
    refine Al_e fun b w2 r2 e2 z2 f2 => ?_
    apply ok_four_one
    unfold s_four_one
    have blk : ∀ i : Nat, i < 3 → ∃ (base bits : Int) (k c : Nat), r2 = r2 ∧ base = (c : Int) ∧ bits = 32 - (k : Int) ∧ k ≤ 32 ∧ ([.int .i64 0, .int .i64 8, .int .i64 2130706432, .int .i64 8, .int .i64 3758096384, .int .i64 3] : List Value)[i * 2]? = some (.int .i64 base) ∧
        ([.int .i64 0, .int .i64 8, .int .i64 2130706432, .int .i64 8, .int .i64 3758096384, .int .i64 3] : List Value)[i * 2 + 1]? = some (.int .i64 bits) ∧ (k, c) = (if i = 0 then (24, 0) else if i = 1 then (24, 2130706432) else (29, 3758096384)) := by
      intro i hi
      have : i = 0 ∨ i = 1 ∨ i = 2 := by omega
      rcases this with rfl | rfl | rfl
      · exact ⟨0, 8, 24, 0, rfl, rfl, rfl, by omega, rfl, rfl, rfl⟩
      · exact ⟨2130706432, 8, 24, 2130706432, rfl, rfl, rfl, by omega, rfl, rfl, rfl⟩
      · exact ⟨3758096384, 3, 29, 3758096384, rfl, rfl, rfl, by omega, rfl, rfl, rfl⟩
    refine LoopP_inv (fun st W => ∃ i : Nat, i ≤ 3 ∧ st.1 = (i : Int) ∧ Ext w2 W ∧ (0 < i → a / 16777216 ≠ 0) ∧ (1 < i → a / 16777216 ≠ 127) ∧ (2 < i → a / 536870912 ≠ 7)) (fun st _ => 3 - st.1.toNat) ⟨0, by omega, rfl, Ext.refl _, by omega, by omega, by omega⟩ ?_
    rintro ⟨x, ⟨⟩⟩ W ⟨i, hi, rfl, hx, h1, h2, h3⟩ next hnext
    by_cases hlt : i < 3
    · have hlt' : ((i : Int) < ((3 : Nat) : Int)) := by omega
      obtain ⟨base, bits, k, c, _, hb, hk, hk2, g1, g2, g3⟩ := blk i hlt
      simp only [hlt', decide_true, cond_true, Ld_eq, LdV_some, dec_int, AtIx_some, add_mk, Nat.zero_add, Nat.add_zero, Int.toNat_natCast, (r2.ext hx).cell, g1, g2]
      refine ⟨by omega, by trivial, Al_f rfl rfl fun d w3 r3 e3 z3 f3 => ?_⟩
      simp only [List.getElem?_cons_zero, List.getElem?_cons_succ, LdV_some, dec_int, add_mk, Nat.zero_add, Nat.add_zero, r3.cell]
      refine cm_four_block_has (has_ok base bits a k c hb hk hk2 w3) ?_
      rintro _ w4 ⟨rfl, f4⟩
      have hi3 : i = 0 ∨ i = 1 ∨ i = 2 := by omega
      have q16 : (2 : Nat) ^ 24 = 16777216 := by decide
      have q29 : (2 : Nat) ^ 29 = 536870912 := by decide
      have fin : (rightP a ∧ a / (2 ^ k : Nat) = ((c / 2 ^ k : Nat) : Int)) ↔ (if i = 0 then a / 16777216 = 0 else if i = 1 then a / 16777216 = 127 else a / 536870912 = 7) := by
        rcases hi3 with rfl | rfl | rfl
        · simp only [if_true, Prod.mk.injEq] at g3 ⊢
          rw [g3.1, g3.2, q16]; simp [hr]
        · simp only [if_true, Prod.mk.injEq, Nat.one_ne_zero, if_false] at g3 ⊢
          rw [g3.1, g3.2, q16]; simp [hr]
        · simp only [show ¬ ((2 : Nat) = 0) by omega, show ¬ ((2 : Nat) = 1) by omega, if_false, Prod.mk.injEq] at g3 ⊢
          rw [g3.1, g3.2, q29]; simp [hr]
      by_cases hh : (rightP a ∧ a / (2 ^ k : Nat) = ((c / 2 ^ k : Nat) : Int))
      · simp only [decide_eq_true hh, cond_true]
        refine ⟨?_, (f2.trans hx).trans (f3.trans f4)⟩
        have hh' := fin.1 hh
        have hr1 := hr.1
        have hr2 := hr.2
        symm
        rw [Bool.not_true]
        refine decide_eq_false fun hp => ?_
        obtain ⟨p1, p2, p3⟩ := hp
        rcases hi3 with rfl | rfl | rfl
        · simp only [if_true] at hh'; omega
        · simp only [Nat.one_ne_zero, if_false, if_true] at hh'; omega
        · simp only [show ¬ ((2 : Nat) = 0) by omega, show ¬ ((2 : Nat) = 1) by omega, if_false] at hh'; omega
      · simp only [decide_eq_false hh, cond_false]
        have hh' := fun h => hh (fin.2 h)
        rw [wrap_i64 (by omega) (by omega)]
        refine hnext _ _ ⟨i + 1, by omega, by simp, hx.trans (f3.trans f4), ?_, ?_, ?_⟩ (by simp only; omega)
        · intro _
          rcases hi3 with rfl | rfl | rfl
          · simpa using hh'
          · exact h1 (by omega)
          · exact h1 (by omega)
        · intro _
          rcases hi3 with rfl | rfl | rfl
          · omega
          · simpa using hh'
          · exact h2 (by omega)
        · intro _
          rcases hi3 with rfl | rfl | rfl
          · omega
          · omega
          · simpa using hh'
    · have hlt' : ¬ ((i : Int) < ((3 : Nat) : Int)) := by omega
      simp only [hlt', decide_false, cond_false]
      have : i = 3 := by omega
      subst this
      refine ⟨?_, f2.trans hx⟩
      have p1 := h1 (by omega)
      have p2 := h2 (by omega)
      have p3 := h3 (by omega)
      have hr1 := hr.1
      have hr2 := hr.2
      rw [Bool.not_false]
      exact (decide_eq_true ⟨by omega, by omega, p2⟩).symm
  · simp only [hr, decide_false, Bool.not_false, cond_true]
    exact ⟨(decide_eq_false fun h => hr h.right).symm, Ext.refl _⟩

theorem rhost_ok (a : Int) (w : World) : c_ref03_Host a w fun r w' => r = decide (hostP a) ∧ w' = w := by
  apply ok_ref03_Host
  unfold s_ref03_Host
  by_cases c1 : a ≥ 16777216
  · by_cases c2 : a < 3758096384
    · simp only [c1, c2, decide_true, cond_true]
      refine ⟨by omega, ?_, by trivial⟩
      rw [Int.tdiv_eq_ediv_of_nonneg (by omega), wrap_i64 (by omega) (by omega)]
      by_cases h : a / 16777216 = 127
      · rw [decide_eq_false fun p : hostP a => p.2.2 h, h]; rfl
      · rw [decide_eq_true (show hostP a from ⟨c1, c2, h⟩)]; simpa using h
    · simp only [c1, c2, decide_true, decide_false, cond_true, cond_false]
      exact ⟨(decide_eq_false fun p => c2 p.2.1).symm, by trivial⟩
  · simp only [c1, decide_false, cond_false]
    exact ⟨(decide_eq_false fun p => c1 p.1).symm, by trivial⟩

theorem mcheck_ok {w : World} (m : Msg) {d : SliceV} (hd : d.len = m.data.length) : c_icmp_Check m.kind m.code m.rest d w fun r w' => r = m.check ∧ Ext w w' := by
  apply ok_icmp_Check
  unfold s_icmp_Check
  refine Al_e fun a w1 r1 e1 z1 f1 => ?_
  intro J
  have hJ : ∀ b, b = (!decide m.fine) → J b w1 := by
    rintro b rfl
    simp only [J, Ld_eq, List.getElem?_cons_zero, List.getElem?_cons_succ, LdV_some, dec_slice, add_mk, Nat.zero_add, r1.cell]
    by_cases hf : m.fine
    · by_cases hs : m.data.length ≤ 65527
      · have : ¬ ((d.len : Int) > 65527) := by omega
        simp only [hf, this, decide_true, decide_false, Bool.not_true, cond_false]
        exact ⟨by simp [Msg.check, hf, hs], f1⟩
      · have : ((d.len : Int) > 65527) := by omega
        simp only [hf, this, decide_true, Bool.not_true, cond_false, cond_true]
        exact ⟨by simp [Msg.check, hf, hs], f1⟩
    · simp only [hf, decide_false, Bool.not_false, cond_true]
      exact ⟨by simp [Msg.check, hf], f1⟩
  simp -zeta only [Ld_eq, List.getElem?_cons_zero, LdV_some, dec_int, add_mk, Nat.zero_add, r1.cell]
  refine cm_be_Fits (fits_ok _ _ _) ?_
  rintro _ w2 ⟨rfl, hw⟩
  subst hw
  by_cases c1 : fitsP m.kind 1
  · simp -zeta only [c1, decide_true, Bool.not_true, cond_false, List.getElem?_cons_zero, List.getElem?_cons_succ, LdV_some, dec_int, r1.cell]
    refine cm_be_Fits (fits_ok _ _ _) ?_
    rintro _ w2 ⟨rfl, hw⟩
    subst hw
    by_cases c2 : fitsP m.code 1
    · simp -zeta only [c2, decide_true, Bool.not_true, cond_false, List.getElem?_cons_zero, List.getElem?_cons_succ, LdV_some, dec_int, r1.cell]
      refine cm_be_Fits (fits_ok _ _ _) ?_
      rintro _ w2 ⟨rfl, hw⟩
      subst hw
      exact hJ _ (congrArg (!·) (decide_eq_decide.2 ⟨fun h => ⟨c1, c2, h⟩, fun h => h.2.2⟩))
    · simp -zeta only [c2, decide_false, Bool.not_false, cond_true]
      exact hJ _ (by rw [decide_eq_false fun h : m.fine => c2 h.2.1]; rfl)
  · simp -zeta only [c1, decide_false, Bool.not_false, cond_true]
    exact hJ _ (by rw [decide_eq_false fun h : m.fine => c1 h.1]; rfl)

theorem rmcheck_ok {w : World} (m : Msg) {d : SliceV} (hd : d.len = m.data.length) : c_ref09_Check m.kind m.code m.rest d w fun r w' => r = m.check ∧ Ext w w' := by
  apply ok_ref09_Check
  unfold s_ref09_Check
  refine Al_e fun a w1 r1 e1 z1 f1 => ?_
  intro J
  have hJ : ∀ b, b = (!decide m.fine) → J b w1 := by
    rintro b rfl
    simp only [J, Ld_eq, List.getElem?_cons_zero, List.getElem?_cons_succ, LdV_some, dec_slice, add_mk, Nat.zero_add, r1.cell]
    by_cases hf : m.fine
    · by_cases hs : m.data.length ≤ 65527
      · have : ¬ ((d.len : Int) > 65527) := by omega
        simp only [hf, this, decide_true, decide_false, Bool.not_true, cond_false]
        exact ⟨by simp [Msg.check, hf, hs], f1⟩
      · have : ((d.len : Int) > 65527) := by omega
        simp only [hf, this, decide_true, Bool.not_true, cond_false, cond_true]
        exact ⟨by simp [Msg.check, hf, hs], f1⟩
    · simp only [hf, decide_false, Bool.not_false, cond_true]
      exact ⟨by simp [Msg.check, hf], f1⟩
  simp -zeta only [Ld_eq, List.getElem?_cons_zero, LdV_some, dec_int, add_mk, Nat.zero_add, r1.cell]
  refine cm_ref01_Fits (rfits_ok _ _ _) ?_
  rintro _ w2 ⟨rfl, hw⟩
  subst hw
  by_cases c1 : fitsP m.kind 1
  · simp -zeta only [c1, decide_true, Bool.not_true, cond_false, List.getElem?_cons_zero, List.getElem?_cons_succ, LdV_some, dec_int, r1.cell]
    refine cm_ref01_Fits (rfits_ok _ _ _) ?_
    rintro _ w2 ⟨rfl, hw⟩
    subst hw
    by_cases c2 : fitsP m.code 1
    · simp -zeta only [c2, decide_true, Bool.not_true, cond_false, List.getElem?_cons_zero, List.getElem?_cons_succ, LdV_some, dec_int, r1.cell]
      refine cm_ref01_Fits (rfits_ok _ _ _) ?_
      rintro _ w2 ⟨rfl, hw⟩
      subst hw
      exact hJ _ (congrArg (!·) (decide_eq_decide.2 ⟨fun h => ⟨c1, c2, h⟩, fun h => h.2.2⟩))
    · simp -zeta only [c2, decide_false, Bool.not_false, cond_true]
      exact hJ _ (by rw [decide_eq_false fun h : m.fine => c2 h.2.1]; rfl)
  · simp -zeta only [c1, decide_false, Bool.not_false, cond_true]
    exact hJ _ (by rw [decide_eq_false fun h : m.fine => c1 h.1]; rfl)

/-- What the building of a message answers. -/
def mbuildR (m : Msg) (w w' : World) (r : SliceV) (e : Int) : Prop :=
  e = m.check ∧ (m.check = 0 → SlB w' r m.bytes) ∧ Ext w w' ∧ (∀ b, SliceV.at r b → w.heap.size ≤ b) ∧ (∀ a, r.a = some a → SliceV.at r a.block)

theorem mbuild_ok {w : World} (m : Msg) {d : SliceV} (hd : SlB w d m.data) : c_icmp_Build m.kind m.code m.rest d w fun r e w' => mbuildR m w w' r e := by
  apply ok_icmp_Build
  unfold s_icmp_Build
  refine Al_e fun a w1 r1 e1 z1 f1 => ?_
  simp only [Ld_eq, List.getElem?_cons_zero, List.getElem?_cons_succ, LdV_some, dec_slice, dec_int, add_mk, Nat.zero_add, Nat.add_zero, r1.cell]
  refine cm_icmp_Check (mcheck_ok m (d := d) hd.1) ?_
  rintro _ w2 ⟨rfl, f2⟩
  have r2 := r1.ext f2
  by_cases hc : m.check = 0
  · obtain ⟨⟨g1, g2, g3⟩, hs⟩ := mcheck_zero hc
    have g1' := fits1 g1
    have g2' := fits1 g2
    simp only [hc, show ((0 : Int) != 0) = false from rfl, cond_false, List.getElem?_cons_zero, List.getElem?_cons_succ, LdV_some, dec_int, r2.cell]
    refine Al_e fun b w3 r3 e3 z3 f3 => ?_
    have rr := r2.ext f3
    simp only [List.getElem?_cons_zero, List.getElem?_cons_succ, LdV_some, dec_int, rr.cell]
    obtain ⟨t, ht⟩ : ∃ t : Nat, m.kind = (t : Int) := ⟨m.kind.toNat, by omega⟩
    obtain ⟨u, hu⟩ : ∃ u : Nat, m.code = (u : Int) := ⟨m.code.toNat, by omega⟩
    rw [ht, hu, u8_of, u8_of] at r3
    have b3 : SlB w3 ⟨some ⟨b, 0, none⟩, 4, 4⟩ (beN 1 m.kind.toNat ++ beN 1 m.code.toNat ++ beN 2 0) := by
      refine SlB.of_buf ?_
      have := SlB.row (l := beN 1 m.kind.toNat ++ beN 1 m.code.toNat ++ beN 2 0) (w := w3) (b := b) (by simpa [bytesV, beN, ht, hu] using r3)
      simpa [beN_len] using this
    refine cm_be_Put (put_ok b3 (by simp [beN_len]) m.rest 4) ?_
    rintro t4 w4 ⟨b4, f4, n4⟩
    have e4 : putL (beN 1 m.kind.toNat ++ beN 1 m.code.toNat ++ beN 2 0) m.rest 4 = beN 1 m.kind.toNat ++ beN 1 m.code.toNat ++ beN 2 0 ++ beN 4 m.rest.toNat := by
      unfold putL; rw [if_pos g3]; rfl
    rw [e4] at b4
    have r4 := rr.ext f4
    simp only [List.getElem?_cons_zero, List.getElem?_cons_succ, LdV_some, dec_slice, r4.cell]
    have x4 : Ext w w4 := ((f1.trans f2).trans f3).trans f4
    refine AppSl_bytes b4 (hd.ext x4) (by simp [beN_len]; omega) fun t5 w5 b5 f5 n5 _ => ?_
    have z3' := ((f1.trans f2).trans f3).size
    have z4 := x4.size
    have x5 : Ext w w5 := x4.new f5 fun y hy h => by have := n4 y h; omega
    have b5 : Buf w5 t5 (bytesV (m.body 0)) := b5
    have l5 := body_len m 0
    refine Al_e fun c w6 r6 e6 z6 f6 => ?_
    refine cm_sum_Of (of_ok (parts_one r6 (SlB.of_buf (b5.ext f6))) (by simp) (by intro q hq; simp only [List.mem_singleton] at hq; subst hq; simp only; omega)) ?_
    rintro _ w7 ⟨rfl, f7⟩
    rw [totP_one]
    have e8 : 65535 - fold (tot (m.body 0)) = m.sum := rfl
    rw [e8]
    have hsl : m.sum < 65536 := by unfold Msg.sum; omega
    have x7 := x5.trans (f6.trans f7)
    have z7 := x7.size
    refine cm_be_Set (set_ok (SlB.of_buf ((b5.ext f6).ext f7)) (by omega) 2 (m.sum : Int) 2) ?_
    rintro s9 e9 w9 ⟨hr9, f9, n9⟩
    obtain ⟨rfl, b9⟩ := setR_in ⟨⟨by omega, by omega⟩, by omega, by simp; omega⟩ (by omega) (by omega) hr9
    refine ⟨hc.symm, fun _ => ?_, x7.trans f9, fun y hy => by have := n9 y hy; omega, fun a ha => b9.at_eq ha⟩
    have eb : (m.body 0).take 2 ++ beN 2 m.sum ++ (m.body 0).drop 4 = m.bytes := by
      unfold Msg.bytes
      rw [body_eq, body_eq]
      simp [beN]
    have := SlB.of_buf b9
    rw [show (2 : Int).toNat = 2 from rfl, Int.toNat_natCast, show (2 + 2 : Nat) = 4 from rfl, eb] at this
    exact this
  · have hc' : (m.check != 0) = true := by simpa using hc
    simp only [hc', cond_true]
    exact ⟨rfl, fun h => absurd h hc, f1.trans f2, (by rintro b ⟨o, h⟩; cases h), (by rintro a h; cases h)⟩

theorem rbytes_ok {w : World} (m : Msg) {d : SliceV} (hd : SlB w d m.data) (hc : m.check = 0) {s : Nat} (hs : s < 65536) : c_ref09_Bytes m.kind m.code m.rest d (s : Int) w fun r w' => Buf w' r (bytesV (m.body s)) ∧ Ext w w' ∧ ∀ b, SliceV.at r b → w.heap.size ≤ b := by
  apply ok_ref09_Bytes
  unfold s_ref09_Bytes
  obtain ⟨⟨g1, g2, g3⟩, hsz⟩ := mcheck_zero hc
  have g1' := fits1 g1
  have g2' := fits1 g2
  refine Al_e fun a w1 r1 e1 z1 f1 => ?_
  simp only [Ld_eq, List.getElem?_cons_zero, List.getElem?_cons_succ, LdV_some, dec_int, add_mk, Nat.zero_add, r1.cell]
  refine Al_e fun b w3 r3 e3 z3 f3 => ?_
  obtain ⟨t, ht⟩ : ∃ t : Nat, m.kind = (t : Int) := ⟨m.kind.toNat, by omega⟩
  obtain ⟨u, hu⟩ : ∃ u : Nat, m.code = (u : Int) := ⟨m.code.toNat, by omega⟩
  rw [ht, hu, u8_of, u8_of] at r3
  have b3 : SlB w3 ⟨some ⟨b, 0, none⟩, 2, 2⟩ (beN 1 m.kind.toNat ++ beN 1 m.code.toNat) := by
    refine SlB.of_buf ?_
    have := SlB.row (l := beN 1 m.kind.toNat ++ beN 1 m.code.toNat) (w := w3) (b := b) (by simpa [bytesV, beN, ht, hu] using r3)
    simpa [beN_len] using this
  refine cm_ref01_Put (rput_ok b3 (by simp [beN_len]) (s : Int) 2 (by omega)) ?_
  rintro t4 w4 ⟨b4, f4, n4⟩
  have rr := ((r1.ext f3).ext f4).drew
  simp only [List.getElem?_cons_zero, List.getElem?_cons_succ, LdV_some, dec_slice, dec_int, rr.cell]
  have e4 : putL (beN 1 m.kind.toNat ++ beN 1 m.code.toNat) (s : Int) 2 = beN 1 m.kind.toNat ++ beN 1 m.code.toNat ++ beN 2 s := by
    unfold putL; rw [if_pos ⟨⟨by omega, by omega⟩, by omega, by simp; omega⟩]; rfl
  rw [e4] at b4
  have hg3 := g3.2.2
  refine cm_ref01_Put (rput_ok ((SlB.of_buf b4).ext (Ext.drew _)) (by simp [beN_len]) m.rest 4 (by simp at hg3; omega)) ?_
  rintro t5 w5 ⟨b5, f5, n5⟩
  have e5 : putL (beN 1 m.kind.toNat ++ beN 1 m.code.toNat ++ beN 2 s) m.rest 4 = beN 1 m.kind.toNat ++ beN 1 m.code.toNat ++ beN 2 s ++ beN 4 m.rest.toNat := by
    unfold putL; rw [if_pos g3]; rfl
  rw [e5] at b5
  have r5 := rr.ext f5
  simp only [true_and, List.getElem?_cons_zero, List.getElem?_cons_succ, r5.cell]
  have x5 : Ext w w5 := ((f1.trans f3).trans (f4.trans (Ext.drew _))).trans f5
  have z4 : w.heap.size ≤ w4.drew.heap.size := ((f1.trans f3).trans (f4.trans (Ext.drew _))).size
  have z5 := x5.size
  refine AppSl_bytes b5 (hd.ext x5) (by simp [beN_len]; omega) fun t6 w6 b6 f6 n6 _ => ?_
  refine ⟨b6, x5.new f6 fun y hy h => by have := n5 y h; omega, fun y hy => ?_⟩
  rcases n6 y hy with h | h
  · have := n5 y h; omega
  · omega

theorem rmbuild_ok {w : World} (m : Msg) {d : SliceV} (hd : SlB w d m.data) : c_ref09_Build m.kind m.code m.rest d w fun r e w' => mbuildR m w w' r e := by
  apply ok_ref09_Build
  unfold s_ref09_Build
  refine Al_e fun a w1 r1 e1 z1 f1 => ?_
  simp only [Ld_eq, List.getElem?_cons_zero, List.getElem?_cons_succ, LdV_some, dec_slice, dec_int, add_mk, Nat.zero_add, Nat.add_zero, r1.cell]
  refine cm_ref09_Check (rmcheck_ok m (d := d) hd.1) ?_
  rintro _ w2 ⟨rfl, f2⟩
  have r2 := (r1.ext f2).drew
  by_cases hc : m.check = 0
  · have hsz := (mcheck_zero hc).2
    simp only [hc, show ((0 : Int) != 0) = false from rfl, cond_false, List.getElem?_cons_zero, List.getElem?_cons_succ, LdV_some, dec_slice, dec_int, r2.cell]
    have x2 : Ext w w2.drew := (f1.trans f2).trans (Ext.drew _)
    refine cm_ref09_Bytes (rbytes_ok m (d := d) (hd.ext x2) hc (s := 0) (by omega)) ?_
    rintro t3 w3 ⟨b3, f3, n3⟩
    simp only [true_and, List.getElem?_cons_zero, List.getElem?_cons_succ, (r2.ext f3).cell]
    refine Al_e fun c w4 r4 e4 z4 f4 => ?_
    have y4 := f3.trans f4
    simp only [true_and, List.getElem?_cons_zero, List.getElem?_cons_succ, (r2.ext y4).cell]
    have l5 := body_len m 0
    refine cm_ref02_Of (rof_ok (parts_one r4 (SlB.of_buf (b3.ext f4))) (by simp) (by intro q hq; simp only [List.mem_singleton] at hq; subst hq; simp only; omega)) ?_
    rintro _ w5 ⟨rfl, f5⟩
    rw [totP_one]
    have e8 : 65535 - fold (tot (m.body 0)) = m.sum := rfl
    rw [e8]
    have hsl : m.sum < 65536 := by unfold Msg.sum; omega
    simp only [true_and, List.getElem?_cons_zero, List.getElem?_cons_succ, (r2.ext (y4.trans f5)).cell]
    have x5 := x2.trans (y4.trans f5)
    refine cm_ref09_Bytes (rbytes_ok m (d := d) (hd.ext x5) hc hsl) ?_
    rintro t6 w6 ⟨b6, f6, n6⟩
    have z5 := x5.size
    exact ⟨hc.symm, fun _ => SlB.of_buf b6, x5.trans f6, fun y hy => by have := n6 y hy; omega, fun a ha => b6.at_eq ha⟩
  · have hc' : (m.check != 0) = true := by simpa using hc
    simp only [hc', cond_true]
    exact ⟨rfl, fun h => absurd h hc, f1.trans f2, (by rintro b ⟨o, h⟩; cases h), (by rintro a h; cases h)⟩
end Go.Proofs
