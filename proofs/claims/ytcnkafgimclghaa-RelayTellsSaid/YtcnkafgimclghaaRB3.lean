import Derived.Test.YtcnkafgimclghaaRB2
/- Faults that are told. -/
namespace Go.Proofs
open Gp Gp.V4
set_option maxRecDepth 100000



/-- A row of numbers is looked through. -/
theorem indexI_ok {w : World} {b : Nat} {l : List Int} {vs : List Value} (h : Row w b vs) (hv : vs = l.map fun n => Value.int .i64 n) (n c : Nat) (hn : n = l.length) (hl : l.length ≤ 100) (x : Int) : c_slices_Index_int_int ⟨some ⟨b, 0, none⟩, n, c⟩ x w fun r w' => (r ≥ 0 ↔ x ∈ l) ∧ w' = w := by
  subst hv hn
  apply ok_slices_Index_int_int
  unfold s_slices_Index_int_int
  refine LoopP_inv (fun st W => W = w ∧ ∃ i : Nat, i ≤ l.length ∧ st.1 = (i : Int) ∧ x ∉ l.take i) (fun st _ => l.length - st.1.toNat) ⟨rfl, 0, by omega, rfl, by simp⟩ ?_
  rintro ⟨y, ⟨⟩⟩ W ⟨rfl, i, hi, rfl, hp⟩ next hnext
  by_cases hlt : i < l.length
  · have hlt' : ((i : Int) < (l.length : Int)) := by omega
    simp only [hlt', decide_true, cond_true, Ld_eq, LdV_some, dec_int, AtIx_some, add_mk, Nat.zero_add, h.cell, Int.toNat_natCast, Nat.mul_one, List.getElem?_map, List.getElem?_eq_getElem hlt, Option.map_some]
    refine ⟨by omega, by trivial, ?_⟩
    by_cases hx : x = l[i]
    · simp only [int_beq, hx, decide_true, cond_true]
      exact ⟨⟨fun _ => List.getElem_mem hlt, fun _ => by omega⟩, by trivial⟩
    · simp only [int_beq, hx, decide_false, cond_false]
      rw [wrap_i64 (by omega) (by omega)]
      refine hnext _ _ ⟨rfl, i + 1, by omega, by simp, ?_⟩ (by simp only; omega)
      rw [List.take_succ_eq_append_getElem hlt, List.mem_append]
      rintro (h | h)
      · exact hp h
      · simp only [List.mem_singleton] at h; exact hx h
  · have hlt' : ¬ ((i : Int) < (l.length : Int)) := by omega
    simp only [hlt', decide_false, cond_false]
    have : i = l.length := by omega
    subst this
    rw [List.take_length] at hp
    exact ⟨⟨fun h => by omega, fun h => absurd h hp⟩, by trivial⟩

theorem containsI_ok {w : World} {b : Nat} {l : List Int} {vs : List Value} (h : Row w b vs) (hv : vs = l.map fun n => Value.int .i64 n) (n c : Nat) (hn : n = l.length) (hl : l.length ≤ 100) (x : Int) : c_slices_Contains_int_int ⟨some ⟨b, 0, none⟩, n, c⟩ x w fun r w' => r = decide (x ∈ l) ∧ w' = w := by
  apply ok_slices_Contains_int_int
  unfold s_slices_Contains_int_int
  refine cm_slices_Index_int_int (indexI_ok h hv n c hn hl x) ?_
  rintro r w' ⟨hr, hw⟩
  exact ⟨decide_eq_decide.2 hr, hw⟩

theorem fault_ok (k : Int) (w : World) : c_icmp_Fault k w fun r w' => r = decide (faultP k) ∧ Ext w w' := by
  apply ok_icmp_Fault
  unfold s_icmp_Fault
  refine Al_e fun a w1 r1 e1 z1 f1 => ?_
  apply ok_icmp_one
  unfold s_icmp_one
  refine cm_slices_Contains_int_int (containsI_ok (l := [3, 4, 5, 11, 12]) r1 rfl 5 5 rfl (by decide) k) ?_
  rintro _ w2 ⟨rfl, hw⟩
  subst hw
  refine ⟨decide_eq_decide.2 ?_, f1⟩
  simp only [List.mem_cons, List.not_mem_nil, or_false, faultP]
  omega

theorem rfault_ok (k : Int) (w : World) : c_ref09_Fault k w fun r w' => r = decide (faultP k) ∧ w' = w := by
  apply ok_ref09_Fault
  unfold s_ref09_Fault
  have e : ∀ p : Prop, [Decidable p] → (p ↔ faultP k) → decide p = decide (faultP k) := fun p _ h => decide_eq_decide.2 h
  by_cases c1 : k ≥ 3
  · by_cases c2 : k ≤ 5
    · simp only [c1, c2, decide_true, cond_true]
      exact ⟨(decide_eq_true (.inl ⟨c1, c2⟩)).symm, by trivial⟩
    · by_cases c3 : k = 11
      · subst c3
        exact ⟨(decide_eq_true (p := faultP 11) (.inr (.inl rfl))).symm, rfl⟩
      · simp only [c1, c2, c3, int_beq, decide_true, decide_false, cond_true, cond_false]
        exact ⟨e _ (by unfold faultP; omega), by trivial⟩
  · by_cases c3 : k = 11
    · omega
    · simp only [c1, c3, int_beq, decide_false, cond_false]
      exact ⟨e _ (by unfold faultP; omega), by trivial⟩

theorem has_ok (base bits a : Int) (k b : Nat) (hb : base = (b : Int)) (hk : bits = 32 - (k : Int)) (hk2 : k ≤ 32) (w : World) : c_four_block_has base bits a w fun r w' => r = decide (rightP a ∧ a / (2 ^ k : Nat) = ((b / 2 ^ k : Nat) : Int)) ∧ Ext w w' := by
  subst hb hk
  apply ok_four_block_has
  unfold s_four_block_has
  refine Al_e fun c w1 r1 e1 z1 f1 => ?_
  simp only [Ld_eq, List.getElem?_cons_zero, List.getElem?_cons_succ, LdV_some, dec_int, add_mk, Nat.zero_add, r1.cell]
  refine cm_four_Right (four_right _ _) ?_
  rintro _ w2 ⟨rfl, hw⟩
  subst hw
  have x2 := f1.trans (Ext.drew w1)
  have e32 : IntKind.i64.wrap (32 - (32 - (k : Int))) = (k : Int) := by rw [wrap_i64 (by omega) (by omega)]; omega
  by_cases hr : rightP a
  · simp only [hr, decide_true, cond_true, List.getElem?_cons_zero, LdV_some, dec_int, r1.drew.cell, e32]
    refine ⟨by omega, by omega, ?_, x2⟩
    obtain ⟨n, rfl⟩ : ∃ n : Nat, a = (n : Int) := ⟨a.toNat, by have := hr.1; omega⟩
    rw [shr_i64 (by omega), shr_i64 (by omega), int_beq]
    refine decide_eq_decide.2 ?_
    rw [true_and, ← Int.natCast_ediv]
  · simp only [hr, decide_false, cond_false]
    exact ⟨(decide_eq_false fun h => h.1).symm, x2⟩

theorem host_ok (a : Int) (w : World) : c_four_Host a w fun r w' => r = decide (hostP a) ∧ Ext w w' := by
  apply ok_four_Host
  unfold s_four_Host
  refine cm_four_Right (four_right _ _) ?_
  rintro _ w1 ⟨rfl, hw⟩
  subst hw
  by_cases hr : rightP a
  · simp only [hr, decide_true, Bool.not_true, cond_false]
    refine Al_e fun b w2 r2 e2 z2 f2 => ?_
    apply ok_four_one
    unfold s_four_one
    have blk : ∀ i : Nat, i < 3 → ∃ (base bits : Int) (k c : Nat), r2 = r2 ∧ base = (c : Int) ∧ bits = 32 - (k : Int) ∧ k ≤ 32 ∧ ([.int .i64 0, .int .i64 8, .int .i64 2130706432, .int .i64 8, .int .i64 3758096384, .int .i64 3] : List Value)[i * 2]? = some (.int .i64 base) ∧
        ([.int .i64 0, .int .i64 8, .int .i64 2130706432, .int .i64 8, .int .i64 3758096384, .int .i64 3] : List Value)[i * 2 + 1]? = some (.int .i64 bits) ∧ (k, c) = (if i = 0 then (24, 0) else if i = 1 then (24, 2130706432) else (29, 3758096384)) := by
      intro i hi
      have : i = 0 ∨ i = 1 ∨ i = 2 := by omega
      rcases this with rfl | rfl | rfl
      · exact ⟨0, 8, 24, 0, rfl, rfl, rfl, by omega, rfl, rfl, rfl⟩
      · exact ⟨2130706432, 8, 24, 2130706432, rfl, rfl, rfl, by omega, rfl, rfl, rfl⟩
      · exact ⟨3758096384, 3, 29, 3758096384, rfl, rfl, rfl, by omega, rfl, rfl, rfl⟩
    refine LoopP_inv (fun st W => ∃ i : Nat, i ≤ 3 ∧ st.1 = (i : Int) ∧ Ext w2 W ∧ (0 < i → a / 16777216 ≠ 0) ∧ (1 < i → a / 16777216 ≠ 127) ∧ (2 < i → a / 536870912 ≠ 7)) (fun st _ => 3 - st.1.toNat) ⟨0, by omega, rfl, Ext.refl _, by omega, by omega, by omega⟩ ?_
    rintro ⟨x, ⟨⟩⟩ W ⟨i, hi, rfl, hx, h1, h2, h3⟩ next hnext
    by_cases hlt : i < 3
    · have hlt' : ((i : Int) < ((3 : Nat) : Int)) := by omega
      obtain ⟨base, bits, k, c, _, hb, hk, hk2, g1, g2, g3⟩ := blk i hlt
      simp only [hlt', decide_true, cond_true, Ld_eq, LdV_some, dec_int, AtIx_some, add_mk, Nat.zero_add, Nat.add_zero, Int.toNat_natCast, (r2.ext hx).cell, g1, g2]
      refine ⟨by omega, by trivial, Al_f rfl rfl fun d w3 r3 e3 z3 f3 => ?_⟩
      simp only [List.getElem?_cons_zero, List.getElem?_cons_succ, LdV_some, dec_int, add_mk, Nat.zero_add, Nat.add_zero, r3.cell]
      refine cm_four_block_has (has_ok base bits a k c hb hk hk2 w3) ?_
      rintro _ w4 ⟨rfl, f4⟩
      have hi3 : i = 0 ∨ i = 1 ∨ i = 2 := by omega
      have q16 : (2 : Nat) ^ 24 = 16777216 := by decide
      have q29 : (2 : Nat) ^ 29 = 536870912 := by decide
      have fin : (rightP a ∧ a / (2 ^ k : Nat) = ((c / 2 ^ k : Nat) : Int)) ↔ (if i = 0 then a / 16777216 = 0 else if i = 1 then a / 16777216 = 127 else a / 536870912 = 7) := by
        rcases hi3 with rfl | rfl | rfl
        · simp only [if_true, Prod.mk.injEq] at g3 ⊢
          rw [g3.1, g3.2, q16]; simp [hr]
        · simp only [if_true, Prod.mk.injEq, Nat.one_ne_zero, if_false] at g3 ⊢
          rw [g3.1, g3.2, q16]; simp [hr]
        · simp only [show ¬ ((2 : Nat) = 0) by omega, show ¬ ((2 : Nat) = 1) by omega, if_false, Prod.mk.injEq] at g3 ⊢
          rw [g3.1, g3.2, q29]; simp [hr]
      by_cases hh : (rightP a ∧ a / (2 ^ k : Nat) = ((c / 2 ^ k : Nat) : Int))
      · simp only [decide_eq_true hh, cond_true]
        refine ⟨?_, (f2.trans hx).trans (f3.trans f4)⟩
        have hh' := fin.1 hh
        have hr1 := hr.1
        have hr2 := hr.2
        symm
        rw [Bool.not_true]
        refine decide_eq_false fun hp => ?_
        obtain ⟨p1, p2, p3⟩ := hp
        rcases hi3 with rfl | rfl | rfl
        · simp only [if_true] at hh'; omega
        · simp only [Nat.one_ne_zero, if_false, if_true] at hh'; omega
        · simp only [show ¬ ((2 : Nat) = 0) by omega, show ¬ ((2 : Nat) = 1) by omega, if_false] at hh'; omega
      · simp only [decide_eq_false hh, cond_false]
        have hh' := fun h => hh (fin.2 h)
        rw [wrap_i64 (by omega) (by omega)]
        refine hnext _ _ ⟨i + 1, by omega, by simp, hx.trans (f3.trans f4), ?_, ?_, ?_⟩ (by simp only; omega)
        · intro _
          rcases hi3 with rfl | rfl | rfl
          · simpa using hh'
          · exact h1 (by omega)
          · exact h1 (by omega)
        · intro _
          rcases hi3 with rfl | rfl | rfl
          · omega
          · simpa using hh'
          · exact h2 (by omega)
        · intro _
          rcases hi3 with rfl | rfl | rfl
          · omega
          · omega
          · simpa using hh'
    · have hlt' : ¬ ((i : Int) < ((3 : Nat) : Int)) := by omega
      simp only [hlt', decide_false, cond_false]
      have : i = 3 := by omega
      subst this
      refine ⟨?_, f2.trans hx⟩
      have p1 := h1 (by omega)
      have p2 := h2 (by omega)
      have p3 := h3 (by omega)
      have hr1 := hr.1
      have hr2 := hr.2
      rw [Bool.not_false]
      exact (decide_eq_true ⟨by omega, by omega, p2⟩).symm
  · simp only [hr, decide_false, Bool.not_false, cond_true]
    exact ⟨(decide_eq_false fun h => hr h.right).symm, Ext.refl _⟩

theorem rhost_ok (a : Int) (w : World) : c_ref03_Host a w fun r w' => r = decide (hostP a) ∧ w' = w := by
  apply ok_ref03_Host
  unfold s_ref03_Host
  by_cases c1 : a ≥ 16777216
  · by_cases c2 : a < 3758096384
    · simp only [c1, c2, decide_true, cond_true]
      refine ⟨by omega, ?_, by trivial⟩
      rw [Int.tdiv_eq_ediv_of_nonneg (by omega), wrap_i64 (by omega) (by omega)]
      by_cases h : a / 16777216 = 127
      · rw [decide_eq_false fun p : hostP a => p.2.2 h, h]; rfl
      · rw [decide_eq_true (show hostP a from ⟨c1, c2, h⟩)]; simpa using h
    · simp only [c1, c2, decide_true, decide_false, cond_true, cond_false]
      exact ⟨(decide_eq_false fun p => c2 p.2.1).symm, by trivial⟩
  · simp only [c1, decide_false, cond_false]
    exact ⟨(decide_eq_false fun p => c1 p.1).symm, by trivial⟩

theorem mcheck_ok {w : World} (m : Msg) {d : SliceV} (hd : d.len = m.data.length) : c_icmp_Check m.kind m.code m.rest d w fun r w' => r = m.check ∧ Ext w w' := by
  apply ok_icmp_Check
  unfold s_icmp_Check
  refine Al_e fun a w1 r1 e1 z1 f1 => ?_
  intro J
  have hJ : ∀ b, b = (!decide m.fine) → J b w1 := by
    rintro b rfl
    simp only [J, Ld_eq, List.getElem?_cons_zero, List.getElem?_cons_succ, LdV_some, dec_slice, add_mk, Nat.zero_add, r1.cell]
    by_cases hf : m.fine
    · by_cases hs : m.data.length ≤ 65527
      · have : ¬ ((d.len : Int) > 65527) := by omega
        simp only [hf, this, decide_true, decide_false, Bool.not_true, cond_false]
        exact ⟨by simp [Msg.check, hf, hs], f1⟩
      · have : ((d.len : Int) > 65527) := by omega
        simp only [hf, this, decide_true, Bool.not_true, cond_false, cond_true]
        exact ⟨by simp [Msg.check, hf, hs], f1⟩
    · simp only [hf, decide_false, Bool.not_false, cond_true]
      exact ⟨by simp [Msg.check, hf], f1⟩
  simp -zeta only [Ld_eq, List.getElem?_cons_zero, LdV_some, dec_int, add_mk, Nat.zero_add, r1.cell]
  refine cm_be_Fits (fits_ok _ _ _) ?_
  rintro _ w2 ⟨rfl, hw⟩
  subst hw
  by_cases c1 : fitsP m.kind 1
  · simp -zeta only [c1, decide_true, Bool.not_true, cond_false, List.getElem?_cons_zero, List.getElem?_cons_succ, LdV_some, dec_int, r1.cell]
    refine cm_be_Fits (fits_ok _ _ _) ?_
    rintro _ w2 ⟨rfl, hw⟩
    subst hw
    by_cases c2 : fitsP m.code 1
    · simp -zeta only [c2, decide_true, Bool.not_true, cond_false, List.getElem?_cons_zero, List.getElem?_cons_succ, LdV_some, dec_int, r1.cell]
      refine cm_be_Fits (fits_ok _ _ _) ?_
      rintro _ w2 ⟨rfl, hw⟩
      subst hw
      exact hJ _ (congrArg (!·) (decide_eq_decide.2 ⟨fun h => ⟨c1, c2, h⟩, fun h => h.2.2⟩))
    · simp -zeta only [c2, decide_false, Bool.not_false, cond_true]
      exact hJ _ (by rw [decide_eq_false fun h : m.fine => c2 h.2.1]; rfl)
  · simp -zeta only [c1, decide_false, Bool.not_false, cond_true]
    exact hJ _ (by rw [decide_eq_false fun h : m.fine => c1 h.1]; rfl)

theorem rmcheck_ok {w : World} (m : Msg) {d : SliceV} (hd : d.len = m.data.length) : c_ref09_Check m.kind m.code m.rest d w fun r w' => r = m.check ∧ Ext w w' := by
  apply ok_ref09_Check
  unfold s_ref09_Check
  refine Al_e fun a w1 r1 e1 z1 f1 => ?_
  intro J
  have hJ : ∀ b, b = (!decide m.fine) → J b w1 := by
    rintro b rfl
    simp only [J, Ld_eq, List.getElem?_cons_zero, List.getElem?_cons_succ, LdV_some, dec_slice, add_mk, Nat.zero_add, r1.cell]
    by_cases hf : m.fine
    · by_cases hs : m.data.length ≤ 65527
      · have : ¬ ((d.len : Int) > 65527) := by omega
        simp only [hf, this, decide_true, decide_false, Bool.not_true, cond_false]
        exact ⟨by simp [Msg.check, hf, hs], f1⟩
      · have : ((d.len : Int) > 65527) := by omega
        simp only [hf, this, decide_true, Bool.not_true, cond_false, cond_true]
        exact ⟨by simp [Msg.check, hf, hs], f1⟩
    · simp only [hf, decide_false, Bool.not_false, cond_true]
      exact ⟨by simp [Msg.check, hf], f1⟩
  simp -zeta only [Ld_eq, List.getElem?_cons_zero, LdV_some, dec_int, add_mk, Nat.zero_add, r1.cell]
  refine cm_ref01_Fits (rfits_ok _ _ _) ?_
  rintro _ w2 ⟨rfl, hw⟩
  subst hw
  by_cases c1 : fitsP m.kind 1
  · simp -zeta only [c1, decide_true, Bool.not_true, cond_false, List.getElem?_cons_zero, List.getElem?_cons_succ, LdV_some, dec_int, r1.cell]
    refine cm_ref01_Fits (rfits_ok _ _ _) ?_
    rintro _ w2 ⟨rfl, hw⟩
    subst hw
    by_cases c2 : fitsP m.code 1
    · simp -zeta only [c2, decide_true, Bool.not_true, cond_false, List.getElem?_cons_zero, List.getElem?_cons_succ, LdV_some, dec_int, r1.cell]
      refine cm_ref01_Fits (rfits_ok _ _ _) ?_
      rintro _ w2 ⟨rfl, hw⟩
      subst hw
      exact hJ _ (congrArg (!·) (decide_eq_decide.2 ⟨fun h => ⟨c1, c2, h⟩, fun h => h.2.2⟩))
    · simp -zeta only [c2, decide_false, Bool.not_false, cond_true]
      exact hJ _ (by rw [decide_eq_false fun h : m.fine => c2 h.2.1]; rfl)
  · simp -zeta only [c1, decide_false, Bool.not_false, cond_true]
    exact hJ _ (by rw [decide_eq_false fun h : m.fine => c1 h.1]; rfl)

/-- What the building of a message answers. -/
def mbuildR (m : Msg) (w w' : World) (r : SliceV) (e : Int) : Prop :=
  e = m.check ∧ (m.check = 0 → SlB w' r m.bytes) ∧ Ext w w' ∧ (∀ b, SliceV.at r b → w.heap.size ≤ b) ∧ (∀ a, r.a = some a → SliceV.at r a.block)

theorem mbuild_ok {w : World} (m : Msg) {d : SliceV} (hd : SlB w d m.data) : c_icmp_Build m.kind m.code m.rest d w fun r e w' => mbuildR m w w' r e := by
  apply ok_icmp_Build
  unfold s_icmp_Build
  refine Al_e fun a w1 r1 e1 z1 f1 => ?_
  simp only [Ld_eq, List.getElem?_cons_zero, List.getElem?_cons_succ, LdV_some, dec_slice, dec_int, add_mk, Nat.zero_add, Nat.add_zero, r1.cell]
  refine cm_icmp_Check (mcheck_ok m (d := d) hd.1) ?_
  rintro _ w2 ⟨rfl, f2⟩
  have r2 := r1.ext f2
  by_cases hc : m.check = 0
  · obtain ⟨⟨g1, g2, g3⟩, hs⟩ := mcheck_zero hc
    have g1' := fits1 g1
    have g2' := fits1 g2
    simp only [hc, show ((0 : Int) != 0) = false from rfl, cond_false, List.getElem?_cons_zero, List.getElem?_cons_succ, LdV_some, dec_int, r2.cell]
    refine Al_e fun b w3 r3 e3 z3 f3 => ?_
    have rr := r2.ext f3
    simp only [List.getElem?_cons_zero, List.getElem?_cons_succ, LdV_some, dec_int, rr.cell]
    obtain ⟨t, ht⟩ : ∃ t : Nat, m.kind = (t : Int) := ⟨m.kind.toNat, by omega⟩
    obtain ⟨u, hu⟩ : ∃ u : Nat, m.code = (u : Int) := ⟨m.code.toNat, by omega⟩
    rw [ht, hu, u8_of, u8_of] at r3
    have b3 : SlB w3 ⟨some ⟨b, 0, none⟩, 4, 4⟩ (beN 1 m.kind.toNat ++ beN 1 m.code.toNat ++ beN 2 0) := by
      refine SlB.of_buf ?_
      have := SlB.row (l := beN 1 m.kind.toNat ++ beN 1 m.code.toNat ++ beN 2 0) (w := w3) (b := b) (by simpa [bytesV, beN, ht, hu] using r3)
      simpa [beN_len] using this
    refine cm_be_Put (put_ok b3 (by simp [beN_len]) m.rest 4) ?_
    rintro t4 w4 ⟨b4, f4, n4⟩
    have e4 : putL (beN 1 m.kind.toNat ++ beN 1 m.code.toNat ++ beN 2 0) m.rest 4 = beN 1 m.kind.toNat ++ beN 1 m.code.toNat ++ beN 2 0 ++ beN 4 m.rest.toNat := by
      unfold putL; rw [if_pos g3]; rfl
    rw [e4] at b4
    have r4 := rr.ext f4
    simp only [List.getElem?_cons_zero, List.getElem?_cons_succ, LdV_some, dec_slice, r4.cell]
    have x4 : Ext w w4 := ((f1.trans f2).trans f3).trans f4
    refine AppSl_bytes b4 (hd.ext x4) (by simp [beN_len]; omega) fun t5 w5 b5 f5 n5 _ => ?_
    have z3' := ((f1.trans f2).trans f3).size
    have z4 := x4.size
    have x5 : Ext w w5 := x4.new f5 fun y hy h => by have := n4 y h; omega
    have b5 : Buf w5 t5 (bytesV (m.body 0)) := b5
    have l5 := body_len m 0
    refine Al_e fun c w6 r6 e6 z6 f6 => ?_
    refine cm_sum_Of (of_ok (parts_one r6 (SlB.of_buf (b5.ext f6))) (by simp) (by intro q hq; simp only [List.mem_singleton] at hq; subst hq; simp only; omega)) ?_
    rintro _ w7 ⟨rfl, f7⟩
    rw [totP_one]
    have e8 : 65535 - fold (tot (m.body 0)) = m.sum := rfl
    rw [e8]
    have hsl : m.sum < 65536 := by unfold Msg.sum; omega
    have x7 := x5.trans (f6.trans f7)
    have z7 := x7.size
    refine cm_be_Set (set_ok (SlB.of_buf ((b5.ext f6).ext f7)) (by omega) 2 (m.sum : Int) 2) ?_
    rintro s9 e9 w9 ⟨hr9, f9, n9⟩
    obtain ⟨rfl, b9⟩ := setR_in ⟨⟨by omega, by omega⟩, by omega, by simp; omega⟩ (by omega) (by omega) hr9
    refine ⟨hc.symm, fun _ => ?_, x7.trans f9, fun y hy => by have := n9 y hy; omega, fun a ha => b9.at_eq ha⟩
    have eb : (m.body 0).take 2 ++ beN 2 m.sum ++ (m.body 0).drop 4 = m.bytes := by
      unfold Msg.bytes
      rw [body_eq, body_eq]
      simp [beN]
    have := SlB.of_buf b9
    rw [show (2 : Int).toNat = 2 from rfl, Int.toNat_natCast, show (2 + 2 : Nat) = 4 from rfl, eb] at this
    exact this
  · have hc' : (m.check != 0) = true := by simpa using hc
    simp only [hc', cond_true]
    exact ⟨rfl, fun h => absurd h hc, f1.trans f2, (by rintro b ⟨o, h⟩; cases h), (by rintro a h; cases h)⟩

theorem rbytes_ok {w : World} (m : Msg) {d : SliceV} (hd : SlB w d m.data) (hc : m.check = 0) {s : Nat} (hs : s < 65536) : c_ref09_Bytes m.kind m.code m.rest d (s : Int) w fun r w' => Buf w' r (bytesV (m.body s)) ∧ Ext w w' ∧ ∀ b, SliceV.at r b → w.heap.size ≤ b := by
  apply ok_ref09_Bytes
  unfold s_ref09_Bytes
  obtain ⟨⟨g1, g2, g3⟩, hsz⟩ := mcheck_zero hc
  have g1' := fits1 g1
  have g2' := fits1 g2
  refine Al_e fun a w1 r1 e1 z1 f1 => ?_
  simp only [Ld_eq, List.getElem?_cons_zero, List.getElem?_cons_succ, LdV_some, dec_int, add_mk, Nat.zero_add, r1.cell]
  refine Al_e fun b w3 r3 e3 z3 f3 => ?_
  obtain ⟨t, ht⟩ : ∃ t : Nat, m.kind = (t : Int) := ⟨m.kind.toNat, by omega⟩
  obtain ⟨u, hu⟩ : ∃ u : Nat, m.code = (u : Int) := ⟨m.code.toNat, by omega⟩
  rw [ht, hu, u8_of, u8_of] at r3
  have b3 : SlB w3 ⟨some ⟨b, 0, none⟩, 2, 2⟩ (beN 1 m.kind.toNat ++ beN 1 m.code.toNat) := by
    refine SlB.of_buf ?_
    have := SlB.row (l := beN 1 m.kind.toNat ++ beN 1 m.code.toNat) (w := w3) (b := b) (by simpa [bytesV, beN, ht, hu] using r3)
    simpa [beN_len] using this
  refine cm_ref01_Put (rput_ok b3 (by simp [beN_len]) (s : Int) 2 (by omega)) ?_
  rintro t4 w4 ⟨b4, f4, n4⟩
  have rr := ((r1.ext f3).ext f4).drew
  simp only [List.getElem?_cons_zero, List.getElem?_cons_succ, LdV_some, dec_slice, dec_int, rr.cell]
  have e4 : putL (beN 1 m.kind.toNat ++ beN 1 m.code.toNat) (s : Int) 2 = beN 1 m.kind.toNat ++ beN 1 m.code.toNat ++ beN 2 s := by
    unfold putL; rw [if_pos ⟨⟨by omega, by omega⟩, by omega, by simp; omega⟩]; rfl
  rw [e4] at b4
  have hg3 := g3.2.2
  refine cm_ref01_Put (rput_ok ((SlB.of_buf b4).ext (Ext.drew _)) (by simp [beN_len]) m.rest 4 (by simp at hg3; omega)) ?_
  rintro t5 w5 ⟨b5, f5, n5⟩
  have e5 : putL (beN 1 m.kind.toNat ++ beN 1 m.code.toNat ++ beN 2 s) m.rest 4 = beN 1 m.kind.toNat ++ beN 1 m.code.toNat ++ beN 2 s ++ beN 4 m.rest.toNat := by
    unfold putL; rw [if_pos g3]; rfl
  rw [e5] at b5
  have r5 := rr.ext f5
  simp only [true_and, List.getElem?_cons_zero, List.getElem?_cons_succ, r5.cell]
  have x5 : Ext w w5 := ((f1.trans f3).trans (f4.trans (Ext.drew _))).trans f5
  have z4 : w.heap.size ≤ w4.drew.heap.size := ((f1.trans f3).trans (f4.trans (Ext.drew _))).size
  have z5 := x5.size
  refine AppSl_bytes b5 (hd.ext x5) (by simp [beN_len]; omega) fun t6 w6 b6 f6 n6 _ => ?_
  refine ⟨b6, x5.new f6 fun y hy h => by have := n5 y h; omega, fun y hy => ?_⟩
  rcases n6 y hy with h | h
  · have := n5 y h; omega
  · omega

theorem rmbuild_ok {w : World} (m : Msg) {d : SliceV} (hd : SlB w d m.data) : c_ref09_Build m.kind m.code m.rest d w fun r e w' => mbuildR m w w' r e := by
  apply ok_ref09_Build
  unfold s_ref09_Build
  refine Al_e fun a w1 r1 e1 z1 f1 => ?_
  simp only [Ld_eq, List.getElem?_cons_zero, List.getElem?_cons_succ, LdV_some, dec_slice, dec_int, add_mk, Nat.zero_add, Nat.add_zero, r1.cell]
  refine cm_ref09_Check (rmcheck_ok m (d := d) hd.1) ?_
  rintro _ w2 ⟨rfl, f2⟩
  have r2 := (r1.ext f2).drew
  by_cases hc : m.check = 0
  · have hsz := (mcheck_zero hc).2
    simp only [hc, show ((0 : Int) != 0) = false from rfl, cond_false, List.getElem?_cons_zero, List.getElem?_cons_succ, LdV_some, dec_slice, dec_int, r2.cell]
    have x2 : Ext w w2.drew := (f1.trans f2).trans (Ext.drew _)
    refine cm_ref09_Bytes (rbytes_ok m (d := d) (hd.ext x2) hc (s := 0) (by omega)) ?_
    rintro t3 w3 ⟨b3, f3, n3⟩
    simp only [true_and, List.getElem?_cons_zero, List.getElem?_cons_succ, (r2.ext f3).cell]
    refine Al_e fun c w4 r4 e4 z4 f4 => ?_
    have y4 := f3.trans f4
    simp only [true_and, List.getElem?_cons_zero, List.getElem?_cons_succ, (r2.ext y4).cell]
    have l5 := body_len m 0
    refine cm_ref02_Of (rof_ok (parts_one r4 (SlB.of_buf (b3.ext f4))) (by simp) (by intro q hq; simp only [List.mem_singleton] at hq; subst hq; simp only; omega)) ?_
    rintro _ w5 ⟨rfl, f5⟩
    rw [totP_one]
    have e8 : 65535 - fold (tot (m.body 0)) = m.sum := rfl
    rw [e8]
    have hsl : m.sum < 65536 := by unfold Msg.sum; omega
    simp only [true_and, List.getElem?_cons_zero, List.getElem?_cons_succ, (r2.ext (y4.trans f5)).cell]
    have x5 := x2.trans (y4.trans f5)
    refine cm_ref09_Bytes (rbytes_ok m (d := d) (hd.ext x5) hc hsl) ?_
    rintro t6 w6 ⟨b6, f6, n6⟩
    have z5 := x5.size
    exact ⟨hc.symm, fun _ => SlB.of_buf b6, x5.trans f6, fun y hy => by have := n6 y hy; omega, fun a ha => b6.at_eq ha⟩
  · have hc' : (m.check != 0) = true := by simpa using hc
    simp only [hc', cond_true]
    exact ⟨rfl, fun h => absurd h hc, f1.trans f2, (by rintro b ⟨o, h⟩; cases h), (by rintro a h; cases h)⟩



theorem plain_ok {w : World} (p : Pkt) {o d : SliceV} (hd : SlB w d p.data) : c_errs_plain p.tos p.id p.off p.ttl p.proto p.src p.dst p.df p.mf o d w fun r w' => r = plainB p ∧ Ext w w' := by
  apply ok_errs_plain
  unfold s_errs_plain
  refine Al_e fun a w1 r1 e1 z1 f1 => ?_
  simp only [Ld_eq, List.getElem?_cons_zero, List.getElem?_cons_succ, LdV_some, dec_slice, dec_int, add_mk, Nat.zero_add, r1.cell]
  have dl := hd.1
  unfold plainB
  by_cases hp : p.proto = 1
  · have : (p.proto != 1) = false := by simp [hp]
    simp only [this, cond_false, if_pos hp]
    cases hdd : p.data with
    | nil =>
      have : ¬ ((d.len : Int) > 0) := by rw [dl, hdd]; simp
      simp only [this, decide_false, cond_false]
      exact ⟨by trivial, f1⟩
    | cons x xs =>
      have h0 : 0 < p.data.length := by rw [hdd]; simp
      have : ((d.len : Int) > 0) := by omega
      simp only [this, decide_true, cond_true]
      refine byte_at (i := 0) (hd.ext f1) h0 fun a0 hc0 _ => ?_
      have ex : p.data[0] = x := by simp [hdd]
      rw [ex] at hc0
      have := x.toNat_lt
      simp only [LdV_some, dec_int, hc0]
      rw [wrap_i64 (by omega) (by omega)]
      refine cm_icmp_Fault (fault_ok _ _) ?_
      rintro _ w2 ⟨rfl, f2⟩
      exact ⟨by trivial, f1.trans f2⟩
  · have : (p.proto != 1) = true := by simpa using hp
    simp only [this, cond_true, if_neg hp]
    exact ⟨by trivial, f1⟩

/-- The results are this packet, but for its bytes. -/
def PktL (q : Pkt) (t i o l p s d : Int) (df mf : Bool) (op da : SliceV) : Prop :=
  t = q.tos ∧ i = q.id ∧ o = q.off ∧ l = q.ttl ∧ p = q.proto ∧ s = q.src ∧ d = q.dst ∧ df = q.df ∧ mf = q.mf ∧ op.len = q.opts.length ∧ da.len = q.data.length

theorem eopen_ok {w : World} {s : SliceV} {l : List UInt8} (hs : SlB w s l) (hl : l.length ≤ 2 ^ 40) :
    c_errs_open s w fun t i o l' p s' d df mf op da f w' => f = mayB l ∧ (mayB l = true → PktL (field l) t i o l' p s' d df mf op da) ∧ Ext w w' := by
  apply ok_errs_open
  unfold s_errs_open
  refine Al_e fun a w1 r1 e1 z1 f1 => ?_
  refine cm_v4_Quoted (quoted_ok (hs.ext f1) hl) ?_
  rintro _ _ _ _ _ _ _ _ _ op da _ w2 ⟨rfl, ⟨rfl, rfl, rfl, rfl, rfl, rfl, rfl, rfl, rfl, hop, hda⟩, f2⟩
  refine Al_f rfl rfl fun b w3 r3 e3 z3 f3 => ?_
  have x3 : Ext w1 w3 := f2.trans f3
  have fin : ∀ W, Ext w1 W → mayB l = false → StN [(Value.int .i64 0), (Value.int .i64 0), (Value.int .i64 0), (Value.int .i64 0), (Value.int .i64 0), (Value.int .i64 0), (Value.int .i64 0), (Value.bool false), (Value.bool false), (Value.slice none 0 0), (Value.slice none 0 0)] W ⟨a, 0, none⟩ 0 fun w28 =>
      LdV (.int .i64) (w28.cell? ⟨a, 0, none⟩) fun y1 => LdV (.int .i64) (w28.cell? ⟨a, 1, none⟩) fun y2 => LdV (.int .i64) (w28.cell? ⟨a, 2, none⟩) fun y3 => LdV (.int .i64) (w28.cell? ⟨a, 3, none⟩) fun y4 => LdV (.int .i64) (w28.cell? ⟨a, 4, none⟩) fun y5 =>
      LdV (.int .i64) (w28.cell? ⟨a, 5, none⟩) fun y6 => LdV (.int .i64) (w28.cell? ⟨a, 6, none⟩) fun y7 => LdV .bool (w28.cell? ⟨a, 7, none⟩) fun y8 => LdV .bool (w28.cell? ⟨a, 8, none⟩) fun y9 => LdV .slice (w28.cell? ⟨a, 9, none⟩) fun y10 => LdV .slice (w28.cell? ⟨a, 10, none⟩) fun y11 =>
      (false = mayB l ∧ (mayB l = true → PktL (field l) y1 y2 y3 y4 y5 y6 y7 y8 y9 y10 y11) ∧ Ext w w28) := by
    intro W hx he
    refine StN_full (r1.ext hx) rfl rfl fun w28 r28 f28 _ => ?_
    simp only [List.getElem?_cons_zero, List.getElem?_cons_succ, LdV_some, dec_slice, dec_int, dec_bool, r28.cell]
    exact ⟨he.symm, (by intro h; rw [he] at h; cases h), (f1.trans hx).new (f28 (· = a) rfl) fun y hy e => by omega⟩
  by_cases c1 : readE l true = 0
  · have rd : V4.read l true = field l := by unfold V4.read; rw [if_pos c1]
    rw [rd] at hop hda r3
    simp only [c1, show ((0 : Int) != 0) = false from rfl, cond_false, Ld_eq, List.getElem?_cons_zero, List.getElem?_cons_succ, LdV_some, dec_int, add_mk, Nat.zero_add, Nat.add_zero, r3.cell]
    by_cases c2 : (field l).off ≤ 0
    · have c2' : ¬ ((field l).off > 0) := by omega
      simp only [c2', decide_false, cond_false]
      refine cm_four_Host (host_ok _ _) ?_
      rintro _ w4 ⟨rfl, f4⟩
      by_cases c3 : hostP (field l).src
      · simp only [c3, decide_true, Bool.not_true, cond_false, List.getElem?_cons_zero, List.getElem?_cons_succ, LdV_some, dec_int, (r3.ext f4).cell]
        refine cm_four_Host (host_ok _ _) ?_
        rintro _ w5 ⟨rfl, f5⟩
        have x5 : Ext w3 w5.drew := (f4.trans f5).trans (Ext.drew _)
        by_cases c4 : hostP (field l).dst
        · simp only [c4, decide_true, Bool.not_true, cond_false, List.getElem?_cons_zero, List.getElem?_cons_succ, LdV_some, dec_slice, dec_int, dec_bool, (r3.ext x5).cell]
          refine cm_errs_plain (plain_ok (field l) (o := op) (d := da) ((hda.ext f3).ext x5)) ?_
          rintro _ w6 ⟨rfl, f6⟩
          simp only [true_and, List.getElem?_cons_zero, List.getElem?_cons_succ, (r3.ext (x5.trans f6)).cell]
          have x6 := x3.trans (x5.trans f6)
          refine StN_full (r1.ext x6) rfl rfl fun w7 r7 f7 _ => ?_
          simp only [List.getElem?_cons_zero, List.getElem?_cons_succ, LdV_some, dec_slice, dec_int, dec_bool, r7.cell]
          refine ⟨by simp [mayB, c1, c2, c3, c4], fun _ => ⟨rfl, rfl, rfl, rfl, rfl, rfl, rfl, rfl, rfl, hop.1, hda.1⟩, (f1.trans x6).new (f7 (· = a) rfl) fun y hy e => by omega⟩
        · simp only [c4, decide_false, Bool.not_false, cond_true]
          exact fin w5 (x3.trans (f4.trans f5)) (Bool.eq_false_iff.2 fun h => c4 (mayB_iff.1 h).2.2.2.1)
      · simp only [c3, decide_false, Bool.not_false, cond_true]
        exact fin w4 (x3.trans f4) (Bool.eq_false_iff.2 fun h => c3 (mayB_iff.1 h).2.2.1)
    · have c2' : ((field l).off > 0) := by omega
      simp only [c2', decide_true, cond_true]
      exact fin w3 x3 (Bool.eq_false_iff.2 fun h => c2 (mayB_iff.1 h).2.1)
  · have c1' : (readE l true != 0) = true := by simpa using c1
    simp only [c1', cond_true, Ld_eq, add_mk, Nat.zero_add, Nat.add_zero]
    exact fin w3 x3 (Bool.eq_false_iff.2 fun h => c1 (mayB_iff.1 h).1)

theorem rmay_ok {w : World} {s : SliceV} {l : List UInt8} (hs : SlB w s l) (hl : l.length ≤ 2 ^ 40) : c_ref28_May s w fun r w' => r = mayB l ∧ Ext w w' := by
  apply ok_ref28_May
  unfold s_ref28_May
  refine cm_ref05_Quoted (rquoted_ok hs hl) ?_
  rintro _ _ _ _ _ _ _ _ _ op da _ w2 ⟨rfl, ⟨rfl, rfl, rfl, rfl, rfl, rfl, rfl, rfl, rfl, hop, hda⟩, f2⟩
  refine Al_f rfl rfl fun b w3 r3 e3 z3 f3 => ?_
  have x3 := f2.trans f3
  by_cases c1 : readE l true = 0
  · have rd : V4.read l true = field l := by unfold V4.read; rw [if_pos c1]
    rw [rd] at hop hda r3
    simp only [c1, show ((0 : Int) != 0) = false from rfl, cond_false, cond_true, Ld_eq, List.getElem?_cons_zero, List.getElem?_cons_succ, LdV_some, dec_slice, dec_int, add_mk, Nat.zero_add, r3.cell]
    by_cases c2 : (field l).off ≤ 0
    · have c2' : ¬ ((field l).off > 0) := by omega
      simp only [c2', decide_false, cond_false]
      refine cm_ref03_Host (rhost_ok _ _) ?_
      rintro _ w4 ⟨rfl, hw⟩
      subst hw
      by_cases c3 : hostP (field l).src
      · simp only [c3, decide_true, Bool.not_true, cond_false, List.getElem?_cons_zero, List.getElem?_cons_succ, LdV_some, dec_int, r3.cell]
        refine cm_ref03_Host (rhost_ok _ _) ?_
        rintro _ w4 ⟨rfl, hw⟩
        subst hw
        by_cases c4 : hostP (field l).dst
        · simp only [c4, decide_true, Bool.not_true, cond_false, List.getElem?_cons_zero, List.getElem?_cons_succ, LdV_some, dec_slice, dec_int, r3.cell]
          have hm : mayB l = plainB (field l) := by simp [mayB, c1, c2, c3, c4]
          rw [hm]
          unfold plainB
          by_cases hp : (field l).proto = 1
          · have : ((field l).proto != 1) = false := by simp [hp]
            simp only [this, cond_false, if_pos hp]
            have dl := hda.1
            cases hdd : (field l).data with
            | nil =>
              have : ¬ ((da.len : Int) > 0) := by rw [dl, hdd]; simp
              simp only [this, decide_false, cond_false]
              exact ⟨by trivial, x3⟩
            | cons x xs =>
              have h0 : 0 < (field l).data.length := by rw [hdd]; simp
              have : ((da.len : Int) > 0) := by omega
              simp only [this, decide_true, cond_true]
              refine byte_at (i := 0) (hda.ext f3) h0 fun a0 hc0 _ => ?_
              have ex : (field l).data[0] = x := by simp [hdd]
              rw [ex] at hc0
              have := x.toNat_lt
              simp only [LdV_some, dec_int, hc0]
              rw [wrap_i64 (by omega) (by omega)]
              refine cm_ref09_Fault (rfault_ok _ _) ?_
              rintro _ w5 ⟨rfl, hw⟩
              subst hw
              exact ⟨by trivial, x3⟩
          · have : ((field l).proto != 1) = true := by simpa using hp
            simp only [this, cond_true, if_neg hp]
            exact ⟨by trivial, x3⟩
        · simp only [c4, decide_false, Bool.not_false, cond_true]
          exact ⟨(Bool.eq_false_iff.2 fun h => c4 (mayB_iff.1 h).2.2.2.1).symm, x3⟩
      · simp only [c3, decide_false, Bool.not_false, cond_true]
        exact ⟨(Bool.eq_false_iff.2 fun h => c3 (mayB_iff.1 h).2.2.1).symm, x3⟩
    · have c2' : ((field l).off > 0) := by omega
      simp only [c2', decide_true, cond_true]
      exact ⟨(Bool.eq_false_iff.2 fun h => c2 (mayB_iff.1 h).2.1).symm, x3⟩
  · have c1' : (readE l true != 0) = true := by simpa using c1
    simp only [c1', cond_true]
    exact ⟨(Bool.eq_false_iff.2 fun h => c1 (mayB_iff.1 h).1).symm, x3⟩

theorem quote_ok {w : World} {s o d : SliceV} {l : List UInt8} (hs : SlB w s l) (hl : l.length ≤ 2 ^ 40) (p : Pkt) (ho : o.len = p.opts.length) (hd : d.len = p.data.length) (h1 : p.size ≤ l.length) :
    c_errs_quote s p.tos p.id p.off p.ttl p.proto p.src p.dst p.df p.mf o d w fun r w' => Buf w' r (bytesV (l.take (min p.size 548))) ∧ Ext w w' := by
  apply ok_errs_quote
  unfold s_errs_quote
  refine Al_e fun a w1 r1 e1 z1 f1 => ?_
  have hz : p.size = 20 + p.opts.length + p.data.length := rfl
  simp only [Ld_eq, List.getElem?_cons_zero, List.getElem?_cons_succ, LdV_some, dec_slice, dec_int, dec_bool, add_mk, Nat.zero_add, Nat.add_zero, r1.cell]
  refine cm_v4_Size (v4_size _ _ _ _ _ _ _ _ _ _ _ (show o.len ≤ 2 ^ 60 by omega) (show d.len ≤ 2 ^ 60 by omega) _) ?_
  rintro _ w2 ⟨rfl, f2⟩
  have e : (if (548 : Int) < 20 + (({ a := o.a, len := o.len, cap := o.cap } : SliceV).len : Int) + (({ a := d.a, len := d.len, cap := d.cap } : SliceV).len : Int) then (548 : Int) else 20 + (({ a := o.a, len := o.len, cap := o.cap } : SliceV).len : Int) + (({ a := d.a, len := d.len, cap := d.cap } : SliceV).len : Int)) = ((min p.size 548 : Nat) : Int) := by
    simp only [ho, hd, hz]
    split <;> omega
  rw [e]
  refine SubSl_bytes ((hs.ext f1).ext f2) (by omega) (by omega) (by omega) fun s3 hs3 _ => ?_
  rw [show Int.toNat 0 = 0 from rfl, List.drop_zero, Int.toNat_natCast] at hs3
  refine cm_slices_Clone_byte_byte (clone_ok hs3 (by simp; omega)) ?_
  rintro r w4 ⟨b4, _, f4, _⟩
  exact ⟨b4, (f1.trans f2).trans f4⟩

theorem makeR_fail {w : World} {from_ kind code rest e : Int} {l : List UInt8} (h : makeE from_ kind code rest l = e) (he : e ≠ 0) : PktR w (makeR from_ kind code rest l) 0 0 0 0 0 0 0 false false ⟨none, 0, 0⟩ ⟨none, 0, 0⟩ := by
  unfold makeR
  rw [h, if_neg he]
  exact zero_PktR _

theorem make_ok {w : World} {s : SliceV} {l : List UInt8} (hs : SlB w s l) (hl : l.length ≤ 2 ^ 40) (from_ kind code rest : Int) :
    c_errs_Make from_ kind code rest s w fun t i o l' p s' d df mf op da e w' => e = makeE from_ kind code rest l ∧ PktR w' (makeR from_ kind code rest l) t i o l' p s' d df mf op da ∧ Ext w w' := by
  apply ok_errs_Make
  unfold s_errs_Make
  refine Al_e fun a w1 r1 e1 z1 f1 => ?_
  have fin : ∀ (e : Int) W, Ext w1 W → makeE from_ kind code rest l = e → e ≠ 0 → StN [(Value.int .i64 0), (Value.int .i64 0), (Value.int .i64 0), (Value.int .i64 0), (Value.int .i64 0), (Value.int .i64 0), (Value.int .i64 0), (Value.bool false), (Value.bool false), (Value.slice none 0 0), (Value.slice none 0 0)] W ⟨a, 0, none⟩ 0 fun w28 =>
      LdV (.int .i64) (w28.cell? ⟨a, 0, none⟩) fun y1 => LdV (.int .i64) (w28.cell? ⟨a, 1, none⟩) fun y2 => LdV (.int .i64) (w28.cell? ⟨a, 2, none⟩) fun y3 => LdV (.int .i64) (w28.cell? ⟨a, 3, none⟩) fun y4 => LdV (.int .i64) (w28.cell? ⟨a, 4, none⟩) fun y5 =>
      LdV (.int .i64) (w28.cell? ⟨a, 5, none⟩) fun y6 => LdV (.int .i64) (w28.cell? ⟨a, 6, none⟩) fun y7 => LdV .bool (w28.cell? ⟨a, 7, none⟩) fun y8 => LdV .bool (w28.cell? ⟨a, 8, none⟩) fun y9 => LdV .slice (w28.cell? ⟨a, 9, none⟩) fun y10 => LdV .slice (w28.cell? ⟨a, 10, none⟩) fun y11 =>
      (e = makeE from_ kind code rest l ∧ PktR w28 (makeR from_ kind code rest l) y1 y2 y3 y4 y5 y6 y7 y8 y9 y10 y11 ∧ Ext w w28) := by
    intro e W hx he hne
    refine StN_full (r1.ext hx) rfl rfl fun w28 r28 f28 _ => ?_
    simp only [List.getElem?_cons_zero, List.getElem?_cons_succ, LdV_some, dec_slice, dec_int, dec_bool, r28.cell]
    exact ⟨he.symm, makeR_fail he hne, (f1.trans hx).new (f28 (· = a) rfl) fun y hy e => by omega⟩
  refine cm_errs_open (eopen_ok (hs.ext f1) hl) ?_
  rintro t i o l' p s' d df mf op da _ w2 ⟨rfl, hp, f2⟩
  refine Al_f rfl rfl fun b w3 r3 e3 z3 f3 => ?_
  have x3 := f2.trans f3
  by_cases hm : mayB l = true
  · obtain ⟨rfl, rfl, rfl, rfl, rfl, rfl, rfl, rfl, rfl, hop, hda⟩ := hp hm
    have hq := mayB_iff.1 hm
    have hz := field_size (read_open hq.1)
    simp only [hm, Bool.not_true, cond_false, Ld_eq, List.getElem?_cons_zero, List.getElem?_cons_succ, LdV_some, dec_slice, dec_int, dec_bool, add_mk, Nat.zero_add, Nat.add_zero, r3.cell]
    refine cm_errs_quote (quote_ok ((hs.ext f1).ext x3) hl (field l) (o := op) (d := da) hop hda hz.2) ?_
    rintro r4 w4 ⟨b4, f4⟩
    refine Al_f rfl rfl fun c w5 r5 e5 z5 f5 => ?_
    simp only [List.getElem?_cons_zero, List.getElem?_cons_succ, LdV_some, dec_slice, dec_int, add_mk, Nat.zero_add, Nat.add_zero, r5.cell]
    refine cm_icmp_Build (mbuild_ok (makeM kind code rest l) (d := r4) (SlB.of_buf (b4.ext f5))) ?_
    rintro r6 e6 w6 ⟨rfl, b6, f6, n6, n6'⟩
    have y6 := f4.trans (f5.trans f6)
    have x6 := x3.trans y6
    by_cases hc : (makeM kind code rest l).check = 0
    · simp only [hc, show ((0 : Int) != 0) = false from rfl, cond_false, List.getElem?_cons_zero, List.getElem?_cons_succ, LdV_some, dec_int, (r3.ext y6).cell]
      refine Al_f rfl rfl fun g w7 r7 e7 z7 f7 => ?_
      simp only [List.getElem?_cons_zero, List.getElem?_cons_succ, LdV_some, dec_slice, dec_int, dec_bool, add_mk, Nat.zero_add, Nat.add_zero, r7.cell]
      have b6 := b6 hc
      have hbl := b6.1
      have hml : (makeM kind code rest l).bytes.length = 8 + (makeM kind code rest l).data.length := body_len _ _
      have hdl := (mcheck_zero hc).2
      refine cm_v4_Check (check_ok (makeP from_ kind code rest l) (o := ⟨none, 0, 0⟩) (d := r6) rfl hbl (by simp [makeP]) (by show (makeM kind code rest l).bytes.length ≤ 2 ^ 46; omega)) ?_
      rintro _ w8 ⟨rfl, f8⟩
      have x8 := x6.trans (f7.trans f8)
      by_cases hk : (makeP from_ kind code rest l).check = 0
      · simp only [hk, show ((0 : Int) != 0) = false from rfl, cond_false, List.getElem?_cons_zero, List.getElem?_cons_succ, LdV_some, dec_slice, dec_int, dec_bool, (r7.ext f8).cell]
        refine StN_full (r1.ext x8) rfl rfl fun w9 r9 f9 _ => ?_
        simp only [List.getElem?_cons_zero, List.getElem?_cons_succ, LdV_some, dec_slice, dec_int, dec_bool, r9.cell]
        have me : makeE from_ kind code rest l = 0 := by unfold makeE; rw [if_pos hm, if_pos hc, if_pos hk]
        refine ⟨me.symm, ?_, (f1.trans x8).new (f9 (· = a) rfl) fun y hy e => by omega⟩
        unfold makeR
        rw [if_pos me]
        refine ⟨rfl, rfl, rfl, rfl, rfl, rfl, rfl, rfl, rfl, SlB.nil, ?_⟩
        have z5 : w1.heap.size ≤ w5.heap.size := (x3.trans (f4.trans f5)).size
        exact SlB.fr ((b6.ext f7).ext f8) (f9 (· = a) rfl) fun x hx _ e => by have := n6 _ (n6' x hx); omega
      · have hk' : ((makeP from_ kind code rest l).check != 0) = true := by simpa using hk
        simp only [hk', cond_true]
        exact fin 1 w8 x8 (by unfold makeE; rw [if_pos hm, if_pos hc, if_neg hk]) (by omega)
    · have hc' : ((makeM kind code rest l).check != 0) = true := by simpa using hc
      simp only [hc', cond_true]
      exact fin 1 w6 x6 (by unfold makeE; rw [if_pos hm, if_neg hc]) (by omega)
  · have hm' : mayB l = false := by simpa using hm
    simp only [hm', Bool.not_false, cond_true, Ld_eq, add_mk, Nat.zero_add, Nat.add_zero]
    exact fin 11 w3 x3 (by unfold makeE; rw [if_neg hm]) (by omega)

theorem rmake_ok {w : World} {s : SliceV} {l : List UInt8} (hs : SlB w s l) (hl : l.length ≤ 2 ^ 40) (from_ kind code rest : Int) :
    c_ref28_Make from_ kind code rest s w fun t i o l' p s' d df mf op da e w' => e = makeE from_ kind code rest l ∧ PktR w' (makeR from_ kind code rest l) t i o l' p s' d df mf op da ∧ Ext w w' := by
  apply ok_ref28_Make
  unfold s_ref28_Make
  refine Al_e fun a w1 r1 e1 z1 f1 => ?_
  have fin : ∀ (e : Int) W, Ext w1 W → makeE from_ kind code rest l = e → e ≠ 0 → StN [(Value.int .i64 0), (Value.int .i64 0), (Value.int .i64 0), (Value.int .i64 0), (Value.int .i64 0), (Value.int .i64 0), (Value.int .i64 0), (Value.bool false), (Value.bool false), (Value.slice none 0 0), (Value.slice none 0 0)] W ⟨a, 0, none⟩ 0 fun w28 =>
      LdV (.int .i64) (w28.cell? ⟨a, 0, none⟩) fun y1 => LdV (.int .i64) (w28.cell? ⟨a, 1, none⟩) fun y2 => LdV (.int .i64) (w28.cell? ⟨a, 2, none⟩) fun y3 => LdV (.int .i64) (w28.cell? ⟨a, 3, none⟩) fun y4 => LdV (.int .i64) (w28.cell? ⟨a, 4, none⟩) fun y5 =>
      LdV (.int .i64) (w28.cell? ⟨a, 5, none⟩) fun y6 => LdV (.int .i64) (w28.cell? ⟨a, 6, none⟩) fun y7 => LdV .bool (w28.cell? ⟨a, 7, none⟩) fun y8 => LdV .bool (w28.cell? ⟨a, 8, none⟩) fun y9 => LdV .slice (w28.cell? ⟨a, 9, none⟩) fun y10 => LdV .slice (w28.cell? ⟨a, 10, none⟩) fun y11 =>
      (e = makeE from_ kind code rest l ∧ PktR w28 (makeR from_ kind code rest l) y1 y2 y3 y4 y5 y6 y7 y8 y9 y10 y11 ∧ Ext w w28) := by
    intro e W hx he hne
    refine StN_full (r1.ext hx) rfl rfl fun w28 r28 f28 _ => ?_
    simp only [List.getElem?_cons_zero, List.getElem?_cons_succ, LdV_some, dec_slice, dec_int, dec_bool, r28.cell]
    exact ⟨he.symm, makeR_fail he hne, (f1.trans hx).new (f28 (· = a) rfl) fun y hy e => by omega⟩
  refine cm_ref28_May (rmay_ok (hs.ext f1) hl) ?_
  rintro _ w2 ⟨rfl, f2⟩
  by_cases hm : mayB l = true
  · have hq := mayB_iff.1 hm
    have hz := field_size (read_open hq.1)
    simp only [hm, Bool.not_true, cond_false]
    refine cm_ref05_Quoted (rquoted_ok ((hs.ext f1).ext f2) hl) ?_
    have rd : V4.read l true = field l := by unfold V4.read; rw [if_pos hq.1]
    rw [rd]
    rintro _ _ _ _ _ _ _ _ _ op da _ w2' ⟨rfl, ⟨rfl, rfl, rfl, rfl, rfl, rfl, rfl, rfl, rfl, hop, hda⟩, f2'⟩
    refine Al_f rfl rfl fun b w3 r3 e3 z3 f3 => ?_
    have x3 := (f2.trans f2').trans f3
    have ol := hop.1
    have dl := hda.1
    have hlo := field_opts_len (l := l)
    have hzz : (field l).size = 20 + (field l).opts.length + (field l).data.length := rfl
    simp only [Ld_eq, List.getElem?_cons_zero, List.getElem?_cons_succ, LdV_some, dec_slice, dec_int, dec_bool, add_mk, Nat.zero_add, Nat.add_zero, r3.cell]
    refine cm_ref05_Size (ref05_size_ok _ _ _ _ _ _ _ _ _ _ _ (show op.len ≤ 2 ^ 60 by omega) (show da.len ≤ 2 ^ 60 by omega) _) ?_
    rintro _ w4 ⟨rfl, f4⟩
    have e : (if (548 : Int) < 20 + (({ a := op.a, len := op.len, cap := op.cap } : SliceV).len : Int) + (({ a := da.a, len := da.len, cap := da.cap } : SliceV).len : Int) then (548 : Int) else 20 + (({ a := op.a, len := op.len, cap := op.cap } : SliceV).len : Int) + (({ a := da.a, len := da.len, cap := da.cap } : SliceV).len : Int)) = ((min (field l).size 548 : Nat) : Int) := by
      simp only [ol, dl, hzz]
      split <;> omega
    rw [e]
    refine SubSl_bytes (((hs.ext f1).ext x3).ext f4) (by omega) (by omega) (by omega) fun s5 hs5 _ => ?_
    rw [show Int.toNat 0 = 0 from rfl, List.drop_zero, Int.toNat_natCast] at hs5
    refine cm_ref09_Build (rmbuild_ok (makeM kind code rest l) (d := s5) hs5) ?_
    rintro r6 e6 w6 ⟨rfl, b6, f6, n6, n6'⟩
    have y6 := f4.trans f6
    have x6 := x3.trans y6
    by_cases hc : (makeM kind code rest l).check = 0
    · simp only [hc, show ((0 : Int) != 0) = false from rfl, cond_false, List.getElem?_cons_zero, List.getElem?_cons_succ, LdV_some, dec_int, (r3.ext y6).cell]
      refine Al_f rfl rfl fun g w7 r7 e7 z7 f7 => ?_
      simp only [List.getElem?_cons_zero, List.getElem?_cons_succ, LdV_some, dec_slice, dec_int, dec_bool, add_mk, Nat.zero_add, Nat.add_zero, r7.cell]
      have b6 := b6 hc
      have hbl := b6.1
      have hml : (makeM kind code rest l).bytes.length = 8 + (makeM kind code rest l).data.length := body_len _ _
      have hdl := (mcheck_zero hc).2
      refine cm_ref05_Check (rcheck_ok (makeP from_ kind code rest l) (o := ⟨none, 0, 0⟩) (d := r6) rfl hbl (by simp [makeP]) (by show (makeM kind code rest l).bytes.length ≤ 2 ^ 46; omega)) ?_
      rintro _ w8 ⟨rfl, f8⟩
      have x8 := x6.trans (f7.trans f8)
      by_cases hk : (makeP from_ kind code rest l).check = 0
      · simp only [hk, show ((0 : Int) != 0) = false from rfl, cond_false, List.getElem?_cons_zero, List.getElem?_cons_succ, LdV_some, dec_slice, dec_int, dec_bool, (r7.ext f8).cell]
        refine StN_full (r1.ext x8) rfl rfl fun w9 r9 f9 _ => ?_
        simp only [List.getElem?_cons_zero, List.getElem?_cons_succ, LdV_some, dec_slice, dec_int, dec_bool, r9.cell]
        have me : makeE from_ kind code rest l = 0 := by unfold makeE; rw [if_pos hm, if_pos hc, if_pos hk]
        refine ⟨me.symm, ?_, (f1.trans x8).new (f9 (· = a) rfl) fun y hy e => by omega⟩
        unfold makeR
        rw [if_pos me]
        refine ⟨rfl, rfl, rfl, rfl, rfl, rfl, rfl, rfl, rfl, SlB.nil, ?_⟩
        have z5 : w1.heap.size ≤ w4.heap.size := (x3.trans f4).size
        exact SlB.fr ((b6.ext f7).ext f8) (f9 (· = a) rfl) fun x hx _ e => by have := n6 _ (n6' x hx); omega
      · have hk' : ((makeP from_ kind code rest l).check != 0) = true := by simpa using hk
        simp only [hk', cond_true]
        exact fin 1 w8 x8 (by unfold makeE; rw [if_pos hm, if_pos hc, if_neg hk]) (by omega)
    · have hc' : ((makeM kind code rest l).check != 0) = true := by simpa using hc
      simp only [hc', cond_true]
      exact fin 1 w6 x6 (by unfold makeE; rw [if_pos hm, if_neg hc]) (by omega)
  · have hm' : mayB l = false := by simpa using hm
    simp only [hm', Bool.not_false, cond_true, Ld_eq, add_mk, Nat.zero_add, Nat.add_zero]
    exact fin 11 w2 f2 (by unfold makeE; rw [if_neg hm]) (by omega)



/-! ### A datagram -/

theorem rmod_ok (a b : Int) (ha : 0 ≤ a ∧ a < 2 ^ 62) (hb : 0 < b ∧ b ≤ 2 ^ 40) (w : World) : c_ref07_mod a b w fun r w' => r = a % b ∧ w' = w := by
  apply ok_ref07_mod
  unfold s_ref07_mod
  refine ⟨by omega, by omega, ?_, rfl⟩
  rw [Int.tmod_eq_emod_of_nonneg ha.1]
  have h1 := Int.emod_nonneg a (b := b) (by omega)
  have h2 := Int.emod_lt_of_pos a hb.1
  rw [wrap_i64 (by omega) (by omega), Int.tmod_eq_emod_of_nonneg (by omega), Int.add_emod_right, Int.emod_emod]

theorem rpseudo_ok {w : World} {src dst proto z : Int} (h1 : 0 ≤ src ∧ src < 2 ^ 62) (h2 : 0 ≤ dst ∧ dst < 2 ^ 62) (h3 : 0 ≤ proto ∧ proto < 2 ^ 62) (h4 : 0 ≤ z ∧ z < 2 ^ 62) :
    c_ref07_Pseudo src dst proto z w fun r w' => (∃ l : List UInt8, SlB w' r l ∧ l.length ≤ 100) ∧ Ext w w' := by
  apply ok_ref07_Pseudo
  unfold s_ref07_Pseudo
  have put_len : ∀ l n k, (putL l n k).length ≤ l.length + 4 := fun l n k => by
    unfold putL
    split
    · rename_i h
      have := h.1.2
      simp [beN_len]; omega
    · omega
  have em : ∀ (a b : Int), 0 < b → b ≤ 2 ^ 40 → a % b < 2 ^ 62 := fun a b hb hb2 => by
    have := Int.emod_lt_of_pos a hb; omega
  refine cm_ref07_mod (rmod_ok _ _ h1 (by omega) w) ?_
  rintro _ w0 ⟨rfl, hw⟩
  subst hw
  refine cm_ref01_Put (rput_ok SlB.nil (by simp) _ 4 (em _ _ (by omega) (by omega))) ?_
  rintro t1 w1 ⟨b1, f1, n1⟩
  refine cm_ref07_mod (rmod_ok _ _ h2 (by omega) w1) ?_
  rintro _ w2 ⟨rfl, hw⟩
  subst hw
  have l1 := put_len [] (src % 4294967296) 4
  simp only [List.length_nil] at l1
  refine cm_ref01_Put (rput_ok (SlB.of_buf b1) (by omega) _ 4 (em _ _ (by omega) (by omega))) ?_
  rintro t2 w2 ⟨b2, f2, n2⟩
  have l2 := put_len (putL [] (src % 4294967296) 4) (dst % 4294967296) 4
  generalize putL (putL [] (src % 4294967296) 4) (dst % 4294967296) 4 = q2 at b2 l2
  refine Al_e fun c w3 r3 e3 z3 f3 => ?_
  have b3 : SlB w3 ⟨some ⟨c, 0, none⟩, 1, 1⟩ [0] := SlB.of_buf (SlB.row (l := [0]) (by simpa [bytesV] using r3))
  refine AppSl_bytes (b2.ext f3) b3 (by simp; omega) fun t4 w4 b4 f4 n4 _ => ?_
  have z1' := f1.size
  have x4 : Ext w0 w4 := (f1.trans (f2.trans f3)).new f4 fun y hy h => by have := n2 y h; omega
  refine cm_ref07_mod (rmod_ok _ _ h3 (by omega) w4) ?_
  rintro _ w5 ⟨rfl, hw⟩
  subst hw
  refine cm_ref01_Put (rput_ok (SlB.of_buf b4) (by simp; omega) _ 1 (em _ _ (by omega) (by omega))) ?_
  rintro t5 w5 ⟨b5, f5, n5⟩
  have l5 := put_len (q2 ++ [0]) (proto % 256) 1
  generalize putL (q2 ++ [0]) (proto % 256) 1 = q5 at b5 l5
  simp only [List.length_append, List.length_singleton] at l5
  refine cm_ref07_mod (rmod_ok _ _ h4 (by omega) w5) ?_
  rintro _ w6 ⟨rfl, hw⟩
  subst hw
  refine cm_ref01_Put (rput_ok (SlB.of_buf b5) (by omega) _ 2 (em _ _ (by omega) (by omega))) ?_
  rintro t6 w6 ⟨b6, f6, n6⟩
  have l6 := put_len q5 (z % 65536) 2
  exact ⟨⟨_, SlB.of_buf b6, by omega⟩, (x4.trans f5).trans f6⟩

theorem udpb_ok {w : World} {d : SliceV} {l : List UInt8} (hd : SlB w d l) (hl : l.length ≤ 65527) {src dst : Nat} (h1 : src < 65536) (h2 : dst < 65536) (b : Bool) {s : Nat} (hs : s < 65536) :
    c_ref07_bytes (src : Int) (dst : Int) b d (s : Int) w fun r w' => SlB w' r (beN 2 src ++ beN 2 dst ++ beN 2 (8 + l.length) ++ beN 2 s ++ l) ∧ Ext w w' := by
  apply ok_ref07_bytes
  unfold s_ref07_bytes
  have dl := hd.1
  have put : ∀ {W : World} {t : SliceV} {l : List UInt8} (n k : Nat), SlB W t l → l.length ≤ 100 → fitsP (n : Int) (k : Int) → n < 2 ^ 62 → c_ref01_Put t (n : Int) (k : Int) W fun r w' => Buf w' r (bytesV (l ++ beN k n)) ∧ Ext W w' ∧ (∀ b, SliceV.at r b → W.heap.size ≤ b) := by
    intro W t l n k h1 h2 h3 h4
    refine cm_ref01_Put (rput_ok h1 (by omega) (n : Int) (k : Int) (by omega)) ?_
    rintro r w' ⟨h5, h6, h7⟩
    refine ⟨?_, h6, h7⟩
    simpa [putL, h3] using h5
  have fit : ∀ n : Nat, n < 65536 → fitsP (n : Int) ((2 : Nat) : Int) := fun n h => ⟨⟨by omega, by omega⟩, by omega, by simp; omega⟩
  refine Al_e fun a w1 r1 e1 z1 f1 => ?_
  have r1d := r1.drew
  simp only [Ld_eq, List.getElem?_cons_zero, List.getElem?_cons_succ, LdV_some, dec_int, add_mk, Nat.zero_add, r1d.cell]
  refine cm_ref01_Put (put src 2 SlB.nil (by simp) (fit _ h1) (by omega)) ?_
  rintro t2 w2 ⟨b2, f2, n2⟩
  simp only [true_and, List.getElem?_cons_zero, List.getElem?_cons_succ, (r1d.ext f2).cell]
  refine cm_ref01_Put (put dst 2 (SlB.of_buf b2) (by simp [beN_len]) (fit _ h2) (by omega)) ?_
  rintro t3 w3 ⟨b3, f3, n3⟩
  have r3 := (r1d.ext f2).ext f3
  simp only [List.getElem?_cons_zero, List.getElem?_cons_succ, LdV_some, dec_slice, r3.cell]
  rw [wrap_i64 (by omega) (by omega), show (8 + (d.len : Int)) = ((8 + l.length : Nat) : Int) by omega]
  refine cm_ref01_Put (put (8 + l.length) 2 (SlB.of_buf b3) (by simp [beN_len]) (fit _ (by omega)) (by omega)) ?_
  rintro t4 w4 ⟨b4, f4, n4⟩
  refine cm_ref01_Put (put s 2 (SlB.of_buf b4) (by simp [beN_len]) (fit _ hs) (by omega)) ?_
  rintro t5 w5 ⟨b5, f5, n5⟩
  have r5 := (r3.ext f4).ext f5
  simp only [List.getElem?_cons_zero, List.getElem?_cons_succ, LdV_some, dec_slice, r5.cell]
  have x4 : Ext w w4 := (f1.trans (Ext.drew _)).trans ((f2.trans f3).trans f4)
  have z4 := x4.size
  refine AppSl_bytes b5 (hd.ext (x4.trans f5)) (by simp [beN_len]; omega) fun t6 w6 b6 f6 n6 _ => ?_
  exact ⟨SlB.of_buf (by simpa using b6), (x4.trans f5).new f6 fun y hy h => by have := n5 y h; omega⟩

theorem udp_ok {w : World} {d : SliceV} {l : List UInt8} (hd : SlB w d l) (hl : l.length ≤ 65527) {a b src dst : Nat} (ha : a < 2 ^ 40) (hb : b < 2 ^ 40) (h1 : src < 65536) (h2 : dst < 65536) :
    c_ref07_Build (a : Int) (b : Int) (src : Int) (dst : Int) false d w fun r e w' => e = 0 ∧ (∃ m : List UInt8, SlB w' r m ∧ m.length = 8 + l.length) ∧ Ext w w' := by
  apply ok_ref07_Build
  unfold s_ref07_Build
  have dl := hd.1
  refine Al_e fun c w1 r1 e1 z1 f1 => ?_
  simp only [Ld_eq, List.getElem?_cons_zero, List.getElem?_cons_succ, LdV_some, dec_slice, dec_int, dec_bool, add_mk, Nat.zero_add, Nat.add_zero, r1.cell]
  have fit : ∀ n : Nat, n < 65536 → fitsP (n : Int) 2 := fun n h => ⟨⟨by omega, by omega⟩, by omega, by simp; omega⟩
  have hchk : c_ref07_Check (src : Int) (dst : Int) false ⟨d.a, d.len, d.cap⟩ w1 fun r w' => r = 0 ∧ Ext w1 w' := by
    apply ok_ref07_Check
    unfold s_ref07_Check
    refine Al_e fun c w2 r2 e2 z2 f2 => ?_
    simp only [cond_true, Ld_eq, List.getElem?_cons_zero, LdV_some, dec_int, add_mk, Nat.zero_add, r2.cell]
    refine cm_ref01_Fits (rfits_ok _ _ _) ?_
    rintro r w3 ⟨hr, hw⟩
    rw [decide_eq_true (fit _ h1)] at hr
    subst hr hw
    simp only [Bool.not_true, cond_false, List.getElem?_cons_zero, List.getElem?_cons_succ, LdV_some, dec_int, r2.cell]
    refine cm_ref01_Fits (rfits_ok _ _ _) ?_
    rintro r w3 ⟨hr, hw⟩
    rw [decide_eq_true (fit _ h2)] at hr
    subst hr hw
    have : ¬ ((d.len : Int) > 65527) := by omega
    simp only [Bool.not_true, this, decide_false, cond_false, List.getElem?_cons_zero, List.getElem?_cons_succ, LdV_some, dec_slice, r2.cell]
    exact ⟨by trivial, f2⟩
  refine cm_ref07_Check hchk ?_
  rintro _ w2 ⟨rfl, f2⟩
  have r2 := r1.ext f2
  simp only [show ((0 : Int) != 0) = false from rfl, cond_false, List.getElem?_cons_zero, List.getElem?_cons_succ, LdV_some, dec_slice, dec_int, dec_bool, r2.cell]
  refine cm_ref07_bytes (udpb_ok (s := 0) ((hd.ext f1).ext f2) hl h1 h2 false (by omega)) ?_
  rintro t3 w3 ⟨b3, f3⟩
  have l3 := b3.1
  simp only [List.length_append, beN_len] at l3
  simp only [cond_false, List.getElem?_cons_zero, List.getElem?_cons_succ, LdV_some, dec_bool, (r2.ext f3).cell]
  refine cm_ref07_Pseudo (rpseudo_ok (by omega) (by omega) (by omega) (by omega)) ?_
  rintro t4 w4 ⟨⟨q4, b4, l4⟩, f4⟩
  refine Al_e fun g w5 r5 e5 z5 f5 => ?_
  have hp : Parts w5 ⟨some ⟨g, 0, none⟩, 2, 2⟩ [(t4, q4), (t3, beN 2 src ++ beN 2 dst ++ beN 2 (8 + l.length) ++ beN 2 0 ++ l)] := by
    refine ⟨rfl, fun i p hi => ?_⟩
    match i with
    | 0 =>
      simp at hi
      subst hi
      exact ⟨g, 0, rfl, by rw [r5.cell]; rfl, b4.ext f5⟩
    | 1 =>
      simp at hi
      subst hi
      exact ⟨g, 0, rfl, by rw [r5.cell]; rfl, by simpa using (b3.ext f4).ext f5⟩
    | i + 2 => simp at hi
  refine cm_ref02_Of (rof_ok hp (by simp) (by
    intro q hq
    simp only [List.mem_cons, List.not_mem_nil, or_false] at hq
    rcases hq with rfl | rfl
    · simp only; omega
    · simp only [List.length_append, beN_len]; omega)) ?_
  rintro _ w6 ⟨rfl, f6⟩
  generalize hsv : 65535 - fold (totP [(t4, q4), (t3, beN 2 src ++ beN 2 dst ++ beN 2 (8 + l.length) ++ beN 2 0 ++ l)]) = sv
  have hsv2 : sv < 65536 := by omega
  have y6 := f3.trans (f4.trans (f5.trans f6))
  have x6 := (f1.trans f2).trans y6
  have fin : ∀ v : Nat, v < 65536 → c_ref07_bytes (src : Int) (dst : Int) false ⟨d.a, d.len, d.cap⟩ (v : Int) w6 fun r w' => True ∧ (∃ m : List UInt8, SlB w' r m ∧ m.length = 8 + l.length) ∧ Ext w w' := by
    intro v hv
    refine cm_ref07_bytes (udpb_ok (d := d) (hd.ext x6) hl h1 h2 false hv) ?_
    rintro t7 w7 ⟨b7, f7⟩
    exact ⟨trivial, ⟨_, b7, by simp [beN_len]; omega⟩, x6.trans f7⟩
  simp only [List.getElem?_cons_zero, List.getElem?_cons_succ, LdV_some, dec_slice, dec_int, dec_bool, (r2.ext y6).cell]
  by_cases h0 : sv = 0
  · simp only [h0, show (((0 : Nat) : Int) == 0) = true from rfl, cond_true]
    have h9 := fin 65535 (by omega)
    rw [show ((65535 : Nat) : Int) = 65535 from rfl] at h9
    exact h9
  · have : ((sv : Int) == 0) = false := by rw [int_beq]; exact decide_eq_false (by omega)
    simp only [this, cond_false]
    exact fin sv hsv2

theorem datagram_ok {w : World} {d : SliceV} {l : List UInt8} (hd : SlB w d l) (hl : l.length ≤ 60000) {a b src dst ttl : Nat} (ha : a < 4294967296) (hb : b < 4294967296) (h1 : src < 65536) (h2 : dst < 65536) (h3 : ttl < 256) :
    c_plain_Datagram (a : Int) (b : Int) (src : Int) (dst : Int) (ttl : Int) d w fun r w' => (∃ p : Pkt, p.check = 0 ∧ SlB w' r p.bytes ∧ p.off = 0 ∧ p.proto = 17 ∧ p.src = (a : Int) ∧ p.dst = (b : Int) ∧ p.opts = [] ∧ p.data.length = 8 + l.length) ∧ Ext w w' := by
  apply ok_plain_Datagram
  unfold s_plain_Datagram
  refine cm_ref07_Build (udp_ok hd (by omega) (by omega) (by omega) h1 h2) ?_
  rintro r _ w1 ⟨rfl, ⟨m, hm, lm⟩, f1⟩
  refine cm_ref05_Build (rbuild_ok (⟨0, 0, 0, ttl, 17, a, b, false, false, [], m⟩ : Pkt) (o := ⟨none, 0, 0⟩) (d := r) SlB.nil hm (by simp) (by show m.length ≤ 2 ^ 46; omega)) ?_
  rintro t e w2 ⟨he, _, hb2, f2, _⟩
  have hc : (⟨0, 0, 0, ttl, 17, a, b, false, false, [], m⟩ : Pkt).check = 0 := by
    have fine : (⟨0, 0, 0, ttl, 17, a, b, false, false, [], m⟩ : Pkt).fine :=
      ⟨⟨⟨⟨by omega, by omega⟩, by simp, by simp⟩, ⟨⟨by omega, by omega⟩, by simp, by simp; omega⟩, ⟨⟨by omega, by omega⟩, by simp, by simp⟩, ⟨⟨by omega, by omega⟩, by simp, by simp⟩⟩,
        ⟨⟨by simp, by simp; omega⟩, ⟨by simp, by simp; omega⟩⟩, ⟨by simp, by simp, by simp, by simp⟩, by simp, by simp⟩
    have sh : (⟨0, 0, 0, ttl, 17, a, b, false, false, [], m⟩ : Pkt).short := ⟨by simp; omega, by simp; omega⟩
    unfold Pkt.check
    rw [if_pos fine, if_pos sh]
  exact ⟨⟨_, hc, SlB.of_buf (hb2 hc), rfl, rfl, rfl, rfl, rfl, lm⟩, f1.trans f2⟩

end Go.Proofs
