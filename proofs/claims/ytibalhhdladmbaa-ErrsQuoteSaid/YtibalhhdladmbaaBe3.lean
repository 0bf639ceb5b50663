import Derived.Test.YtibalhhdladmbaaBe2
/- Sums, addresses and the document's numbers in bytes. -/
namespace Go.Proofs
open Gp Gp.V4
set_option maxRecDepth 100000

theorem fold_ok {m : Nat} (hm : m < 2 ^ 62) (w : World) : c_sum_Fold (m : Int) w fun r w' => r = (fold m : Int) ∧ w' = w := by
  apply ok_sum_Fold
  unfold s_sum_Fold
  have h0 : ¬ ((0 : Int) > (m : Int)) := by omega
  simp only [h0, if_false]
  refine LoopP_inv (fun st W => W = w ∧ ∃ x : Nat, x < 2 ^ 62 ∧ st.1 = (x : Int) ∧ fold x = fold m) (fun st _ => st.1.toNat) ⟨rfl, m, hm, rfl, rfl⟩ ?_
  rintro ⟨x, ⟨⟩⟩ W ⟨rfl, n, hn, rfl, hf⟩ next hnext
  by_cases hlt : 65535 < n
  · have hlt' : ((n : Int) > 65535) := by omega
    simp only [hlt', decide_true, cond_true]
    refine ⟨by omega, ?_⟩
    have e1 : andI .i64 (n : Int) 65535 = ((n % 65536 : Nat) : Int) := by
      have := and_i64 (a := n) (b := 65535) (by omega) (by omega)
      rw [show (65535 : Nat) = 2 ^ 16 - 1 by decide, and_low] at this
      exact this
    have e2 : shrI .i64 (n : Int) 16 = ((n / 65536 : Nat) : Int) := shr_i64 (a := n) (k := 16) (by omega)
    rw [e1, e2, wrap_i64 (by omega) (by omega)]
    exact hnext _ _ ⟨rfl, n % 65536 + n / 65536, by omega, by simp only; omega, by rw [fold_step hlt, hf]⟩ (by simp only; omega)
  · have hlt' : ¬ ((n : Int) > 65535) := by omega
    simp only [hlt', decide_false, cond_false]
    exact ⟨by rw [← hf, fold_small (by omega)], by trivial⟩

theorem rfold_ok {m : Nat} (hm : m < 2 ^ 62) (w : World) : c_ref02_Fold (m : Int) w fun r w' => r = (fold m : Int) ∧ w' = w := by
  apply ok_ref02_Fold
  unfold s_ref02_Fold
  have h0 : ¬ ((m : Int) < 0) := by omega
  simp only [h0, decide_false, cond_false]
  refine LoopP_inv (fun st W => W = w ∧ ∃ x : Nat, x < 2 ^ 62 ∧ st.1 = (x : Int) ∧ fold x = fold m) (fun st _ => st.1.toNat) ⟨rfl, m, hm, rfl, rfl⟩ ?_
  rintro ⟨x, ⟨⟩⟩ W ⟨rfl, n, hn, rfl, hf⟩ next hnext
  by_cases hlt : 65535 < n
  · have hlt' : ((n : Int) > 65535) := by omega
    simp only [hlt', decide_true, cond_true]
    refine ⟨by omega, by omega, ?_⟩
    rw [Int.tmod_eq_emod_of_nonneg (by omega), Int.tdiv_eq_ediv_of_nonneg (by omega), wrap_i64 (n := (n : Int) / 65536) (by omega) (by omega), wrap_i64 (by omega) (by omega)]
    exact hnext _ _ ⟨rfl, n % 65536 + n / 65536, by omega, by simp only; omega, by rw [fold_step hlt, hf]⟩ (by simp only; omega)
  · have hlt' : ¬ ((n : Int) > 65535) := by omega
    simp only [hlt', decide_false, cond_false]
    exact ⟨by rw [← hf, fold_small (by omega)], by trivial⟩

theorem totP_lt {ps : List (SliceV × List UInt8)} (hn : ps.length ≤ 64) (hl : ∀ p ∈ ps, p.2.length ≤ 2 ^ 40) (i : Nat) : totP (ps.take i) < 2 ^ 62 := by
  have h1 := totP_le (ps := ps.take i) (n := 2 ^ 40) fun p hp => hl p (List.mem_of_mem_take hp)
  have h2 : (ps.take i).length ≤ 64 := by simp; omega
  have h3 : (ps.take i).length * (65535 * 2 ^ 40) ≤ 64 * (65535 * 2 ^ 40) := Nat.mul_le_mul_right _ h2
  omega

theorem totP_lt' {ps : List (SliceV × List UInt8)} (hn : ps.length ≤ 64) (hl : ∀ p ∈ ps, p.2.length ≤ 2 ^ 40) : totP ps < 2 ^ 62 := by
  have := totP_lt hn hl ps.length
  rwa [List.take_length] at this

theorem add_ok {w : World} {s : SliceV} {ps : List (SliceV × List UInt8)} (hs : Parts w s ps) (hn : ps.length ≤ 64) (hl : ∀ p ∈ ps, p.2.length ≤ 2 ^ 40) :
    c_sum_Add s w fun r w' => r = (fold (totP ps) : Int) ∧ Ext w w' := by
  apply ok_sum_Add
  unfold s_sum_Add
  refine cm_sum_total (total_ok hs hn hl) ?_
  rintro _ w1 ⟨rfl, f1⟩
  refine cm_sum_Fold (fold_ok (totP_lt' hn hl) w1) ?_
  rintro _ _ ⟨rfl, rfl⟩
  exact ⟨by trivial, f1⟩

theorem of_ok {w : World} {s : SliceV} {ps : List (SliceV × List UInt8)} (hs : Parts w s ps) (hn : ps.length ≤ 64) (hl : ∀ p ∈ ps, p.2.length ≤ 2 ^ 40) :
    c_sum_Of s w fun r w' => r = ((65535 - fold (totP ps) : Nat) : Int) ∧ Ext w w' := by
  apply ok_sum_Of
  unfold s_sum_Of
  refine cm_sum_Add (add_ok hs hn hl) ?_
  rintro _ w1 ⟨rfl, f1⟩
  have := fold_lt (totP ps)
  exact ⟨by rw [wrap_i64 (by omega) (by omega)]; omega, f1⟩

theorem sright_ok {w : World} {s : SliceV} {ps : List (SliceV × List UInt8)} (hs : Parts w s ps) (hn : ps.length ≤ 64) (hl : ∀ p ∈ ps, p.2.length ≤ 2 ^ 40) :
    c_sum_Right s w fun r w' => r = decide (fold (totP ps) = 65535) ∧ Ext w w' := by
  apply ok_sum_Right
  unfold s_sum_Right
  refine cm_sum_Add (add_ok hs hn hl) ?_
  rintro _ w1 ⟨rfl, f1⟩
  refine ⟨?_, f1⟩
  by_cases h : fold (totP ps) = 65535
  · simp [h]
  · simp [h]; omega

theorem parts_one {w : World} {b : Nat} {s : SliceV} {l : List UInt8} (h : Row w b [.slice s.a s.len s.cap]) (hs : SlB w s l) : Parts w ⟨some ⟨b, 0, none⟩, 1, 1⟩ [(s, l)] := by
  refine ⟨rfl, fun i p hi => ?_⟩
  cases i with
  | zero =>
    simp at hi
    subst hi
    exact ⟨b, 0, rfl, by rw [h.cell]; rfl, hs⟩
  | succ i => simp at hi

theorem totP_one (s : SliceV) (l : List UInt8) : totP [(s, l)] = tot l := by simp [totP]

theorem word_ok {w : World} {s : SliceV} {l : List UInt8} (h : SlB w s l) (hl : l.length ≤ 2 ^ 46) {j : Nat} (hj : j < l.length) : c_ref01_Word s (j : Int) w fun r w' => r = (wordAt l j : Int) ∧ Ext w w' := by
  apply ok_ref01_Word
  unfold s_ref01_Word
  have hsl := h.1
  rw [wrap_i64 (n := (j : Int) + 1) (by omega) (by omega)]
  obtain ⟨a, ha, hc⟩ := h.at_ (List.getElem?_eq_getElem hj)
  have hb := l[j].toNat_lt
  by_cases h2 : j + 1 < l.length
  · have h2' : ((j : Int) + 1 < (s.len : Int)) := by omega
    simp only [h2', decide_true, cond_true]
    obtain ⟨a', ha', hc'⟩ := h.at_ (List.getElem?_eq_getElem h2)
    have hb' := l[j + 1].toNat_lt
    refine ⟨a, ha, by omega, by omega, ?_⟩
    rw [Int.toNat_natCast]
    simp only [Nat.mul_one, Ld_eq]
    rw [show w.drew.cell? (a.add j) = w.cell? (a.add j) from rfl, hc]
    simp only [LdV_some, dec_int]
    refine ⟨a', ha', by omega, by omega, ?_⟩
    rw [show ((j : Int) + 1).toNat = j + 1 by omega]
    simp only [Nat.mul_one]
    rw [show w.drew.cell? (a'.add (j + 1)) = w.cell? (a'.add (j + 1)) from rfl, hc']
    simp only [LdV_some, dec_int]
    refine ⟨?_, Ext.drew w⟩
    unfold wordAt
    rw [List.getElem?_eq_getElem hj, List.getElem?_eq_getElem h2]
    simp only [Option.getD_some]
    rw [wrap_i64 (n := (l[j].toNat : Int)) (by omega) (by omega), wrap_i64 (n := (l[j + 1].toNat : Int)) (by omega) (by omega), wrap_i64 (n := (l[j].toNat : Int) * 256) (by omega) (by omega), wrap_i64 (by omega) (by omega)]
    omega
  · have h2' : ¬ ((j : Int) + 1 < (s.len : Int)) := by omega
    simp only [h2', decide_false, cond_false]
    refine ⟨a, ha, by omega, by omega, ?_⟩
    rw [Int.toNat_natCast]
    simp only [Nat.mul_one, Ld_eq, LdV_some, dec_int, hc]
    refine ⟨?_, Ext.refl w⟩
    unfold wordAt
    rw [List.getElem?_eq_getElem hj, List.getElem?_eq_none (by omega)]
    rw [wrap_i64 (n := (l[j].toNat : Int)) (by omega) (by omega), wrap_i64 (by omega) (by omega)]
    simp

theorem radd_ok {w : World} {s : SliceV} {ps : List (SliceV × List UInt8)} (hs : Parts w s ps) (hn : ps.length ≤ 64) (hl : ∀ p ∈ ps, p.2.length ≤ 2 ^ 40) :
    c_ref02_Add s w fun r w' => r = (fold (totP ps) : Int) ∧ Ext w w' := by
  apply ok_ref02_Add
  unfold s_ref02_Add
  have hsl := hs.1
  refine LoopP_inv (fun st W => ∃ i : Nat, i ≤ ps.length ∧ st.2.1 = i ∧ st.1 = (totP (ps.take i) : Int) ∧ Ext w W) (fun st _ => ps.length - st.2.1.toNat) ⟨0, by omega, rfl, by simp [totP], Ext.refl _⟩ ?_
  rintro ⟨n, x, ⟨⟩⟩ W ⟨i, hi, rfl, rfl, hx⟩ next hnext
  by_cases hlt : i < ps.length
  · have hlt' : ((i : Int) < (s.len : Int)) := by omega
    simp only [hlt', decide_true, cond_true]
    generalize hp : ps[i] = p
    have hpm : ps[i]? = some p := by rw [List.getElem?_eq_getElem hlt, hp]
    have hpl := hl p (List.mem_of_getElem? hpm)
    have h0 := totP_lt hn hl i
    have h0' := totP_lt hn hl (i + 1)
    have hsx := hs.fr hx
    refine LoopP_inv (fun st W' => ∃ j : Nat, j ≤ (p.2.length + 1) / 2 ∧ st.2.1 = ((2 * j : Nat) : Int) ∧ st.1 = ((totP (ps.take i) + tot (p.2.take (2 * j)) : Nat) : Int) ∧ Ext w W') (fun st _ => p.2.length + 1 - st.2.1.toNat) ⟨0, by omega, rfl, by simp [tot], hx⟩ ?_
    rintro ⟨n, x, ⟨⟩⟩ W' ⟨j, hj, rfl, rfl, hx'⟩ next' hnext'
    obtain ⟨b, o, ha, hc, hb⟩ := (hs.fr hx').2 i p hpm
    refine ⟨_, ha, by omega, by omega, ?_⟩
    have hpl2 := hb.1
    simp only [Int.toNat_natCast, Nat.mul_one, Ld_eq, LdV_some, dec_slice, add_mk, hc]
    by_cases hlt2 : 2 * j < p.2.length
    · have hlt2' : (((2 * j : Nat) : Int) < (p.1.len : Int)) := by omega
      simp only [hlt2', decide_true, cond_true]
      refine ⟨_, ha, by omega, by omega, ?_⟩
      simp only [Int.toNat_natCast, Nat.mul_one, LdV_some, dec_slice, add_mk, hc]
      refine cm_ref01_Word (word_ok hb (by omega) hlt2) ?_
      rintro _ w2 ⟨rfl, f2⟩
      have := wordAt_lt p.2 (2 * j)
      have h3 := tot_le (p.2.take (2 * j))
      have h4 : 65535 * (p.2.take (2 * j)).length ≤ 65535 * 2 ^ 40 := Nat.mul_le_mul_left _ (by simp; omega)
      rw [wrap_i64 (n := _ + _) (by omega) (by omega), wrap_i64 (by omega) (by omega)]
      refine hnext' _ _ ⟨j + 1, by omega, by simp only; omega, ?_, hx'.trans f2⟩ (by simp only; omega)
      rw [tot_take _ hlt2]
      simp only; omega
    · have hlt2' : ¬ (((2 * j : Nat) : Int) < (p.1.len : Int)) := by omega
      simp only [hlt2', decide_false, cond_false]
      rw [wrap_i64 (by omega) (by omega), List.take_of_length_le (l := p.2) (by omega)]
      exact hnext _ _ ⟨i + 1, by omega, by simp, by rw [totP_take hpm], hx'⟩ (by simp only; omega)
  · have hlt' : ¬ ((i : Int) < (s.len : Int)) := by omega
    simp only [hlt', decide_false, cond_false]
    have : i = ps.length := by omega
    subst this
    rw [List.take_length]
    refine cm_ref02_Fold (rfold_ok (totP_lt' hn hl) W) ?_
    rintro _ _ ⟨rfl, rfl⟩
    exact ⟨by trivial, hx⟩

theorem rof_ok {w : World} {s : SliceV} {ps : List (SliceV × List UInt8)} (hs : Parts w s ps) (hn : ps.length ≤ 64) (hl : ∀ p ∈ ps, p.2.length ≤ 2 ^ 40) :
    c_ref02_Of s w fun r w' => r = ((65535 - fold (totP ps) : Nat) : Int) ∧ Ext w w' := by
  apply ok_ref02_Of
  unfold s_ref02_Of
  refine cm_ref02_Add (radd_ok hs hn hl) ?_
  rintro _ w1 ⟨rfl, f1⟩
  have := fold_lt (totP ps)
  exact ⟨by rw [wrap_i64 (by omega) (by omega)]; omega, f1⟩

theorem rright_ok {w : World} {s : SliceV} {ps : List (SliceV × List UInt8)} (hs : Parts w s ps) (hn : ps.length ≤ 64) (hl : ∀ p ∈ ps, p.2.length ≤ 2 ^ 40) :
    c_ref02_Right s w fun r w' => r = decide (fold (totP ps) = 65535) ∧ Ext w w' := by
  apply ok_ref02_Right
  unfold s_ref02_Right
  refine cm_ref02_Add (radd_ok hs hn hl) ?_
  rintro _ w1 ⟨rfl, f1⟩
  refine ⟨?_, f1⟩
  by_cases h : fold (totP ps) = 65535
  · simp [h]
  · simp [h]; omega

/-! ### Addresses -/
theorem four_right (n : Int) (w : World) : c_four_Right n w fun r w' => r = decide (rightP n) ∧ w' = w := by
  apply ok_four_Right
  unfold s_four_Right
  by_cases h1 : n ≥ 0
  · have h1' : 0 ≤ n := h1
    simp [h1', rightP]
  · have h1' : ¬ 0 ≤ n := h1
    simp [h1', rightP]

theorem ref03_right (n : Int) (w : World) : c_ref03_Right n w fun r w' => r = decide (rightP n) ∧ w' = w := by
  apply ok_ref03_Right
  unfold s_ref03_Right
  by_cases h1 : n ≥ 0
  · have h1' : 0 ≤ n := h1
    simp [h1', rightP]
  · have h1' : ¬ 0 ≤ n := h1
    simp [h1', rightP]

/-! ### The document's numbers in bytes -/
theorem pow_ok (k : Nat) (hk : k ≤ 7) (w : World) : c_ref01_pow (k : Int) w fun r w' => r = ((256 ^ k : Nat) : Int) ∧ w' = w := by
  apply ok_ref01_pow
  unfold s_ref01_pow
  refine LoopP_inv (fun st W => W = w ∧ ∃ i : Nat, i ≤ k ∧ st.2.1 = i ∧ st.1 = ((256 ^ i : Nat) : Int)) (fun st _ => k - st.2.1.toNat) ⟨rfl, 0, by omega, rfl, rfl⟩ ?_
  rintro ⟨n, j, ⟨⟩⟩ W ⟨rfl, i, hi, rfl, rfl⟩ next hnext
  by_cases hlt : i < k
  · have hlt' : ((i : Int) < (k : Int)) := by omega
    simp only [hlt', decide_true, cond_true]
    have hp : (256 : Nat) ^ (i + 1) ≤ 256 ^ 7 := Nat.pow_le_pow_right (by omega) (by omega)
    have e : (256 : Nat) ^ 7 = 72057594037927936 := by decide
    have e2 : ((256 ^ i : Nat) : Int) * 256 = ((256 ^ (i + 1) : Nat) : Int) := by rw [Nat.pow_succ, Int.natCast_mul]; rfl
    rw [e2]
    have hnx := hnext (((256 ^ (i + 1) : Nat) : Int), ((i + 1 : Nat) : Int), ()) W ⟨rfl, i + 1, by omega, rfl, rfl⟩ (by simp only; omega)
    generalize 256 ^ (i + 1) = q at hp hnx ⊢
    rw [wrap_i64 (by omega) (by omega), wrap_i64 (by omega) (by omega)]
    exact hnx
  · have hlt' : ¬ ((i : Int) < (k : Int)) := by omega
    simp only [hlt', decide_false, cond_false]
    have : i = k := by omega
    subst this
    exact ⟨by trivial, by trivial⟩

theorem rfits_ok (n k : Int) (w : World) : c_ref01_Fits n k w fun r w' => r = decide (fitsP n k) ∧ w' = w := by
  apply ok_ref01_Fits
  unfold s_ref01_Fits
  by_cases h1 : k ≥ 1
  · by_cases h2 : k ≤ 4
    · by_cases h3 : n ≥ 0
      · simp only [h1, h2, h3, decide_true, cond_true]
        obtain ⟨m, rfl⟩ : ∃ m : Nat, k = (m : Int) := ⟨k.toNat, by omega⟩
        refine cm_ref01_pow (pow_ok m (by omega) w) ?_
        rintro r w' ⟨rfl, rfl⟩
        have hs : sizeOk (m : Int) := ⟨h1, h2⟩
        refine ⟨?_, by trivial⟩
        have h3' : 0 ≤ n := h3
        simp [fitsP, hs, h3']
      · have : ¬ fitsP n k := fun h => h3 h.2.1
        simp [h1, h2, h3, this]
    · have : ¬ fitsP n k := fun h => h2 h.1.2
      simp [h1, h2, this]
  · have : ¬ fitsP n k := fun h => h1 h.1.1
    simp [h1, this]

theorem rget_ok {w : World} {s : SliceV} {l : List UInt8} (h : SlB w s l) (hl : l.length ≤ 2 ^ 62) (at_ k : Int) : c_ref01_Get s at_ k w fun n e w' => w' = w ∧ getR l at_ k n e := by
  apply ok_ref01_Get
  unfold s_ref01_Get getR
  have hlen := h.1
  by_cases h1 : k < 1
  · have c : ¬ sizeOk k ∨ at_ < 0 := .inl fun x => by have := x.1; omega
    simp only [h1, decide_true, cond_true]
    exact ⟨by trivial, by rw [if_pos c]; exact ⟨by trivial, by trivial⟩⟩
  by_cases h2 : k > 4
  · have c : ¬ sizeOk k ∨ at_ < 0 := .inl fun x => by have := x.2; omega
    simp only [h1, h2, decide_true, decide_false, cond_true, cond_false]
    exact ⟨by trivial, by rw [if_pos c]; exact ⟨by trivial, by trivial⟩⟩
  by_cases h3 : at_ < 0
  · have c : ¬ sizeOk k ∨ at_ < 0 := .inr h3
    simp only [h1, h2, decide_false, cond_true, cond_false]
    rw [show decide (at_ < 0) = true by simp [h3]]
    simp only [cond_true]
    exact ⟨by trivial, by rw [if_pos c]; exact ⟨by trivial, by trivial⟩⟩
  have hk : sizeOk k := ⟨by omega, by omega⟩
  have c : ¬ (¬ sizeOk k ∨ at_ < 0) := by rintro (h | h) <;> contradiction
  simp only [if_neg c]
  rw [show decide (k < 1) = false by simp [h1], show decide (k > 4) = false by simp [h2], show decide (at_ < 0) = false by simp [h3]]
  simp only [cond_false]
  rw [wrap_i64 (n := (s.len : Int) - k) (by omega) (by omega)]
  by_cases h4 : at_ > (s.len : Int) - k
  · rw [show decide (at_ > (s.len : Int) - k) = true by simp [h4]]
    simp only [cond_true]
    exact ⟨by trivial, by rw [if_pos (by omega)]; exact ⟨by trivial, by trivial⟩⟩
  rw [show decide (at_ > (s.len : Int) - k) = false by simp [h4]]
  simp only [cond_false]
  obtain ⟨m, rfl⟩ : ∃ m : Nat, k = (m : Int) := ⟨k.toNat, by omega⟩
  obtain ⟨o, rfl⟩ : ∃ o : Nat, at_ = (o : Int) := ⟨at_.toNat, by omega⟩
  simp only [Int.toNat_natCast]
  refine LoopP_inv (fun st W => W = w ∧ ∃ i : Nat, i ≤ m ∧ st.2.1 = i ∧ st.1 = (numBE ((l.drop o).take i) : Int)) (fun st _ => m - st.2.1.toNat) ⟨rfl, 0, by omega, rfl, rfl⟩ ?_
  rintro ⟨n, j, ⟨⟩⟩ W ⟨rfl, i, hi, rfl, rfl⟩ next hnext
  by_cases hlt : i < m
  · have hlt' : ((i : Int) < (m : Int)) := by omega
    simp only [hlt', decide_true, cond_true]
    rw [wrap_i64 (n := (o : Int) + (i : Int)) (by omega) (by omega)]
    have hol : o + i < l.length := by omega
    obtain ⟨a, ha, hc⟩ := h.at_ (List.getElem?_eq_getElem hol)
    refine ⟨a, ha, by omega, by omega, ?_⟩
    have eo : ((o : Int) + (i : Int)).toNat * 1 = o + i := by omega
    rw [eo]
    simp only [Ld_eq, LdV_some, dec_int, hc]
    have hb := l[o + i].toNat_lt
    have hdl : i < (l.drop o).length := by simp; omega
    have hn2 : numBE ((l.drop o).take i) < 2 ^ 32 := numBE_lt40 (by simp; omega)
    rw [wrap_i64 (n := (numBE ((l.drop o).take i) : Int) * 256) (by omega) (by omega), wrap_i64 (n := ((l[o + i].toNat : Nat) : Int)) (by omega) (by omega), wrap_i64 (by omega) (by omega), wrap_i64 (by omega) (by omega)]
    refine hnext _ _ ⟨rfl, i + 1, by omega, by simp, ?_⟩ (by simp only; omega)
    have e := numBE_snoc (l.drop o) hdl
    rw [List.getElem_drop] at e
    simp only [e]
    omega
  · have hlt' : ¬ ((i : Int) < (m : Int)) := by omega
    simp only [hlt', decide_false, cond_false]
    have : i = m := by omega
    subst this
    exact ⟨by trivial, by rw [if_neg (by omega)]; exact ⟨by trivial, by trivial⟩⟩

theorem beN_snoc {k n i : Nat} (h : i < k) : (beN k n).take (i + 1) = (beN k n).take i ++ [UInt8.ofNat (n / 256 ^ (k - 1 - i))] := by
  have hl : i < (beN k n).length := by rw [beN_len]; exact h
  rw [List.take_succ_eq_append_getElem hl]
  have := beN_get k n i h
  rw [List.getElem?_eq_getElem hl] at this
  simp at this
  rw [this]

theorem rput_ok {w : World} {s : SliceV} {l : List UInt8} (hs : SlB w s l) (hl : l.length + 4 ≤ 2 ^ 46) (n k : Int) (hn : n < 2 ^ 62) :
    c_ref01_Put s n k w fun r w' => Buf w' r (bytesV (putL l n k)) ∧ Ext w w' ∧ (∀ b, SliceV.at r b → w.heap.size ≤ b) := by
  apply ok_ref01_Put
  unfold s_ref01_Put
  refine AppSl_bytes (l := []) Buf.nil hs (by simp; omega) fun r w1 b1 f1 n1 _ => ?_
  have x1 : Ext w w1 := f1.new fun b _ ⟨o, h⟩ => by cases h
  have y1 : ∀ b, SliceV.at r b → w.heap.size ≤ b := fun b hb => by
    rcases n1 b hb with ⟨o, h⟩ | h
    · cases h
    · exact h
  rw [List.nil_append] at b1
  refine cm_ref01_Fits (rfits_ok n k w1) ?_
  rintro _ _ ⟨rfl, rfl⟩
  by_cases hf : fitsP n k
  · simp only [hf, decide_true, Bool.not_true, cond_false]
    obtain ⟨hk1, hk2⟩ := hf.1
    have hn0 := hf.2.1
    obtain ⟨m, rfl⟩ : ∃ m : Nat, k = (m : Int) := ⟨k.toNat, by omega⟩
    obtain ⟨z, rfl⟩ : ∃ z : Nat, n = (z : Int) := ⟨n.toNat, by omega⟩
    refine LoopP_inv (fun st W => ∃ i : Nat, i ≤ m ∧ st.2.1 = (m : Int) - 1 - i ∧ Buf W st.1 (bytesV (l ++ (beN m z).take i)) ∧ Ext w W ∧ (∀ b, SliceV.at st.1 b → w.heap.size ≤ b)) (fun st _ => (st.2.1 + 1).toNat)
      ⟨0, by omega, by rw [wrap_i64 (by omega) (by omega)]; simp, by simpa using b1, x1, y1⟩ ?_
    rintro ⟨t, x, ⟨⟩⟩ W ⟨i, hi, hx, h1, h2, h3⟩ next hnext
    simp only at hx h1 h3
    by_cases hlt : i < m
    · have hx0 : x ≥ 0 := by omega
      simp only [hx0, decide_true, cond_true]
      obtain ⟨j, rfl⟩ : ∃ j : Nat, x = (j : Int) := ⟨x.toNat, by omega⟩
      have hj : j = m - 1 - i := by omega
      refine cm_ref01_pow (pow_ok j (by omega) W) ?_
      rintro _ _ ⟨rfl, rfl⟩
      have hp : 0 < 256 ^ j := Nat.pow_pos (by omega)
      refine ⟨by omega, by omega, Al_e fun c w3 r3 e3 z3 f3 => ?_⟩
      have e : IntKind.u8.wrap (Int.tmod (IntKind.i64.wrap (Int.tdiv (z : Int) ((256 ^ j : Nat) : Int))) 256) = (((UInt8.ofNat (z / 256 ^ j)).toNat : Nat) : Int) := by
        rw [Int.tdiv_eq_ediv_of_nonneg (by omega), ← Int.natCast_ediv]
        have : z / 256 ^ j ≤ z := Nat.div_le_self _ _
        generalize z / 256 ^ j = q at this ⊢
        rw [wrap_i64 (by omega) (by omega), Int.tmod_eq_emod_of_nonneg (by omega), IntKind.wrap_u8]
        simp
      rw [e] at r3
      have hx3 : SlB w3 ⟨some ⟨c, 0, none⟩, 1, 1⟩ [UInt8.ofNat (z / 256 ^ j)] := .of_buf (SlB.row (l := [UInt8.ofNat (z / 256 ^ j)]) (by simpa [bytesV] using r3))
      refine AppSl_bytes (h1.ext f3) hx3 (by simp; omega) fun s' w4 b4 f4 p4 _ => ?_
      rw [wrap_i64 (by omega) (by omega)]
      refine hnext _ _ ⟨i + 1, by omega, by simp only; omega, ?_, (h2.trans f3).new f4 fun b hb h => by have := h3 b h; omega, fun b hb => ?_⟩ (by simp only; omega)
      · rw [beN_snoc hlt, ← hj, ← List.append_assoc]
        exact b4
      · have := h2.size
        have := f3.size
        rcases p4 b hb with h | h
        · exact h3 b h
        · omega
    · have hx0 : ¬ x ≥ 0 := by omega
      simp only [hx0, decide_false, cond_false]
      have : i = m := by omega
      subst this
      rw [List.take_of_length_le (by rw [beN_len]; omega)] at h1
      exact ⟨by simpa [putL, hf] using h1, h2, h3⟩
  · simp only [hf, decide_false, Bool.not_false, cond_true]
    exact ⟨by simpa [putL, hf] using b1, x1, y1⟩

/-! ### Bools -/
theorem all_ok {w : World} {b : Nat} {l : List Bool} {vs : List Value} (h : Row w b vs) (hv : vs = l.map Value.bool) (n : Nat) (hn : n = l.length) (hl : l.length ≤ 100) : c_v4_all ⟨some ⟨b, 0, none⟩, n, n⟩ w fun r w' => r = l.all id ∧ w' = w := by
  subst hv
  apply ok_v4_all
  unfold s_v4_all
  apply ok_slices_Contains_bool_bool
  unfold s_slices_Contains_bool_bool
  apply ok_slices_Index_bool_bool
  unfold s_slices_Index_bool_bool
  subst hn
  refine LoopP_inv (fun st W => W = w ∧ ∃ i : Nat, i ≤ l.length ∧ st.1 = (i : Int) ∧ (l.take i).all id = true) (fun st _ => l.length - st.1.toNat) ⟨rfl, 0, by omega, rfl, rfl⟩ ?_
  rintro ⟨x, ⟨⟩⟩ W ⟨rfl, i, hi, rfl, hp⟩ next hnext
  by_cases hlt : i < l.length
  · have hlt' : ((i : Int) < (l.length : Int)) := by omega
    simp only [hlt', decide_true, cond_true]
    simp only [Ld_eq, LdV_some, dec_bool, AtIx_some, add_mk, Nat.zero_add, h.cell, Int.toNat_natCast, Nat.mul_one, List.getElem?_map, List.getElem?_eq_getElem hlt, Option.map_some]
    refine ⟨by omega, by trivial, ?_⟩
    cases hb : l[i] with
    | true =>
      simp only [show (false == true) = false from rfl, cond_false]
      rw [wrap_i64 (by omega) (by omega)]
      refine hnext _ _ ⟨rfl, i + 1, by omega, by simp, ?_⟩ (by simp only; omega)
      rw [List.take_succ_eq_append_getElem hlt, List.all_append, hp, hb]; rfl
    | false =>
      simp only [show (false == false) = true from rfl, cond_true]
      refine ⟨?_, by trivial⟩
      have : l.all id = false := by
        apply Bool.eq_false_iff.2
        intro h
        have := List.all_eq_true.1 h false (hb ▸ List.getElem_mem hlt)
        cases this
      rw [this]
      simp
  · have hlt' : ¬ ((i : Int) < (l.length : Int)) := by omega
    simp only [hlt', decide_false, cond_false]
    have : i = l.length := by omega
    subst this
    rw [List.take_length] at hp
    exact ⟨by rw [hp]; rfl, by trivial⟩
end Go.Proofs
