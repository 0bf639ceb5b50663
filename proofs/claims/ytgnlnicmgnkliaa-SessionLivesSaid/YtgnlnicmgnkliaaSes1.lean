import Derived.Test.YtgnlnicmgnkliaaSesPure
import Derived.Test.YtgnlnicmgnkliaaBePut
import Derived.Test.YtgnlnicmgnkliaaHash
import Derived.Test.YtgnlnicmgnkliaaBufN
import Derived.Test.YtgnlnicmgnkliaaIns
import Derived.Test.YtgnlnicmgnkliaaMapF
import Derived.Test.YtgnlnicmgnkliaaExt2
/- Sessions: lists of numbers. -/
namespace Go.Proofs
open Gp Gp.Hash
set_option maxRecDepth 100000

abbrev eI (x : Int) : List Value := [.int .i64 x]
theorem eI_len (x : Int) : (eI x).length = 1 := rfl
theorem eI_one (x : Int) : ∀ v ∈ eI x, isOne v = true := by intro v hv; rw [List.mem_singleton.1 hv]; rfl

theorem SlN_ix {α : Type} {n : Nat} {f : α → List Value} {w : World} {s : SliceV} {xs : List α} (hn : ∀ x, (f x).length = n) (hn0 : 0 < n) (h : SlN n f w s xs) {i : Int} {K : Addr → Prop} {x : α} (h0 : 0 ≤ i) (hx : xs[i.toNat]? = some x)
    (hK : ∀ a : Addr, (∀ j v, (f x)[j]? = some v → w.cell? (a.add j) = some v) → K a) : AtIx s n i K := by
  obtain ⟨a, ha, hc⟩ := h.at_ hn hn0 hx
  have hlt := (List.getElem?_eq_some_iff.1 hx).1
  obtain ⟨sa, sl, sc⟩ := s
  simp only at ha
  subst ha
  have hl : sl = xs.length := h.len
  refine (AtIx_some ..).2 ⟨h0, by omega, hK _ fun j v hj => ?_⟩
  rw [← hc j v hj]
  congr 1
  obtain ⟨b, o, t⟩ := a
  unfold Addr.add
  by_cases h1 : i.toNat * n = 0 <;> by_cases h2 : j = 0 <;> simp [h1, h2, Nat.add_assoc]

theorem Al_map {w : World} {K : Addr → World → Prop} (h : ∀ w1, (∀ (α : Type) (enc : α → Value), MapB enc w1 w.heap.size []) → w1.heap.size = w.heap.size + 1 → Ext w w1 → K ⟨w.heap.size, 0, none⟩ w1) : Al w (.map #[] 0) K :=
  h _ (fun _ enc => MapB.new w enc) (by simp) (fun S => Fr8.alloc w _ S)

theorem half_ok {a b : Nat} (h : a + b ≤ 2 ^ 40) : IntKind.i64.wrap (shrI .u64 (IntKind.u64.wrap (IntKind.i64.wrap ((a : Int) + (b : Int)))) 1) = (((a + b) / 2 : Nat) : Int) := by
  rw [wrap_i64 (n := (a : Int) + (b : Int)) (by omega) (by omega)]
  have h1 : IntKind.u64.wrap ((a : Int) + (b : Int)) = ((a + b : Nat) : Int) := by
    simp only [IntKind.wrap, IntKind.bits, IntKind.signed, Bool.false_and, Bool.false_eq_true, if_false]
    omega
  rw [h1]
  have h2 : shrI .u64 ((a + b : Nat) : Int) 1 = (((a + b) / 2 : Nat) : Int) := by
    unfold shrI
    have : min (1 : Int).toNat IntKind.u64.bits = 1 := rfl
    rw [this]
    rw [Int.fdiv_eq_ediv_of_nonneg _ (by decide)]
    omega
  rw [h2, wrap_i64 (by omega) (by omega)]

theorem isNaN_ok (a : Int) (w : World) : c_cmp_isNaN_int a w fun r w' => r = false ∧ w' = w := by
  apply ok_cmp_isNaN_int
  exact ⟨by simp, rfl⟩

theorem insert_ok {w : World} {s : SliceV} {xs : List Int} {y : Int} {vb i : Nat} (hs : BufN 1 eI w s xs) (hy : Row w vb (eI y)) (hv : ∀ b, SliceV.at s b → b ≠ vb) (hi : i ≤ xs.length) (hl : xs.length ≤ 2 ^ 30) :
    c_slices_Insert_int_int s (i : Int) ⟨some ⟨vb, 0, none⟩, 1, 1⟩ w fun r w' => BufN 1 eI w' r (xs.take i ++ y :: xs.drop i) ∧ Fr8 w w' (SliceV.at s) ∧ ∀ b, SliceV.at r b → SliceV.at s b ∨ w.heap.size ≤ b := by
  apply ok_slices_Insert_int_int
  unfold s_slices_Insert_int_int
  have hlen := hs.len
  have hsl := hs.sl eI_len (by omega)
  have hcap := hsl.cap
  have hyl : SlN 1 eI w ⟨some ⟨vb, 0, none⟩, 1, 1⟩ [y] := (BufN.row (xs := [y]) (f := eI) (n := 1) (by simpa using hy)).sl eI_len (by omega)
  refine SubSl_N eI_len hsl (by omega) (by omega) (by omega) fun s4 _ => ?_
  simp only
  rw [show (((1 : Nat) : Int) == 0) = false from rfl, cond_false]
  by_cases he : (i : Int) = (s.len : Int)
  · rw [show ((i : Int) == (s.len : Int)) = true by simpa using he, cond_true]
    refine AppSl_bufN eI_len hs hyl rfl (by omega) eI_one (by simp only [List.length_singleton]; omega) (by simp only [List.length_singleton]; omega) fun s' w' h1 h2 h3 => ?_
    refine ⟨?_, h2, h3⟩
    rw [List.take_of_length_le (by omega), List.drop_of_length_le (by omega)]
    exact h1
  rw [show ((i : Int) == (s.len : Int)) = false by simpa using he, cond_false]
  have hi' : i < xs.length := by omega
  have hx := List.getElem?_eq_getElem hi'
  generalize xs[i] = x at hx
  obtain ⟨b, pad, ha, hc, hr⟩ : ∃ b pad, s.a = some ⟨b, 0, none⟩ ∧ s.cap * 1 = xs.length * 1 + pad.length ∧ Row w b (xs.flatMap eI ++ pad) := by
    rcases hs.mem with ⟨_, h, _⟩ | h
    · rw [h] at hi'; simp at hi'
    · exact h
  have hnb : b ≠ vb := hv b ⟨0, ha⟩
  obtain ⟨sa, sl, sc⟩ := s
  simp only at ha hc hlen hcap he
  subst ha
  subst hlen
  have lt := flat_len eI 1 eI_len (xs.take i)
  have ld := flat_len eI 1 eI_len (xs.drop i)
  have ld1 := flat_len eI 1 eI_len (xs.drop (i + 1))
  rw [List.length_take, Nat.min_eq_left (by omega)] at lt
  rw [List.length_drop] at ld ld1
  have oned : ∀ v ∈ (xs.drop i).flatMap eI, isOne v = true := fun v hv => by
    obtain ⟨z, _, hz⟩ := List.mem_flatMap.1 hv
    exact eI_one z v hz
  rw [wrap_i64 (n := (xs.length : Int) + ((1 : Nat) : Int)) (by omega) (by omega)]
  by_cases hg : (xs.length : Int) + ((1 : Nat) : Int) > (sc : Int)
  · rw [decide_eq_true hg, cond_true]
    refine ⟨by (try simp only); omega, by (try simp only); omega, by (try simp only); omega, ?_⟩
    rw [wrap_i64 (by omega) (by omega), show ((xs.length : Int) + ((1 : Nat) : Int)) - (i : Int) = ((xs.length + 1 - i : Nat) : Int) by omega]
    simp only [Int.toNat_natCast, Int.toNat_zero, Nat.sub_zero]
    have hsub : subA (some (⟨b, 0, none⟩ : Addr)) sc 0 1 = some ⟨b, 0, none⟩ := by
      unfold subA
      split <;> simp [Addr.add]
    rw [hsub]
    have hold : CellsO w (some ⟨b, 0, none⟩) (i * 1) ((xs.take i).flatMap eI) := by
      refine cells_row (A := []) (C := (xs.drop i).flatMap eI ++ pad) ?_ rfl lt
      rw [flat_at (i := i), List.append_assoc] at hr
      exact hr
    refine AppMk_grow (m := xs.length + 1 - i) (by simp only; omega) (by simp only; omega) (by simp only; omega) hold fun c w1 hc1 r1 f1 z1 => ?_
    simp only at hc1 r1 ⊢
    rw [show i + (xs.length + 1 - i) = xs.length + 1 by omega] at hc1 r1 ⊢
    obtain ⟨k, hk⟩ : ∃ k, xs.length + 1 - i = k + 1 := ⟨xs.length - i, by omega⟩
    rw [hk] at r1
    have hsub2 : ∀ j : Nat, j < c → subA (some (⟨w.heap.size, 0, none⟩ : Addr)) c j 1 = some ⟨w.heap.size, j * 1, none⟩ := by
      intro j hj
      unfold subA
      rw [if_neg (by omega), Option.map_some, add_mk, Nat.zero_add]
    refine ⟨by (try simp only); omega, by (try simp only); omega, by (try simp only); omega, ?_⟩
    simp only [Int.toNat_natCast]
    rw [hsub2 i (by omega)]
    have r1' : Row w1 w.heap.size ((xs.take i).flatMap eI ++ ([Value.int .i64 0] ++ (repCells [Value.int .i64 0] k ++ repCells [Value.int .i64 0] (c - (xs.length + 1))))) := by
      simpa [repCells] using r1
    have hyl1 := hyl.ext f1
    refine CopySl_row (m := 1) (vs := eI y) (by show min (_ : Nat) _ = _; simp only; omega) (by have := hyl1.cells; simpa using this) r1' (by simp only [List.length_append, List.length_cons, List.length_nil]; omega) (eI_one y) fun w2 r2 f2 => ?_
    rw [← lt, spl_mid (by rfl)] at r2
    rw [wrap_i64 (n := (i : Int) + ((1 : Nat) : Int)) (by omega) (by omega), show (i : Int) + ((1 : Nat) : Int) = ((i + 1 : Nat) : Int) by omega]
    refine ⟨by (try simp only); omega, by (try simp only); omega, by (try simp only); omega, ?_⟩
    simp only [Int.toNat_natCast]
    rw [hsub2 (i + 1) (by omega)]
    have hr2 := ((hr.ext f1).fr f2 (by have := hr.lt; omega)).drew
    refine ⟨by (try simp only); omega, by (try simp only); omega, by (try simp only); omega, ?_⟩
    simp only [Int.toNat_natCast]
    have hsub3 : subA (some (⟨b, 0, none⟩ : Addr)) sc i 1 = some ⟨b, i * 1, none⟩ := by
      unfold subA
      rw [if_neg (by omega), Option.map_some, add_mk, Nat.zero_add]
    rw [hsub3]
    have hsrc : CellsO w2.drew (some ⟨b, i * 1, none⟩) ((xs.length - i) * 1) ((xs.drop i).flatMap eI) := by
      refine cells_row (A := (xs.take i).flatMap eI) (C := pad) ?_ lt ld
      rw [flat_at (i := i), List.append_assoc] at hr2
      exact hr2
    have r2' : Row w2.drew w.heap.size (((xs.take i).flatMap eI ++ eI y) ++ (repCells [Value.int .i64 0] k ++ repCells [Value.int .i64 0] (c - (xs.length + 1)))) := by
      rw [List.append_assoc]; exact r2.drew
    have lA : ((xs.take i).flatMap eI ++ eI y).length = (i + 1) * 1 := by rw [List.length_append, lt, eI_len]; omega
    have lk : (repCells [Value.int .i64 0] k).length = ((xs.drop i).flatMap eI).length := by rw [repCells_len, ld]; simp only [List.length_cons, List.length_nil]; omega
    refine CopySl_row (m := xs.length - i) (vs := (xs.drop i).flatMap eI) (by show min (_ : Nat) _ = _; simp only; omega) hsrc r2' (by rw [List.length_append, lA, List.length_append, lk]; omega) oned fun w3 r3 f3 => ?_
    rw [← lA, spl_mid lk] at r3
    have f23 : Fr8 w1 w3 (· = w.heap.size) := (f2.ext (Ext.drew w2)).trans f3 fun _ _ e => e
    refine ⟨⟨by simp; omega, .inr ⟨w.heap.size, repCells [Value.int .i64 0] (c - (xs.length + 1)), rfl, ?_, ?_⟩⟩, f1.new f23 (by intro x hx e; omega) _, fun b' hb' => ?_⟩
    · rw [repCells_len]; simp only [List.length_append, List.length_take, List.length_cons, List.length_drop, List.length_nil]; omega
    · rw [List.flatMap_append, List.flatMap_cons]
      simpa using r3
    · obtain ⟨o, e⟩ := hb'
      cases e
      exact .inr (Nat.le_refl _)
  · rw [decide_eq_false hg, cond_false]
    obtain ⟨p1, p2, hp, lp1⟩ : ∃ p1 p2, pad = p1 ++ p2 ∧ p1.length = 1 := ⟨pad.take 1, pad.drop 1, (List.take_append_drop 1 pad).symm, by rw [List.length_take]; omega⟩
    subst hp
    refine ⟨by (try simp only); omega, by (try simp only); omega, by (try simp only); omega, ?_⟩
    rw [wrap_i64 (n := (i : Int) + ((1 : Nat) : Int)) (by omega) (by omega), show (i : Int) + ((1 : Nat) : Int) = ((i + 1 : Nat) : Int) by omega]
    have hsub0 : subA (some (⟨b, 0, none⟩ : Addr)) sc 0 1 = some ⟨b, 0, none⟩ := by
      unfold subA
      split <;> simp [Addr.add]
    have hsub2 : ∀ j : Nat, j < sc → subA (some (⟨b, 0, none⟩ : Addr)) sc j 1 = some ⟨b, j * 1, none⟩ := by
      intro j hj
      unfold subA
      rw [if_neg (by omega), Option.map_some, add_mk, Nat.zero_add]
    simp only [Int.toNat_zero, Nat.sub_zero, hsub0]
    refine ⟨by (try simp only); omega, by (try simp only); omega, by (try simp only); omega, ?_⟩
    simp only [Int.toNat_natCast]
    rw [hsub2 (i + 1) (by omega)]
    have hfull : xs.flatMap eI = (xs.take i).flatMap eI ++ (eI x ++ (xs.drop (i + 1)).flatMap eI) := flat_split hx
    refine ExtP_overlaps Try.func73 (by kernel_rfl) (by kernel_rfl) (by kernel_rfl) (tS := 112) (tR := 4) (by kernel_rfl) (e := 3) (by kernel_rfl) (by kernel_rfl) hy hr (fun e => hnb e.symm) (by
      intro h
      have := congrArg List.length h
      simp only [List.length_append, List.length_nil] at this
      omega) ?_
    refine ⟨false, rfl, ?_⟩
    rw [Bool.not_false, cond_true]
    refine ⟨by (try simp only); omega, by (try simp only); omega, by (try simp only); omega, ?_⟩
    simp only [Int.toNat_natCast]
    rw [hsub2 (i + 1) (by omega)]
    refine ⟨by (try simp only); omega, by (try simp only); omega, by (try simp only); omega, ?_⟩
    simp only [Int.toNat_natCast]
    rw [hsub2 i (by omega)]
    have hrd := hr.drew
    have hsrc : CellsO w.drew (some ⟨b, i * 1, none⟩) ((xs.length - i) * 1) ((xs.drop i).flatMap eI) := by
      refine cells_row (A := (xs.take i).flatMap eI) (C := p1 ++ p2) ?_ lt ld
      rw [flat_at (i := i), List.append_assoc] at hrd
      exact hrd
    have r0 : Row w.drew b (((xs.take i).flatMap eI ++ eI x) ++ (((xs.drop (i + 1)).flatMap eI ++ p1) ++ p2)) := by
      rw [hfull] at hrd
      simpa using hrd
    have lA : ((xs.take i).flatMap eI ++ eI x).length = (i + 1) * 1 := by rw [List.length_append, lt, eI_len]; omega
    have lB : ((xs.drop (i + 1)).flatMap eI ++ p1).length = ((xs.drop i).flatMap eI).length := by rw [List.length_append, ld1, ld, lp1]; omega
    refine CopySl_row (m := xs.length - i) (vs := (xs.drop i).flatMap eI) (by show min (_ : Nat) _ = _; simp only; omega) hsrc r0 (by rw [List.length_append, lA, List.length_append, lB]; omega) oned fun w2 r2 f2 => ?_
    rw [← lA, spl_mid lB] at r2
    refine ⟨by (try simp only); omega, by (try simp only); omega, by (try simp only); omega, ?_⟩
    simp only [Int.toNat_natCast]
    rw [hsub2 i (by omega)]
    have hy2 : Row w2 vb (eI y) := hy.drew.fr f2 (fun e => hnb e.symm)
    have hyl2 : SlN 1 eI w2 ⟨some ⟨vb, 0, none⟩, 1, 1⟩ [y] := (BufN.row (xs := [y]) (f := eI) (n := 1) (by simpa using hy2)).sl eI_len (by omega)
    have r2' : Row w2 b ((xs.take i).flatMap eI ++ (eI x ++ ((xs.drop i).flatMap eI ++ p2))) := by simpa using r2
    refine CopySl_row (m := 1) (vs := eI y) (by show min (_ : Nat) _ = _; simp only; omega) (by have := hyl2.cells; simpa using this) r2' (by simp only [List.length_append, eI_len]; omega) (eI_one y) fun w3 r3 f3 => ?_
    rw [← lt, spl_mid (by rfl)] at r3
    have f13 : Fr8 w w3 (· = b) := ((Fr8.drew w _).trans f2 fun _ _ e => e).trans f3 fun _ _ e => e
    refine ⟨⟨by simp; omega, .inr ⟨b, p2, rfl, ?_, ?_⟩⟩, f13.mono fun c hc => ⟨0, by rw [hc]⟩, fun b' hb' => .inl ?_⟩
    · simp only [List.length_append, List.length_take, List.length_cons, List.length_drop] at hc ⊢; omega
    · rw [List.flatMap_append, List.flatMap_cons]
      simpa using r3
    · obtain ⟨o, e⟩ := hb'
      exact ⟨o, e⟩


theorem isNaN2_ok (a : Int) (w : World) : c_slices_isNaN_int a w fun r w' => r = false ∧ w' = w := by
  apply ok_slices_isNaN_int
  exact ⟨by simp, rfl⟩

theorem less_ok (a b : Int) (w : World) : c_cmp_Less_int a b w fun r w' => r = decide (a < b) ∧ w' = w := by
  apply ok_cmp_Less_int
  unfold s_cmp_Less_int
  intro J
  refine cm_cmp_isNaN_int (isNaN_ok _ _) ?_
  rintro r w' ⟨rfl, hw⟩
  subst hw
  rw [cond_false]
  exact ⟨rfl, rfl⟩

theorem SlN_int {w : World} {s : SliceV} {l : List Int} (h : SlN 1 eI w s l) {k : Nat} {z : Int} (hk : l[k]? = some z) {K : Addr → Prop} (hK : ∀ a, w.cell? a = some (.int .i64 z) → K a) : AtIx s 1 (k : Int) K :=
  SlN_ix eI_len (by omega) h (by omega) (by rw [Int.toNat_natCast]; exact hk) fun a hc => hK a (hc 0 _ rfl)

theorem bsI_ok {w : World} {s : SliceV} {xs : List Int} (hs : SlN 1 eI w s xs) (hl : xs.length ≤ 2 ^ 30) (hsrt : xs.Pairwise (· < ·)) (v : Int) :
    c_slices_BinarySearch_int_int s v w fun r _ w' => (∃ i : Nat, r = (i : Int) ∧ i ≤ xs.length ∧ (∀ (k : Nat) u, k < i → xs[k]? = some u → u < v) ∧ ∀ (k : Nat) u, i ≤ k → xs[k]? = some u → ¬ u < v) ∧ w' = w := by
  apply ok_slices_BinarySearch_int_int
  unfold s_slices_BinarySearch_int_int
  have hlen := hs.len
  have mono : ∀ (i j : Nat) (u u' : Int), i < j → xs[i]? = some u → xs[j]? = some u' → u < u' := by
    intro i j u u' hij h1 h2
    obtain ⟨g1, rfl⟩ := List.getElem?_eq_some_iff.1 h1
    obtain ⟨g2, rfl⟩ := List.getElem?_eq_some_iff.1 h2
    exact List.pairwise_iff_getElem.1 hsrt i j g1 g2 hij
  refine LoopP_inv (fun st W => ∃ i j : Nat, i ≤ j ∧ j ≤ xs.length ∧ st.1 = (i : Int) ∧ st.2.1 = (j : Int) ∧ W = w ∧ (∀ (k : Nat) u, k < i → xs[k]? = some u → u < v) ∧ ∀ (k : Nat) u, j ≤ k → xs[k]? = some u → ¬ u < v)
    (fun st _ => (st.2.1 - st.1).toNat) ⟨0, xs.length, by omega, by omega, rfl, by simp only; omega, rfl, fun k u h => by omega, fun k u h hx => by
      have := (List.getElem?_eq_some_iff.1 hx).1; omega⟩ ?_
  rintro ⟨i', j', ⟨⟩⟩ W ⟨i, j, hij, hj, hi1, hj1, rfl, hb, ha⟩ next hnext
  simp only at hi1 hj1
  subst hi1 hj1
  simp -zeta only [half_ok (show i + j ≤ 2 ^ 40 by omega)]
  by_cases hlt : (i : Int) < (j : Int)
  · rw [decide_eq_true hlt, cond_true]
    refine ⟨by decide, ?_⟩
    have hm : (i + j) / 2 < xs.length := by omega
    have hx := List.getElem?_eq_getElem hm
    generalize xs[(i + j) / 2] = u at hx
    refine SlN_int hs hx fun a hc => ?_
    simp -zeta only [Ld_eq, LdV_some, dec_int, hc]
    refine cm_cmp_Less_int (less_ok _ _ _) ?_
    rintro r w' ⟨rfl, hw⟩
    subst hw
    by_cases hg : u < v
    · rw [decide_eq_true hg, cond_true, wrap_i64 (by omega) (by omega)]
      refine hnext _ _ ⟨(i + j) / 2 + 1, j, by omega, hj, by simp, rfl, rfl, fun k z hk hz => ?_, ha⟩ (by simp only; omega)
      rcases Nat.lt_or_ge k ((i + j) / 2) with h | h
      · have := mono _ _ _ _ h hz hx; omega
      · have : k = (i + j) / 2 := by omega
        subst this
        rw [hx] at hz
        cases hz
        exact hg
    · rw [decide_eq_false hg, cond_false]
      refine hnext _ _ ⟨i, (i + j) / 2, by omega, by omega, rfl, rfl, rfl, hb, fun k z hk hz => ?_⟩ (by simp only; omega)
      rcases Nat.lt_or_ge ((i + j) / 2) k with h | h
      · have := mono _ _ _ _ h hx hz; omega
      · have : k = (i + j) / 2 := by omega
        subst this
        rw [hx] at hz
        cases hz
        exact hg
  · rw [decide_eq_false hlt, cond_false]
    have : i = j := by omega
    subst this
    intro J
    have fin : ∀ b, J (i : Int) b W := fun b => ⟨⟨i, rfl, hj, hb, ha⟩, rfl⟩
    clear_value J
    by_cases hg : (i : Int) < (s.len : Int)
    · rw [decide_eq_true hg, cond_true]
      have hx := List.getElem?_eq_getElem (show i < xs.length by omega)
      generalize xs[i] = u at hx
      refine SlN_int hs hx fun a hc => ?_
      simp -zeta only [Ld_eq, LdV_some, dec_int, hc]
      by_cases he : u = v
      · rw [show (u == v) = true by simpa using he, cond_true]; exact fin _
      · rw [show (u == v) = false by simpa using he, cond_false]
        refine SlN_int hs hx fun a hc => ?_
        simp -zeta only [LdV_some, dec_int, hc]
        refine cm_slices_isNaN_int (isNaN2_ok _ _) ?_
        rintro r w' ⟨rfl, hw⟩
        subst hw
        rw [cond_false]
        exact fin _
    · rw [decide_eq_false hg, cond_false]; exact fin _

theorem cloneI_ok {w : World} {s : SliceV} {xs : List Int} (hs : SlN 1 eI w s xs) (hl : xs.length ≤ 2 ^ 30) :
    c_slices_Clone_int_int s w fun r w' => Ext w w' ∧ BufN 1 eI w' r xs ∧ ∀ b, SliceV.at r b → w.heap.size ≤ b := by
  apply ok_slices_Clone_int_int
  unfold s_slices_Clone_int_int
  have hlen := hs.len
  cases ha : s.a with
  | none =>
    have hc := hs.cells
    rw [ha] at hc
    have h0 : xs.flatMap eI = [] := hc
    have hfl := flat_len eI 1 eI_len xs
    rw [h0] at hfl
    have : xs = [] := by
      cases xs with
      | nil => rfl
      | cons _ _ => simp only [List.length_cons, List.length_nil] at hfl; omega
    subst this
    simp only [Option.isNone_none, cond_true]
    exact ⟨Ext.refl _, BufN.nil, fun b ⟨o, hb⟩ => by cases hb⟩
  | some a =>
    simp only [Option.isNone_some, cond_false]
    refine Al_e fun t w1 rt et zt f1 => ?_
    have hb : BufN 1 eI w1 ⟨some ⟨t, 0, none⟩, 0, 0⟩ ([] : List Int) := BufN.row (xs := []) rt
    refine AppSl_bufN eI_len hb (hs.ext f1) rfl (by omega) eI_one (by simp only [List.length_nil]; omega) (by simp only [List.length_nil]; omega) fun s' w' h1 h2 h3 => ?_
    refine ⟨f1.new h2 fun b hb ⟨o, he⟩ => by cases he; omega, h1, fun b hb => ?_⟩
    rcases h3 b hb with ⟨o, he⟩ | h
    · cases he; omega
    · omega

theorem mapI (l : List Int) : l.flatMap eI = l.map fun x => Value.int .i64 x := by
  induction l with
  | nil => rfl
  | cons a l ih => rw [List.flatMap_cons, ih]; rfl

theorem ClearSl_row {w : World} {b o n c : Nat} {L : List Value} {K : World → Prop} (hr : Row w b L) (ho : o + n ≤ L.length) (hK : ∀ w', Row w' b (spl L o (repCells [.int .i64 0] n)) → Fr8 w w' (· = b) → K w') : ClearSl [.int .i64 0] ⟨some ⟨b, o, none⟩, n, c⟩ w K := by
  have hrl : (repCells [Value.int .i64 0] n).length = n := by rw [repCells_len]; simp
  refine ⟨?_, by intro v hv; rw [List.mem_singleton.1 hv]; rfl, ?_⟩
  · rintro a ha
    cases ha
    intro j hj
    simp only [List.length_cons, List.length_nil] at hj
    rw [add_mk, hr.cell]
    exact ⟨by simp; omega, hr.frozen _⟩
  · obtain ⟨r, f⟩ := setCells_row (repCells [Value.int .i64 0] n) w L o 0 hr (by omega)
    refine hK _ ?_ (f (· = b) rfl)
    simpa [spl] using r

/-- Where a function value gives p. -/
def FnI (v : Value) (C : World → Prop) (p : Int → Bool) : Prop := ∀ x W (K : Value → World → Prop), C W → K (.bool (p x)) W → CallV Try.prog [.one .bool] v [.int .i64 x] W K

theorem indexI {w : World} {s : SliceV} {xs : List Int} {v : Value} {p : Int → Bool} {C : World → Prop} (hs : SlN 1 eI w s xs) (hl : xs.length ≤ 2 ^ 30) (hp : FnI v C p) (hC : C w) :
    c_slices_IndexFunc_int_int s v w fun r w' => ((r = -1 ∧ xs.any p = false) ∨ ∃ j : Nat, r = (j : Int) ∧ j < xs.length ∧ (xs.take j).any p = false ∧ (xs.take (j + 1)).filter (fun x => !p x) = xs.take j) ∧ w' = w := by
  apply ok_slices_IndexFunc_int_int
  unfold s_slices_IndexFunc_int_int
  have hlen := hs.len
  refine LoopP_inv (fun st W => ∃ j : Nat, j ≤ xs.length ∧ st.1 = (j : Int) ∧ W = w ∧ (xs.take j).any p = false) (fun st _ => (s.len - st.1).toNat) ⟨0, by omega, rfl, rfl, by simp⟩ ?_
  rintro ⟨i, ⟨⟩⟩ W ⟨j, hj, hi, rfl, hm⟩ next hnext
  simp only at hi
  subst hi
  by_cases hlt : (j : Int) < (s.len : Int)
  · simp only [hlt, decide_true, cond_true]
    have hx := List.getElem?_eq_getElem (show j < xs.length by omega)
    generalize xs[j] = x at hx
    have htk : xs.take (j + 1) = xs.take j ++ [x] := by rw [List.take_add_one, hx]; rfl
    refine SlN_int hs hx fun a hc => ?_
    simp only [Ld_eq, LdV_some, dec_int, hc]
    refine hp x W _ hC ⟨p x, rfl, ?_⟩
    cases he : p x
    · simp only [cond_false]
      rw [wrap_i64 (by omega) (by omega)]
      refine hnext _ _ ⟨j + 1, by omega, by simp, rfl, ?_⟩ (by simp only; omega)
      rw [htk, List.any_append, hm, List.any_cons, he, List.any_nil]; rfl
    · simp only [cond_true]
      refine ⟨.inr ⟨j, rfl, by omega, hm, ?_⟩, by trivial⟩
      rw [htk, List.filter_append, List.filter_eq_self.2 (fun y hy => by have := List.any_eq_false.1 hm y hy; simpa using this)]
      simp [he]
  · simp only [hlt, decide_false, cond_false]
    rw [List.take_of_length_le (by omega)] at hm
    exact ⟨.inl ⟨by trivial, hm⟩, by trivial⟩

theorem delI_ok {w : World} {s : SliceV} {xs : List Int} {v : Value} {p : Int → Bool} {C : World → Prop} (hs : BufN 1 eI w s xs) (hl : xs.length ≤ 2 ^ 30) (hp : FnI v C p) (hC : ∀ W, Fr8 w W (SliceV.at s) → C W) :
    c_slices_DeleteFunc_int_int s v w fun r w' => BufN 1 eI w' r (xs.filter fun x => !p x) ∧ Fr8 w w' (SliceV.at s) ∧ ∀ b, SliceV.at r b → SliceV.at s b := by
  apply ok_slices_DeleteFunc_int_int
  unfold s_slices_DeleteFunc_int_int
  have hlen := hs.len
  have hsl := hs.sl eI_len (by omega)
  have hcap := hsl.cap
  refine cm_slices_IndexFunc_int_int (indexI hsl hl hp (hC w (Fr8.refl _ _))) ?_
  rintro r w' ⟨h, hw⟩
  subst hw
  rcases h with ⟨rfl, hno⟩ | ⟨i0, rfl, hi0, hany, hfil⟩
  · rw [show ((-1 : Int) == -1) = true from rfl, cond_true]
    refine ⟨?_, Fr8.refl _ _, fun b hb => hb⟩
    rw [List.filter_eq_self.2 (fun y hy => by have := List.any_eq_false.1 hno y hy; simpa using this)]
    exact hs
  rw [show ((i0 : Int) == -1) = false from beq_eq_false_iff_ne.2 (by omega), cond_false]
  obtain ⟨b, pad, ha, hc, hr⟩ : ∃ b pad, s.a = some ⟨b, 0, none⟩ ∧ s.cap * 1 = xs.length * 1 + pad.length ∧ Row w' b (xs.flatMap eI ++ pad) := by
    rcases hs.mem with ⟨_, h, _⟩ | h
    · rw [h] at hi0; simp at hi0
    · exact h
  obtain ⟨sa, sl, sc⟩ := s
  simp only at ha hc hlen hcap
  subst ha
  subst hlen
  rw [mapI] at hr
  rw [wrap_i64 (n := (i0 : Int) + 1) (by omega) (by omega)]
  have hat : ∀ {W}, Fr8 w' W (· = b) → Fr8 w' W (SliceV.at ⟨some ⟨b, 0, none⟩, xs.length, sc⟩) := fun hf => hf.mono fun c hc => ⟨0, by rw [hc]⟩
  refine LoopP_inv (fun st W => ∃ j : Nat, j ≤ xs.length ∧ st.2.1 = (j : Int) ∧ st.1 = (((xs.take j).filter fun x => !p x).length : Int) ∧ ((xs.take j).filter fun x => !p x).length < j ∧ Fr8 w' W (· = b) ∧ ∃ mid, mid.length = j - ((xs.take j).filter fun x => !p x).length ∧ Row W b ((((xs.take j).filter fun x => !p x).map fun x => Value.int .i64 x) ++ (mid ++ (((xs.drop j).map fun x => Value.int .i64 x) ++ pad))))
    (fun st _ => (xs.length - st.2.1).toNat) ⟨i0 + 1, by omega, by simp, by rw [hfil, List.length_take, Nat.min_eq_left (by omega)], by rw [hfil, List.length_take]; omega, Fr8.refl _ _, ?_⟩ ?_
  · rw [hfil, List.length_take, Nat.min_eq_left (by omega)]
    have hx := List.getElem?_eq_getElem hi0
    refine ⟨[.int .i64 xs[i0]], by rw [List.length_singleton]; omega, ?_⟩
    have : xs.map (fun x => Value.int .i64 x) = (xs.take i0).map (fun x => Value.int .i64 x) ++ (Value.int .i64 xs[i0] :: (xs.drop (i0 + 1)).map fun x => Value.int .i64 x) := by
      conv => lhs; rw [← List.take_append_drop i0 xs, List.drop_eq_getElem_cons hi0, List.map_append, List.map_cons]
    rw [this] at hr
    simpa using hr
  rintro ⟨i', j', ⟨⟩⟩ W ⟨j, hj, hj1, hi1, hij, hf, mid, hmid, hrW⟩ next hnext
  simp only at hj1 hi1
  subst hj1 hi1
  generalize hkp : (xs.take j).filter (fun x => !p x) = kp at *
  have hmv : (kp.map fun x => Value.int .i64 x).length = kp.length := List.length_map ..
  by_cases hlt : (j : Int) < (xs.length : Int)
  · rw [decide_eq_true hlt, cond_true]
    intro J
    have hx := List.getElem?_eq_getElem (show j < xs.length by omega)
    have hdr := List.drop_eq_getElem_cons (show j < xs.length by omega)
    generalize xs[j] = x at hx hdr
    have htk : xs.take (j + 1) = xs.take j ++ [x] := by rw [List.take_add_one, hx]; rfl
    rw [hdr, List.map_cons] at hrW
    have hcell : W.cell? ⟨b, j, none⟩ = some (.int .i64 x) := by
      rw [hrW.cell, List.getElem?_append_right (by omega), List.getElem?_append_right (by omega), show j - (kp.map fun x => Value.int .i64 x).length - mid.length = 0 by omega]
      rfl
    refine (AtIx_some _ xs.length sc _ (j : Int) _).2 ⟨by omega, by omega, ?_⟩
    rw [add_mk, Nat.zero_add, Int.toNat_natCast, Nat.mul_one]
    simp -zeta only [Ld_eq, LdV_some, dec_int, AtIx_some, add_mk, Nat.zero_add, hcell]
    refine hp x W _ (hC W (hat hf)) ⟨p x, rfl, ?_⟩
    cases he : p x
    · rw [Bool.not_false, cond_true]
      have hfl : (xs.take (j + 1)).filter (fun x => !p x) = kp ++ [x] := by rw [htk, List.filter_append, hkp]; simp [he]
      refine ⟨by omega, by omega, ?_⟩
      rw [Int.toNat_natCast, Nat.mul_one]
      refine St_row hrW rfl (by simp only [List.length_append, hmv]; omega) fun W2 r2 g2 z2 => ?_
      obtain ⟨m0, ms, hms⟩ : ∃ m0 ms, mid = m0 :: ms := by
        cases mid with
        | nil => simp at hmid; omega
        | cons a l => exact ⟨a, l, rfl⟩
      subst hms
      rw [List.set_append_right _ _ (by omega), hmv, Nat.sub_self] at r2
      simp only [List.cons_append, List.set_cons_zero] at r2
      simp only [J]
      rw [wrap_i64 (by omega) (by omega), wrap_i64 (by omega) (by omega)]
      simp only [List.length_cons] at hmid
      refine hnext _ _ ⟨j + 1, by omega, by simp, by rw [hfl]; simp, by rw [hfl]; simp; omega, hf.trans (g2 (· = b) rfl) fun _ _ e => e, ms ++ [Value.int .i64 x], by rw [hfl]; simp; omega, ?_⟩ (by simp only; omega)
      rw [hfl]
      simpa using r2
    · rw [Bool.not_true, cond_false]
      have hfl : (xs.take (j + 1)).filter (fun x => !p x) = kp := by rw [htk, List.filter_append, hkp]; simp [he]
      simp only [J]
      rw [wrap_i64 (by omega) (by omega)]
      refine hnext _ _ ⟨j + 1, by omega, by simp, by rw [hfl], by rw [hfl]; omega, hf, mid ++ [Value.int .i64 x], by rw [hfl]; simp; omega, ?_⟩ (by simp only; omega)
      rw [hfl]
      simpa using hrW
  · rw [decide_eq_false hlt, cond_false]
    have hje : j = xs.length := by omega
    subst hje
    rw [List.take_length] at hkp
    rw [List.drop_length, List.map_nil, List.nil_append] at hrW
    refine ⟨by (try simp only); omega, by (try simp only); omega, by (try simp only); omega, ?_⟩
    simp only [Int.toNat_natCast]
    have hne : sc ≠ kp.length := by omega
    have hsub : subA (some (⟨b, 0, none⟩ : Addr)) sc kp.length 1 = some ⟨b, kp.length, none⟩ := by
      unfold subA
      rw [if_neg hne, Option.map_some, add_mk, Nat.zero_add, Nat.mul_one]
    rw [hsub]
    refine ClearSl_row hrW (by simp only [List.length_append, hmv]; omega) fun W2 r2 g2 => ?_
    have hrl : (repCells [Value.int .i64 0] (xs.length - kp.length)).length = xs.length - kp.length := by rw [repCells_len]; simp
    have hspl : spl ((kp.map fun x => Value.int .i64 x) ++ (mid ++ pad)) kp.length (repCells [Value.int .i64 0] (xs.length - kp.length)) = (kp.map fun x => Value.int .i64 x) ++ (repCells [Value.int .i64 0] (xs.length - kp.length) ++ pad) := by
      have := spl_mid (A := kp.map fun x => Value.int .i64 x) (B := mid) (C := pad) (vs := repCells [Value.int .i64 0] (xs.length - kp.length)) (by omega)
      rw [hmv] at this
      exact this
    rw [hspl] at r2
    refine ⟨by (try simp only); omega, by (try simp only); omega, by (try simp only); omega, ?_⟩
    have hsub0 : subA (some (⟨b, 0, none⟩ : Addr)) sc 0 1 = some ⟨b, 0, none⟩ := by
      unfold subA
      split <;> simp [Addr.add]
    simp only [Int.toNat_natCast, Int.toNat_zero, Nat.sub_zero, hsub0]
    refine ⟨⟨by rw [hkp], .inr ⟨b, repCells [Value.int .i64 0] (xs.length - kp.length) ++ pad, rfl, ?_, ?_⟩⟩, hat (hf.trans g2 fun _ _ e => e), fun c hc => ?_⟩
    · rw [hkp, List.length_append, hrl]; simp only; omega
    · rw [mapI, hkp]; exact r2
    · obtain ⟨o, e⟩ := hc
      exact ⟨o, e⟩

/-! ### Keys -/
theorem beN8 (m : Nat) : V4.beN 8 m = V4.beN 4 (m / 4294967296) ++ V4.beN 4 (m % 4294967296) := by
  simp only [V4.beN, List.cons_append, List.nil_append, List.cons.injEq, and_true]
  refine ⟨?_, ?_, ?_, ?_, ?_, ?_, ?_, ?_⟩ <;> apply UInt8.toNat_inj.1 <;> simp <;> omega

theorem hi_lo {x : Int} (h : Bind.In64 x) : andI .i64 (shrI .i64 x 32) 4294967295 = (((x % 18446744073709551616).toNat / 4294967296 : Nat) : Int) ∧ andI .i64 x 4294967295 = (((x % 18446744073709551616).toNat % 4294967296 : Nat) : Int) := by
  obtain ⟨h1, h2⟩ := h
  have low : ∀ y : Int, andI .i64 y 4294967295 = (((y % 18446744073709551616).toNat % 4294967296 : Nat) : Int) := by
    intro y
    unfold andI
    have e1 : (BitVec.ofInt (IntKind.bits .i64) y).toNat = (y % 18446744073709551616).toNat := by rw [bits64, BitVec.toNat_ofInt]; rfl
    have e2 : (BitVec.ofInt (IntKind.bits .i64) 4294967295).toNat = 2 ^ 32 - 1 := by rw [bits64, BitVec.toNat_ofInt]; rfl
    rw [BitVec.toNat_and, e1, e2, and_low]
    rw [wrap_i64 (by omega) (by omega)]
  refine ⟨?_, low x⟩
  rw [low]
  unfold shrI
  have e : (2 : Int) ^ (min (32 : Int).toNat (IntKind.bits .i64)) = 4294967296 := by decide
  rw [e, Int.fdiv_eq_ediv_of_nonneg _ (by omega)]
  omega

theorem skey_ok (bd ra rp : Int) (hr : ∀ n ∈ [bd, ra, rp], Bind.In64 n) (w : World) : c_session_key bd ra rp w fun r w' => r = Bind.keyS [bd, ra, rp] ∧ Ext w w' := by
  apply ok_session_key
  unfold s_session_key
  refine Al_e fun a w1 r1 e1 z1 f1 => ?_
  simp only [Ld_eq, add_mk, Nat.zero_add, List.getElem?_cons_zero, List.getElem?_cons_succ, LdV_some, dec_int, r1.cell]
  refine Al_e fun b w2 h e2 z2 f2 => ?_
  have f12 := f1.trans f2
  obtain ⟨ns, hns⟩ : ∃ ns : List Int, ns = [bd, ra, rp] := ⟨_, rfl⟩
  have hl : ns.length ≤ 10 := by rw [hns]; simp
  have hl3 : ns.length = 3 := by rw [hns]; rfl
  have h : Row w2 b (ns.map fun n => Value.int .i64 n) := by rw [hns]; exact h
  rw [← hns] at hr ⊢
  have e3 : (3 : Int) = (ns.length : Int) := by omega
  have e3n : (⟨some ⟨b, 0, none⟩, 3, 3⟩ : SliceV) = ⟨some ⟨b, 0, none⟩, ns.length, 3⟩ := by rw [hl3]
  rw [e3n, e3]
  refine LoopP_inv (fun st W => ∃ i : Nat, i ≤ ns.length ∧ st.2.1 = (i : Int) ∧ SlB W st.1 (Bind.keyB (ns.take i)) ∧ Ext w2 W) (fun st _ => ns.length - st.2.1.toNat) ⟨0, by omega, rfl, SlB.nil, Ext.refl _⟩ ?_
  rintro ⟨s, x, ⟨⟩⟩ W ⟨i, hi, rfl, hs, hx⟩ next hnext
  have hs : SlB W s (Bind.keyB (ns.take i)) := hs
  by_cases hlt : i < ns.length
  · have hlt' : ((i : Int) < (ns.length : Int)) := by omega
    simp only [hlt', decide_true, cond_true, LdV_some, dec_int, AtIx_some, add_mk, Nat.zero_add, Int.toNat_natCast, Nat.mul_one, (h.ext hx).cell, List.getElem?_map, List.getElem?_eq_getElem hlt, Option.map_some]
    refine ⟨by omega, by trivial, by omega, ?_⟩
    obtain ⟨e1, e2⟩ := hi_lo (hr _ (List.getElem_mem hlt))
    rw [e1, e2]
    generalize hm : (ns[i] % 18446744073709551616).toNat = m
    have hm2 : m < 18446744073709551616 := by omega
    have kl := Bind.keyB_len (ns.take i)
    have kl2 : (ns.take i).length ≤ 10 := by simp; omega
    refine cm_be_Put (put_ok hs (by omega) _ 4) ?_
    rintro t1 w1 ⟨b1, f1, _⟩
    have p1 : putL (Bind.keyB (ns.take i)) ((m / 4294967296 : Nat) : Int) 4 = Bind.keyB (ns.take i) ++ V4.beN 4 (m / 4294967296) := by
      unfold putL; rw [if_pos ⟨⟨by omega, by omega⟩, by omega, by simp; omega⟩]; rfl
    rw [p1] at b1
    refine cm_be_Put (put_ok (SlB.of_buf b1) (by simp [V4.beN_len]; omega) _ 4) ?_
    rintro t2 w2 ⟨b2, f2, _⟩
    have p2 : putL (Bind.keyB (ns.take i) ++ V4.beN 4 (m / 4294967296)) ((m % 4294967296 : Nat) : Int) 4 = Bind.keyB (ns.take i) ++ V4.beN 4 (m / 4294967296) ++ V4.beN 4 (m % 4294967296) := by
      unfold putL; rw [if_pos ⟨⟨by omega, by omega⟩, by omega, by simp; omega⟩]; rfl
    rw [p2] at b2
    rw [wrap_i64 (by omega) (by omega)]
    refine hnext _ _ ⟨i + 1, by omega, by simp, ?_, (hx.trans f1).trans f2⟩ (by simp only; omega)
    have ek : Bind.keyB (ns.take (i + 1)) = Bind.keyB (ns.take i) ++ V4.beN 4 (m / 4294967296) ++ V4.beN 4 (m % 4294967296) := by
      rw [List.take_succ_eq_append_getElem hlt]
      unfold Bind.keyB
      rw [List.flatMap_append, List.flatMap_singleton, hm, beN8, List.append_assoc]
    rw [ek]
    exact SlB.of_buf b2
  · have hlt' : ¬ ((i : Int) < (ns.length : Int)) := by omega
    simp only [hlt', decide_false, cond_false]
    have : i = ns.length := by omega
    subst this
    rw [List.take_length] at hs
    exact bytesStr_of hs ⟨rfl, f12.trans hx⟩

theorem keyS_size (l : List Int) (h : l.length ≤ 10) : (Bind.keyS l).size ≤ 2 ^ 63 - 1 := by
  have : (Bind.keyS l).size = (Bind.keyB l).length := rfl
  rw [this, Bind.keyB_len]; omega


end Go.Proofs
