import Derived.Test.YtcnkafgimclghaaG41r
import Derived.Test.YtcnkafgimclghaaBytes
import Derived.Test.YtcnkafgimclghaaBits
import Derived.Test.YtcnkafgimclghaaV4Pure
/- Numbers in bytes, and sums. -/
namespace Go.Proofs
open Gp Gp.V4
set_option maxRecDepth 100000



theorem equal_ok {w : World} {s t : SliceV} {l m : List UInt8} (hs : SlB w s l) (ht : SlB w t m) : c_bytes_Equal s t w fun r w' => r = decide (l = m) ∧ w' = w := by
  apply ok_bytes_Equal
  unfold s_bytes_Equal
  refine bytesStr_of hs (bytesStr_of ht ⟨?_, rfl⟩)
  unfold strEq
  rw [ByteArray.toList_eq, ByteArray.toList_eq]
  show (l == m) = decide (l = m)
  by_cases h : l = m
  · simp [h]
  · simp [h]

theorem clone_aux {e : TypeId} {w : World} {x : SliceV} {m : List UInt8} (hx : SlB w x m) (hl : m.length ≤ 2 ^ 46) {K : SliceV → World → Prop}
    (hK : ∀ r w', Buf w' r (bytesV m) → (r.a = none ↔ x.a = none) → Ext w w' → (∀ b, SliceV.at r b → w.heap.size ≤ b) → K r w') :
    (bif (Option.isNone x.a) then K ⟨none, 0, 0⟩ w else Al w (.cells ⟨[]⟩ e) fun a3 w2 => AppSl e 1 1 [(Value.int .u8 0)] ⟨(some a3), 0, 0⟩ x w2 K) := by
  cases hxa : x.a with
  | none =>
    simp only [Option.isNone_none, cond_true]
    have := hx.empty hxa
    subst this
    exact hK _ _ Buf.nil (by simp [hxa]) (Ext.refl _) fun b ⟨o, h⟩ => by cases h
  | some a =>
    simp only [Option.isNone_some, cond_false]
    refine Al_e fun b w2 r2 e2 _ f2 => ?_
    have hx2 := hx.ext f2
    refine AppSl_bytes (l := []) ⟨rfl, .inr ⟨b, [], rfl, rfl, by simpa [bytesV] using r2⟩⟩ hx2 (by simpa using hl) fun s' w' h1 h2 h3 h4 => ?_
    refine hK _ _ (by simpa using h1) (by rw [hxa]; exact ⟨fun h => by have := (h4 h).2; simp at this, fun h => by simp at h⟩) (Fr8.new (Ext.fr f2 h2) ?_) (fun c hc => ?_)
    · rintro y hy ⟨o, e⟩
      cases e; omega
    · rcases h3 c hc with ⟨o, e⟩ | h
      · cases e; omega
      · have := (f2 fun _ => False).size; omega

theorem clone_ok {w : World} {x : SliceV} {m : List UInt8} (hx : SlB w x m) (hl : m.length ≤ 2 ^ 46) :
    c_slices_Clone_byte_byte x w fun r w' => Buf w' r (bytesV m) ∧ (r.a = none ↔ x.a = none) ∧ Ext w w' ∧ ∀ b, SliceV.at r b → w.heap.size ≤ b := by
  apply ok_slices_Clone_byte_byte
  unfold s_slices_Clone_byte_byte
  exact clone_aux (K := fun r w' => Buf w' r (bytesV m) ∧ (r.a = none ↔ x.a = none) ∧ Ext w w' ∧ ∀ b, SliceV.at r b → w.heap.size ≤ b) hx hl fun r w' h1 h2 h3 h4 => ⟨h1, h2, h3, h4⟩

/-! ### Numbers in bytes -/

theorem right_ok (k : Int) (w : World) : c_be_right k w fun r w' => r = decide (sizeOk k) ∧ w' = w := by
  apply ok_be_right
  unfold s_be_right
  by_cases h1 : k ≥ 1
  · by_cases h2 : k ≤ 4
    · have : sizeOk k := ⟨h1, h2⟩
      simp [h1, h2, this]
    · have : ¬ sizeOk k := fun h => h2 h.2
      simp [h1, h2, this]
  · have : ¬ sizeOk k := fun h => h1 h.1
    simp [h1, this]

theorem shr8 {n : Int} {i : Nat} (hi : i ≤ 7) (hn : 0 ≤ n) : shrI .i64 n (IntKind.i64.wrap (8 * (i : Int))) = ((n.toNat / 256 ^ i : Nat) : Int) := by
  rw [wrap_i64 (by omega) (by omega)]
  unfold shrI
  have e : (2 : Int) ^ (min ((8 : Int) * (i : Int)).toNat (IntKind.bits .i64)) = ((256 ^ i : Nat) : Int) := by
    have : i = 0 ∨ i = 1 ∨ i = 2 ∨ i = 3 ∨ i = 4 ∨ i = 5 ∨ i = 6 ∨ i = 7 := by omega
    rcases this with rfl | rfl | rfl | rfl | rfl | rfl | rfl | rfl <;> decide
  rw [e, Int.fdiv_eq_ediv_of_nonneg _ (Int.natCast_nonneg _), Int.natCast_ediv, Int.toNat_of_nonneg hn]

theorem shr_zero {n k : Int} (hk : sizeOk k) (hn : 0 ≤ n) : (shrI .i64 n (IntKind.i64.wrap (8 * k)) == 0) = decide (n < 256 ^ k.toNat) := by
  obtain ⟨h1, h2⟩ := hk
  obtain ⟨m, rfl⟩ : ∃ m : Nat, k = (m : Int) := ⟨k.toNat, by omega⟩
  rw [shr8 (by omega) hn]
  have hp : 0 < 256 ^ m := Nat.pow_pos (by omega)
  obtain ⟨x, rfl⟩ : ∃ x : Nat, n = (x : Int) := ⟨n.toNat, by omega⟩
  have e : ((256 : Int) ^ (m : Int).toNat) = ((256 ^ m : Nat) : Int) := by simp
  rw [e]
  simp only [Int.toNat_natCast]
  by_cases h : x < 256 ^ m
  · have : x / 256 ^ m = 0 := Nat.div_eq_of_lt h
    have h' : ((x : Int) < ((256 ^ m : Nat) : Int)) := by omega
    rw [this]; simp only [h', decide_true]; rfl
  · have : 1 ≤ x / 256 ^ m := (Nat.le_div_iff_mul_le hp).2 (by omega)
    have h' : ¬ ((x : Int) < ((256 ^ m : Nat) : Int)) := by omega
    simp only [h', decide_false, beq_eq_false_iff_ne, ne_eq]
    omega

theorem fits_ok (n k : Int) (w : World) : c_be_Fits n k w fun r w' => r = decide (fitsP n k) ∧ w' = w := by
  apply ok_be_Fits
  unfold s_be_Fits
  refine cm_be_right (right_ok k w) ?_
  rintro r w1 ⟨rfl, rfl⟩
  by_cases hk : sizeOk k
  · by_cases hn : n ≥ 0
    · simp only [hk, hn, decide_true, cond_true]
      refine ⟨by have := hk.1; have := hk.2; rw [wrap_i64 (by omega) (by omega)]; omega, ?_, by trivial⟩
      rw [shr_zero hk hn]
      simp [fitsP, hk, hn]
    · simp only [hk, hn, decide_true, decide_false, cond_true, cond_false]
      have : ¬ fitsP n k := fun h => hn h.2.1
      exact ⟨by simp [this], by trivial⟩
  · simp only [hk, decide_false, cond_false]
    exact ⟨by simp [fitsP, hk], by trivial⟩

theorem window_ok {w : World} {s : SliceV} {l : List UInt8} (h : SlB w s l) (hl : l.length ≤ 2 ^ 62) (at_ k : Int) : c_be_window s at_ k w fun r e w' => w' = w ∧
    if ¬ sizeOk k ∨ at_ < 0 then e = 1 ∧ r = ⟨none, 0, 0⟩ else if (l.length : Int) < at_ + k then e = 3 ∧ r = ⟨none, 0, 0⟩ else e = 0 ∧ SlB w r ((l.drop at_.toNat).take k.toNat) ∧ ∀ a, s.a = some a → r.a = some (a.add at_.toNat) := by
  apply ok_be_window
  unfold s_be_window
  have hlen := h.1
  refine cm_be_right (right_ok k w) ?_
  rintro r w1 ⟨rfl, rfl⟩
  by_cases hk : sizeOk k
  · have hk1 := hk.1
    have hk2 := hk.2
    by_cases ha : at_ < 0
    · simp only [hk, ha, decide_true, Bool.not_true, cond_true, cond_false]
      exact ⟨by trivial, by simp⟩
    · have hno : ¬ (¬ sizeOk k ∨ at_ < 0) := by rintro (h | h) <;> contradiction
      simp only [hk, ha, decide_true, decide_false, Bool.not_true, cond_false, not_true_eq_false, or_self, if_false]
      by_cases h1 : ((s.len : Int) < k)
      · simp only [h1, decide_true, cond_true]
        exact ⟨by trivial, by rw [if_pos (by omega)]; exact ⟨by trivial, by trivial⟩⟩
      · simp only [h1, decide_false, cond_false]
        rw [wrap_i64 (n := (s.len : Int) - k) (by omega) (by omega)]
        by_cases h2 : at_ > (s.len : Int) - k
        · simp only [h2, decide_true, cond_true]
          exact ⟨by trivial, by rw [if_pos (by omega)]; exact ⟨by trivial, by trivial⟩⟩
        · simp only [h2, decide_false, cond_false]
          rw [wrap_i64 (n := at_ + k) (by omega) (by omega)]
          have hcap := h.2.2
          refine ⟨by omega, by omega, by omega, by omega, by trivial, ?_⟩
          rw [if_neg (by omega)]
          have hc := h.cut (lo := at_.toNat) (hi := (at_ + k).toNat) (by omega) (by omega) (at_ + k).toNat (Nat.le_refl _) (at_ + k).toNat (fun e => by omega)
          rw [List.drop_take, show (at_ + k).toNat - at_.toNat = k.toNat by omega] at hc
          refine ⟨by trivial, ?_, fun a hsa => ?_⟩
          · rw [show (at_ + k).toNat - at_.toNat = k.toNat by omega]
            exact hc
          · have hne : ¬ ((at_ + k).toNat = at_.toNat) := by omega
            simp only [subA, hne, if_false, hsa, Option.map_some, Nat.mul_one]
  · simp only [hk, decide_false, Bool.not_false, cond_true]
    exact ⟨by trivial, by simp⟩

theorem or_shift {n x : Nat} (hn : n < 2 ^ 40) (hx : x < 256) : orI .i64 (shlI .i64 (n : Int) 8) (x : Int) = ((n * 256 + x : Nat) : Int) := by
  have e0 : shlI .i64 (n : Int) 8 = ((n * 256 : Nat) : Int) := by
    unfold shlI
    have : (2 : Int) ^ (min (8 : Int).toNat (IntKind.bits .i64)) = 256 := by decide
    rw [this, wrap_i64 (by omega) (by omega)]; omega
  rw [e0]
  unfold orI
  have eb : IntKind.bits .i64 = 64 := rfl
  have h1 : (BitVec.ofInt (IntKind.bits .i64) ((n * 256 : Nat) : Int)).toNat = n * 256 := by
    rw [eb, BitVec.toNat_ofInt]; omega
  have h2 : (BitVec.ofInt (IntKind.bits .i64) (x : Int)).toNat = x := by
    rw [eb, BitVec.toNat_ofInt]; omega
  rw [BitVec.toNat_or, h1, h2]
  have h3 : n * 256 ||| x = n * 256 + x := by
    have := Nat.two_pow_add_eq_or_of_lt (i := 8) (b := x) (by omega) n
    rw [show (2 : Nat) ^ 8 = 256 by decide] at this
    rw [Nat.mul_comm n 256, this]
  rw [h3, wrap_i64 (by omega) (by omega)]

theorem numBE_lt40 {l : List UInt8} (h : l.length ≤ 4) : numBE l < 2 ^ 32 := by
  have h1 := numBE_lt l
  have : (256 : Nat) ^ l.length ≤ 256 ^ 4 := Nat.pow_le_pow_right (by omega) h
  have e : (256 : Nat) ^ 4 = 4294967296 := by decide
  omega

theorem numBE_snoc (l : List UInt8) {i : Nat} (h : i < l.length) : numBE (l.take (i + 1)) = numBE (l.take i) * 256 + l[i].toNat := by
  unfold numBE
  rw [List.take_succ_eq_append_getElem h, List.foldl_append]; rfl

def getR (l : List UInt8) (at_ k : Int) (n e : Int) : Prop :=
  if ¬ sizeOk k ∨ at_ < 0 then e = 1 ∧ n = 0 else if (l.length : Int) < at_ + k then e = 3 ∧ n = 0 else e = 0 ∧ n = (num l at_.toNat k.toNat : Int)

theorem get_ok {w : World} {s : SliceV} {l : List UInt8} (h : SlB w s l) (hl : l.length ≤ 2 ^ 62) (at_ k : Int) : c_be_Get s at_ k w fun n e w' => w' = w ∧ getR l at_ k n e := by
  apply ok_be_Get
  unfold s_be_Get
  refine cm_be_window (window_ok h hl at_ k) ?_
  rintro r e w1 ⟨rfl, hr⟩
  have main : ∀ (m : List UInt8), SlB w1 r m → m.length ≤ 4 → ∀ (K : Int → Prop), K (numBE m : Int) → LoopP (S := Int × Int × Unit) (fun s7 w8 next9 =>
      (bif (decide (s7.2.1 < (r.len : Int))) then
        AtIx r 1 s7.2.1 fun a10 => Ld (.int .u8) w8 a10 fun x11 => 0 ≤ (8 : Int) ∧ next9 ((orI .i64 (shlI .i64 s7.1 8) (IntKind.i64.wrap x11)), (IntKind.i64.wrap (s7.2.1 + 1)), ()) w8
      else (w8 = w1 ∧ K s7.1))) (0, 0, ()) w1 := by
    intro m hm hm4 K hK
    have hml := hm.1
    refine LoopP_inv (fun st W => W = w1 ∧ ∃ i : Nat, i ≤ m.length ∧ st.2.1 = i ∧ st.1 = (numBE (m.take i) : Int)) (fun st _ => m.length - st.2.1.toNat) ⟨rfl, 0, by omega, rfl, rfl⟩ ?_
    rintro ⟨n, j, ⟨⟩⟩ W ⟨rfl, i, hi, rfl, rfl⟩ next hnext
    by_cases hlt : i < m.length
    · have hlt' : ((i : Int) < (r.len : Int)) := by omega
      simp only [hlt', decide_true, cond_true]
      obtain ⟨a, ha, hc⟩ := hm.at_ (List.getElem?_eq_getElem hlt)
      refine ⟨a, ha, by omega, by omega, ?_⟩
      simp only [Int.toNat_natCast, Nat.mul_one, Ld_eq, LdV_some, dec_int, hc]
      refine ⟨by omega, ?_⟩
      have hb := m[i].toNat_lt
      have hn2 : numBE (m.take i) < 2 ^ 32 := numBE_lt40 (by simp; omega)
      rw [wrap_i64 (n := ((m[i].toNat : Nat) : Int)) (by omega) (by omega), or_shift (by omega) (by omega), wrap_i64 (by omega) (by omega)]
      refine hnext _ _ ⟨rfl, i + 1, by omega, by simp, ?_⟩ (by simp only; omega)
      simp only [numBE_snoc _ hlt]
    · have hlt' : ¬ ((i : Int) < (r.len : Int)) := by omega
      simp only [hlt', decide_false, cond_false]
      have : i = m.length := by omega
      subst this
      rw [List.take_length]
      exact ⟨trivial, hK⟩
  by_cases c1 : ¬ sizeOk k ∨ at_ < 0
  · rw [if_pos c1] at hr
    obtain ⟨rfl, rfl⟩ := hr
    exact main [] SlB.nil (by simp) (fun n => getR l at_ k n 1) (by unfold getR; rw [if_pos c1]; exact ⟨rfl, rfl⟩)
  · rw [if_neg c1] at hr
    by_cases c2 : (l.length : Int) < at_ + k
    · rw [if_pos c2] at hr
      obtain ⟨rfl, rfl⟩ := hr
      exact main [] SlB.nil (by simp) (fun n => getR l at_ k n 3) (by unfold getR; rw [if_neg c1, if_pos c2]; exact ⟨rfl, rfl⟩)
    · rw [if_neg c2] at hr
      obtain ⟨rfl, hr, _⟩ := hr
      refine main _ hr ?_ (fun n => getR l at_ k n 0) (by unfold getR; rw [if_neg c1, if_neg c2]; exact ⟨rfl, rfl⟩)
      have hk : sizeOk k := Classical.byContradiction fun h => c1 (.inl h)
      have := hk.2
      simp; omega

theorem getR_in {l : List UInt8} {at_ k : Nat} {n e : Int} (hk : 1 ≤ k ∧ k ≤ 4) (h : at_ + k ≤ l.length) (hr : getR l at_ k n e) : n = (num l at_ k : Int) := by
  unfold getR at hr
  rw [if_neg (by unfold sizeOk; omega), if_neg (by omega)] at hr
  simpa using hr.2

theorem num_lt {l : List UInt8} {at_ k : Nat} (h : k ≤ 4) : num l at_ k < 2 ^ 32 := numBE_lt40 (by simp; omega)

/-! ### A number's bytes -/

def yB (l : List UInt8) : List (DenR [.one (.int .u8)]) := l.map fun b => ((b.toNat : Int), ())

theorem yB_get (l : List UInt8) (i : Nat) : (yB l)[i]? = (l[i]?).map fun b => ((b.toNat : Int), ()) := by simp [yB]

theorem beN_get : ∀ (k n i : Nat), i < k → (beN k n)[i]? = some (UInt8.ofNat (n / 256 ^ (k - 1 - i)))
  | 0, _, _, h => by omega
  | k + 1, n, 0, _ => by simp [beN]
  | k + 1, n, i + 1, h => by
    simp only [beN, List.getElem?_cons_succ]
    rw [beN_get k n i (by omega), show k + 1 - 1 - (i + 1) = k - 1 - i by omega]

theorem digits_iter {n : Int} {k f0 f1 : Nat} (hk : k ≤ 4) (hn : 0 ≤ n) :
    IterFn Try.prog [.one (.int .u8)] (Value.func (.func n_be_digits_1) #[] #[(Value.pointer (some ⟨f0, 0, none⟩)), (Value.pointer (some ⟨f1, 0, none⟩))])
      (fun W => Row W f0 [.int .i64 (k : Int)] ∧ Row W f1 [.int .i64 n]) (yB (beN k n.toNat)) := by
  refine ⟨by kernel_rfl, fun l Q D hC hQ hD hy w h0 => ?_⟩
  refine Calls.mono (ok_be_digits_1 (a0 := .func (.yield l) #[] #[]) (f0 := ⟨f0, 0, none⟩) (f1 := ⟨f1, 0, none⟩) (K := fun w' => Q (yB (beN k n.toNat)).length w' ∨ D w') ?_) (fun e w' h => h)
  have hlen : (yB (beN k n.toNat)).length = k := by simp [yB, beN_len]
  unfold s_be_digits_1
  obtain ⟨r0, _⟩ := hC _ _ h0
  simp only [Ld_eq, List.getElem?_cons_zero, LdV_some, dec_int, r0.cell]
  rw [hlen]
  refine LoopP_inv (fun st W => ∃ i : Nat, i ≤ k ∧ st.1 = (k : Int) - 1 - i ∧ Q i W) (fun st _ => (st.1 + 1).toNat) ⟨0, by omega, by rw [wrap_i64 (by omega) (by omega)]; simp, h0⟩ ?_
  rintro ⟨x, ⟨⟩⟩ W ⟨i, hi, hx, hq⟩ next hnext
  simp only at hx
  by_cases hlt : i < k
  · have hx0 : x ≥ 0 := by omega
    obtain ⟨_, r1⟩ := hC _ _ hq
    simp only [hx0, decide_true, cond_true, cond_true, List.getElem?_cons_zero, LdV_some, dec_int, r1.cell]
    refine ⟨by rw [wrap_i64 (by omega) (by omega)]; omega, ?_⟩
    obtain ⟨j, rfl⟩ : ∃ j : Nat, x = (j : Int) := ⟨x.toNat, by omega⟩
    rw [shr8 (by omega) hn]
    have hj : j = k - 1 - i := by omega
    have e : IntKind.u8.wrap ((n.toNat / 256 ^ j : Nat) : Int) = (((UInt8.ofNat (n.toNat / 256 ^ j)).toNat : Nat) : Int) := by
      rw [IntKind.wrap_u8]; simp
    rw [e]
    refine callV_yield (hy i ((((UInt8.ofNat (n.toNat / 256 ^ j)).toNat : Nat) : Int), ()) W _ ?_ hq ?_ ?_)
    · rw [yB_get, beN_get _ _ _ hlt, ← hj]; rfl
    · intro W' hq'
      refine ⟨true, rfl, ?_⟩
      simp only [Bool.not_true, cond_false]
      rw [wrap_i64 (by omega) (by omega)]
      exact hnext _ _ ⟨i + 1, by omega, by simp only; omega, hq'⟩ (by simp only; omega)
    · intro W' hd
      refine ⟨false, rfl, ?_⟩
      simp only [Bool.not_false, cond_true]
      exact .inr hd
  · have hx0 : ¬ x ≥ 0 := by omega
    simp only [hx0, decide_false, cond_false]
    have : i = k := by omega
    subst this
    exact .inl hq

/-- What yields these bytes, as long as nothing behind a place is touched. -/
def YieldsB (w0 w : World) (v : Value) (l : List UInt8) : Prop :=
  ∃ C, IterFn Try.prog [.one (.int .u8)] v C (yB l) ∧ ∀ W S, Fr8 w W S → (∀ b, w0.heap.size ≤ b → b < w.heap.size → ¬ S b) → C W

theorem digits_ok {n k : Int} (hk : sizeOk k) (hn : 0 ≤ n) (w : World) : c_be_digits n k w fun v w' => Ext w w' ∧ YieldsB w w' v (beN k.toNat n.toNat) := by
  apply ok_be_digits
  unfold s_be_digits
  refine ⟨rfl, Al_e fun a w1 r1 e1 z1 f1 => ⟨rfl, Al_e fun b w2 r2 e2 z2 f2 => ?_⟩⟩
  have r1' := r1.ext f2
  obtain ⟨m, rfl⟩ : ∃ m : Nat, k = (m : Int) := ⟨k.toNat, by have := hk.1; omega⟩
  refine ⟨f1.trans f2, _, digits_iter (by have := hk.2; omega) hn, fun W S hf hs => ⟨r2.fr hf (hs _ ?_ ?_), r1'.fr hf (hs _ ?_ ?_)⟩⟩ <;> omega

theorem appendSeq_ok {w0 w : World} {s : SliceV} {v : Value} {l m : List UInt8} (hs : Buf w s (bytesV l)) (hv : YieldsB w0 w v m) (hd : ∀ b, SliceV.at s b → ¬ (w0.heap.size ≤ b ∧ b < w.heap.size)) (hl : l.length + m.length ≤ 2 ^ 46) :
    c_slices_AppendSeq_byte_byte s v w fun r w' => Buf w' r (bytesV (l ++ m)) ∧ Fr8 w w' (SliceV.at s) ∧ (∀ b, SliceV.at r b → SliceV.at s b ∨ w.heap.size ≤ b) ∧ (r.a = none → l ++ m = [] ∧ s.a = none) := by
  obtain ⟨C, hi, hC⟩ := hv
  apply ok_slices_AppendSeq_byte_byte
  unfold s_slices_AppendSeq_byte_byte
  refine ⟨rfl, Al_e fun a w1 r1 e1 z1 f1 => ?_⟩
  have hlen : (yB m).length = m.length := by simp [yB]
  have hat : ∀ b, SliceV.at s b → b < w.heap.size := fun b hb => hs.lt hb
  refine rng_iter hi (fun i W => ∃ t : SliceV, Row W a [.slice t.a t.len t.cap] ∧ Buf W t (bytesV (l ++ m.take i)) ∧ Fr8 w W (SliceV.at s) ∧ (∀ b, SliceV.at t b → SliceV.at s b ∨ (w.heap.size ≤ b ∧ b ≠ a ∧ b ≠ lAt none w1 ∧ b ≠ w1.heap.size)) ∧ (t.a = none → l ++ m.take i = [] ∧ s.a = none) ∧ lAt none w1 < W.heap.size)
    (fun _ _ => False) (by simp) ?_ ?_ ?_ (by intro e W W' h; exact h.elim) (by intro e W h; exact h.elim) ?_ ?_ (by intro W h; exact h.elim) (by intro id W h; exact h.elim)
  · intro w2 f2 z2
    refine ⟨s, r1.ext f2, by simpa using (hs.ext f1).ext f2, (f1.trans f2) _, fun b hb => .inl hb, ?_, by omega⟩
    simp only [List.take_zero, List.append_nil]
    intro ha
    obtain ⟨_, ⟨_, h2, _⟩ | ⟨c, pad, h2, _⟩⟩ := hs
    · exact ⟨by simpa [bytesV] using h2, ha⟩
    · rw [ha] at h2; cases h2
  · rintro i W ⟨t, _, _, hf, _⟩
    exact hC W _ hf fun b h1 h2 h3 => hd b h3 ⟨h1, h2⟩
  · rintro i W W' ⟨t, h1, h2, h3, h4, h5, h6⟩ hf
    have hla : lAt none w1 = w1.heap.size + 1 := rfl
    refine ⟨t, h1.fr hf (by omega), h2.fr hf fun b hb e => ?_, h3.trans hf (fun b hb e => by omega), h4, h5, by have := hf.size; omega⟩
    rcases h4 b hb with h | h
    · have := hat b h; omega
    · omega
  · intro i x W Kb hx ⟨t, h1, h2, h3, h4, h5, h6⟩ hlt hnorm _
    refine ⟨rfl, ?_⟩
    have hla : lAt none w1 = w1.heap.size + 1 := rfl
    rw [yB_get] at hx
    cases hb : m[i]? with
    | none => rw [hb] at hx; simp at hx
    | some y =>
    rw [hb] at hx
    simp only [Option.map_some, Option.some.injEq] at hx
    subst hx
    have fb := Fr8.busyW W (lAt none w1)
    have h1' := h1.fr fb (by omega)
    have h2' : Buf (busyW W (lAt none w1)) t (bytesV (l ++ m.take i)) := h2.fr fb fun b hb e => by
      rcases h4 b hb with h | h
      · have := hat b h; omega
      · omega
    simp only [Ld_eq, List.getElem?_cons_zero, LdV_some, dec_slice, h1'.cell]
    have hil : i < m.length := (List.getElem?_eq_some_iff.1 hb).1
    refine Al_e fun c w3 r3 e3 z3 f3 => ?_
    have hz3 : w3.heap.size = W.heap.size + 1 := by rw [z3, e3]; simp [busyW]
    have hx3 : SlB w3 ⟨some ⟨c, 0, none⟩, 1, 1⟩ [y] := .of_buf (SlB.row (l := [y]) (by simpa [bytesV] using r3))
    have h2'' := h2'.ext f3
    refine AppSl_bytes h2'' hx3 (by simp; omega) fun s' w4 b4 f4 p4 n4 => ?_
    have hta : ¬ SliceV.at t a := fun h => by
      rcases h4 a h with h | h
      · have := hat a h; omega
      · exact h.2.1 rfl
    have h1'' := (h1'.ext f3).fr f4 hta
    refine St_row h1'' rfl (by simp) fun w5 r5 f5 z5 => ?_
    simp only [List.set_cons_zero] at r5
    have hbz : (busyW W (lAt none w1)).heap.size = W.heap.size := by simp [busyW]
    have hsa : ∀ b, SliceV.at s' b → b ≠ a := fun b hb e => by
      rcases p4 b hb with h | h
      · exact hta (e ▸ h)
      · have := h1.lt; omega
    refine hnorm w5 (fun b => SliceV.at t b ∨ b = a) ?_ ?_ ⟨s', r5, ?_, ?_, ?_, ?_, ?_⟩
    · exact ((f3 _).trans (f4.mono fun b h => .inl h) fun _ _ e => e).trans (f5 (fun b => SliceV.at t b ∨ b = a) (.inr rfl)) fun _ _ e => e
    · rintro b hb1 hb2 (h | h)
      · rcases h4 b h with h | h
        · have := hat b h; omega
        · rcases Nat.lt_or_ge b (lAt none w1) with hx | hx <;> omega
      · omega
    · have e : l ++ m.take (i + 1) = l ++ m.take i ++ [y] := by
        rw [List.take_succ_eq_append_getElem hil]
        have : m[i] = y := by rw [List.getElem?_eq_getElem hil] at hb; simpa using hb
        simp [this]
      rw [e]
      exact b4.fr (f5 (· = a) rfl) fun b hb e => hsa b hb e
    · refine ((h3.trans fb fun b hb e => by omega).ext f3).trans (S' := fun b => SliceV.at t b ∨ b = a) ((f4.mono fun b h => .inl h).trans (f5 (fun b => SliceV.at t b ∨ b = a) (.inr rfl)) fun _ _ e => e) ?_
      rintro b hb (h | h)
      · rcases h4 b h with h | h
        · exact h
        · omega
      · omega
    · intro b hb
      rcases p4 b hb with h | h
      · exact h4 b h
      · refine .inr ⟨by have := h3.size; omega, hsa b hb, ?_, ?_⟩ <;> omega
    · intro ha
      obtain ⟨h1, h2⟩ := n4 ha
      simp at h1
    · have := f4.size; omega
  · rintro W ⟨t, h1, h2, h3, h4, h5, h6⟩ hm
    have hla : lAt none w1 = w1.heap.size + 1 := rfl
    simp only [Ld_eq, List.getElem?_cons_zero, LdV_some, dec_slice, h1.cell]
    rw [hlen, List.take_length] at h2 h5
    refine ⟨hm rfl, ?_, ?_, ?_, h5⟩
    · exact h2.fr (Fr8.putDef _ _ _) fun b hb e => by
        rcases h4 b hb with h | h
        · have := hat b h; omega
        · omega
    · exact h3.trans (Fr8.putDef _ _ _) fun b hb e => by omega
    · intro b hb
      rcases h4 b hb with h | h
      · exact .inl h
      · exact .inr h.1



theorem collect_ok {w0 w : World} {v : Value} {m : List UInt8} (hv : YieldsB w0 w v m) (hl : m.length ≤ 2 ^ 46) :
    c_slices_Collect_byte v w fun r w' => Buf w' r (bytesV m) ∧ Ext w w' ∧ (∀ b, SliceV.at r b → w.heap.size ≤ b) := by
  apply ok_slices_Collect_byte
  unfold s_slices_Collect_byte
  refine cm_slices_AppendSeq_byte_byte (appendSeq_ok (l := []) Buf.nil hv (by rintro b ⟨o, h⟩; cases h) (by simpa using hl)) ?_
  rintro r w1 ⟨h1, f1, h2, _⟩
  refine ⟨by simpa using h1, f1.new ?_, fun b hb => ?_⟩
  · rintro b _ ⟨o, h⟩; cases h
  · rcases h2 b hb with ⟨o, h⟩ | h
    · cases h
    · exact h

def putL (l : List UInt8) (n k : Int) : List UInt8 := if fitsP n k then l ++ beN k.toNat n.toNat else l

theorem put_ok {w : World} {s : SliceV} {l : List UInt8} (hs : SlB w s l) (hl : l.length + 4 ≤ 2 ^ 46) (n k : Int) :
    c_be_Put s n k w fun r w' => Buf w' r (bytesV (putL l n k)) ∧ Ext w w' ∧ (∀ b, SliceV.at r b → w.heap.size ≤ b) := by
  apply ok_be_Put
  unfold s_be_Put
  refine cm_slices_Clone_byte_byte (clone_ok hs (by omega)) ?_
  rintro r w1 ⟨b1, _, f1, n1⟩
  refine cm_be_Fits (fits_ok n k w1) ?_
  rintro _ _ ⟨rfl, rfl⟩
  by_cases hf : fitsP n k
  · simp only [hf, decide_true, Bool.not_true, cond_false]
    refine cm_be_digits (digits_ok hf.1 hf.2.1 _) ?_
    rintro v w2 ⟨f2, hv⟩
    have hk := hf.1
    refine cm_slices_AppendSeq_byte_byte (appendSeq_ok (b1.ext f2) hv (fun b hb h => by have := b1.lt hb; omega) (by rw [beN_len]; have := hk.2; omega)) ?_
    rintro r' w3 ⟨b3, f3, n3, _⟩
    refine ⟨by simpa [putL, hf] using b3, (f1.trans f2).new f3 fun b hb h => by have := n1 b h; omega, fun b hb => ?_⟩
    have := f1.size
    have := f2.size
    rcases n3 b hb with h | h
    · exact n1 b h
    · omega
  · simp only [hf, decide_false, Bool.not_false, cond_true]
    exact ⟨by simpa [putL, hf] using b1, f1, n1⟩

theorem set_mid {α : Type} (A : List α) (ys : List α) (R : List α) {i : Nat} {y : α} (hi : ys[i]? = some y) (hR : 0 < R.length) :
    (A ++ ys.take i ++ R).set (A.length + i) y = A ++ ys.take (i + 1) ++ R.drop 1 := by
  have hlt := (List.getElem?_eq_some_iff.1 hi).1
  have e : (A ++ ys.take i).length = A.length + i := by simp; omega
  rw [List.set_append_right _ _ (by omega), e, Nat.sub_self]
  cases R with
  | nil => simp at hR
  | cons r R =>
    simp only [List.set_cons_zero, List.drop_succ_cons, List.drop_zero]
    rw [List.take_succ_eq_append_getElem hlt]
    have : ys[i] = y := by rw [List.getElem?_eq_getElem hlt] at hi; simpa using hi
    simp [this]

structure setR (l : List UInt8) (at_ n k : Int) (w : World) (r : SliceV) (e : Int) : Prop where
  out : if ¬ fitsP n k ∨ at_ < 0 then e = 1 ∧ r = ⟨none, 0, 0⟩ else if (l.length : Int) < at_ + k then e = 3 ∧ r = ⟨none, 0, 0⟩ else e = 0 ∧ Buf w r (bytesV (l.take at_.toNat ++ beN k.toNat n.toNat ++ l.drop (at_.toNat + k.toNat)))

theorem set_ok {w : World} {s : SliceV} {l : List UInt8} (hs : SlB w s l) (hl : l.length ≤ 2 ^ 46) (at_ n k : Int) :
    c_be_Set s at_ n k w fun r e w' => setR l at_ n k w' r e ∧ Ext w w' ∧ (∀ b, SliceV.at r b → w.heap.size ≤ b) := by
  apply ok_be_Set
  unfold s_be_Set
  refine cm_be_Fits (fits_ok n k w) ?_
  rintro _ _ ⟨rfl, rfl⟩
  by_cases hf : fitsP n k
  · simp only [hf, decide_true, Bool.not_true, cond_false]
    refine cm_slices_Clone_byte_byte (clone_ok hs (by omega)) ?_
    rintro r w1 ⟨b1, _, f1, n1⟩
    have hk := hf.1
    refine cm_be_window (window_ok (SlB.of_buf b1) (by omega) at_ k) ?_
    rintro r2 e w2 ⟨rfl, hr⟩
    by_cases c1 : at_ < 0
    · rw [if_pos (.inr c1)] at hr
      obtain ⟨rfl, rfl⟩ := hr
      refine ⟨?_, f1, by rintro b ⟨o, h⟩; cases h⟩
      refine ⟨?_⟩
      rw [if_pos (.inr c1)]
      exact ⟨rfl, rfl⟩
    have c1' : ¬ (¬ sizeOk k ∨ at_ < 0) := by rintro (h | h) <;> contradiction
    have c1'' : ¬ (¬ fitsP n k ∨ at_ < 0) := by rintro (h | h) <;> contradiction
    rw [if_neg c1'] at hr
    by_cases c2 : (l.length : Int) < at_ + k
    · rw [if_pos c2] at hr
      obtain ⟨rfl, rfl⟩ := hr
      refine ⟨?_, f1, by rintro b ⟨o, h⟩; cases h⟩
      refine ⟨?_⟩
      rw [if_neg c1'', if_pos c2]
      exact ⟨rfl, rfl⟩
    rw [if_neg c2] at hr
    obtain ⟨rfl, hr, ha⟩ := hr
    simp only [show ((0 : Int) != 0) = false from rfl, cond_false]
    refine cm_be_digits (digits_ok hk hf.2.1 _) ?_
    rintro v w3 ⟨f3, hv⟩
    refine cm_slices_Collect_byte (collect_ok hv (by rw [beN_len]; have := hk.2; omega)) ?_
    rintro q w4 ⟨b4, f4, n4⟩
    obtain ⟨m, rfl⟩ : ∃ m : Nat, k = (m : Int) := ⟨k.toNat, by have := hk.1; omega⟩
    obtain ⟨o, rfl⟩ : ∃ o : Nat, at_ = (o : Int) := ⟨at_.toNat, by omega⟩
    simp only [Int.toNat_natCast] at hr ha b4
    have hq := b4.1
    rw [bytesV_len, beN_len] at hq
    have hbl : (beN m n.toNat).length = m := beN_len _ _
    have hrl := hr.1
    simp only [List.length_take, List.length_drop] at hrl
    have hqr : ∀ b, SliceV.at q b → ¬ SliceV.at r b := fun b h1 h2 => by
      have := n4 b h1
      have := b1.lt h2
      have := f3.size
      omega
    refine LoopP_inv (fun st W => ∃ i : Nat, i ≤ m ∧ st.1 = i ∧ Buf W r (bytesV (l.take o ++ (beN m n.toNat).take i ++ l.drop (o + i))) ∧ Buf W q (bytesV (beN m n.toNat)) ∧ Fr8 w4 W (SliceV.at r))
      (fun st _ => m - st.1.toNat) ⟨0, by omega, rfl, by simpa using (b1.ext f3).ext f4, b4, Fr8.refl _ _⟩ ?_
    rintro ⟨x, ⟨⟩⟩ W ⟨i, hi, rfl, h1, h2, h3⟩ next hnext
    by_cases hlt : i < m
    · have hlt' : ((i : Int) < (q.len : Int)) := by omega
      simp only [hlt', decide_true, cond_true]
      have hy : (beN m n.toNat)[i]? = some (beN m n.toNat)[i] := List.getElem?_eq_getElem (by rw [hbl]; exact hlt)
      obtain ⟨a, haq, hc⟩ := (SlB.of_buf h2).at_ hy
      refine ⟨a, haq, by omega, by omega, ?_⟩
      simp only [Int.toNat_natCast, Nat.mul_one, Ld_eq, hc, LdV_some, dec_int]
      have hol : o + i < l.length := by omega
      obtain ⟨b, hb, hset⟩ := h1.set (i := o + i) (by simp [bytesV_len, hbl]; omega)
      have har := ha _ hb
      refine ⟨_, har, by omega, by omega, ?_⟩
      rw [addr_add2]
      simp only [Int.toNat_natCast, Nat.mul_one, add_mk, Nat.zero_add]
      refine hset _ _ rfl fun w5 b5 f5 z5 => ?_
      rw [wrap_i64 (by omega) (by omega)]
      refine hnext _ _ ⟨i + 1, by omega, by simp, ?_, h2.fr f5 (fun b hb h => hqr b hb h), h3.trans f5 fun _ _ h => h⟩ (by simp only; omega)
      have e := set_mid (l.take o) (beN m n.toNat) (l.drop (o + i)) hy (by simp; omega)
      rw [List.length_take, Nat.min_eq_left (by omega)] at e
      have e' : (bytesV (l.take o ++ (beN m n.toNat).take i ++ l.drop (o + i))).set (o + i) (.int .u8 (beN m n.toNat)[i].toNat) = bytesV (l.take o ++ (beN m n.toNat).take (i + 1) ++ l.drop (o + (i + 1))) := by
        rw [show l.drop (o + (i + 1)) = (l.drop (o + i)).drop 1 by rw [List.drop_drop]; rfl, ← e]
        unfold bytesV
        rw [List.map_set]
      rw [e'] at b5
      exact b5
    · have hlt' : ¬ ((i : Int) < (q.len : Int)) := by omega
      simp only [hlt', decide_false, cond_false]
      have : i = m := by omega
      subst this
      refine ⟨?_, ((f1.trans f3).trans f4).new h3 fun b hb h => by have := n1 b h; omega, n1⟩
      refine ⟨?_⟩
      rw [if_neg c1'', if_neg c2]
      refine ⟨rfl, ?_⟩
      rw [List.take_of_length_le (l := beN i n.toNat) (by omega)] at h1
      simpa using h1
  · simp only [hf, decide_false, Bool.not_false, cond_true]
    refine ⟨?_, Ext.refl _, by rintro b ⟨o, h⟩; cases h⟩
    refine ⟨?_⟩
    rw [if_pos (.inl hf)]
    exact ⟨rfl, rfl⟩

theorem setR_in {l : List UInt8} {at_ n k : Int} {w : World} {r : SliceV} {e : Int} (h1 : fitsP n k) (h2 : 0 ≤ at_) (h3 : at_ + k ≤ l.length) (h : setR l at_ n k w r e) : e = 0 ∧ Buf w r (bytesV (l.take at_.toNat ++ beN k.toNat n.toNat ++ l.drop (at_.toNat + k.toNat))) := by
  have := h.out
  rwa [if_neg (by rintro (h | h); exact h h1; omega), if_neg (by omega)] at this

/-! ### Sums -/

def wordAt (l : List UInt8) (j : Nat) : Nat := ((l[j]?).getD 0).toNat * 256 + ((l[j + 1]?).getD 0).toNat

def wB (l : List UInt8) : List (DenR [.one (.int .i64), .one (.int .i64)]) := (List.range ((l.length + 1) / 2)).map fun i => (((2 * i : Nat) : Int), ((wordAt l (2 * i) : Nat) : Int), ())

theorem wB_len (l : List UInt8) : (wB l).length = (l.length + 1) / 2 := by simp [wB]

theorem wB_get (l : List UInt8) {i : Nat} (h : 2 * i < l.length) : (wB l)[i]? = some (((2 * i : Nat) : Int), ((wordAt l (2 * i) : Nat) : Int), ()) := by
  simp only [wB, List.getElem?_map]
  rw [List.getElem?_range (by omega)]; rfl

theorem tot_take (l : List UInt8) {i : Nat} (h : 2 * i < l.length) : tot (l.take (2 * (i + 1))) = tot (l.take (2 * i)) + wordAt l (2 * i) := by
  have e : l.take (2 * (i + 1)) = l.take (2 * i) ++ (l.drop (2 * i)).take 2 := by
    rw [Nat.mul_add, List.take_add]
  rw [e, tot_append _ _ (by simp; omega)]
  congr 1
  unfold wordAt
  rw [← List.getElem?_drop, show l[2 * i]? = (l.drop (2 * i))[0]? by simp]
  match hd : l.drop (2 * i) with
  | [] => have h3 := congrArg List.length hd; rw [List.length_drop] at h3; simp only [List.length_nil] at h3; omega
  | [a] => simp [tot]
  | a :: b :: r => simp [tot]

theorem wordAt_lt (l : List UInt8) (j : Nat) : wordAt l j < 65536 := by
  unfold wordAt
  have h1 := ((l[j]?).getD 0).toNat_lt
  have h2 := ((l[j + 1]?).getD 0).toNat_lt
  omega

theorem words_iter {s : SliceV} {f0 : Nat} {l : List UInt8} (hl : l.length ≤ 2 ^ 46) :
    IterFn Try.prog [.one (.int .i64), .one (.int .i64)] (Value.func (.func n_be_Words_1) #[] #[(Value.pointer (some ⟨f0, 0, none⟩))])
      (fun W => Row W f0 [.slice s.a s.len s.cap] ∧ SlB W s l) (wB l) := by
  refine ⟨by kernel_rfl, fun n Q D hC hQ hD hy w h0 => ?_⟩
  refine Calls.mono (ok_be_Words_1 (a0 := .func (.yield n) #[] #[]) (f0 := ⟨f0, 0, none⟩) (K := fun w' => Q (wB l).length w' ∨ D w') ?_) (fun e w' h => h)
  unfold s_be_Words_1
  rw [wB_len]
  refine LoopP_inv (fun st W => ∃ i : Nat, i ≤ (l.length + 1) / 2 ∧ st.1 = ((2 * i : Nat) : Int) ∧ Q i W) (fun st _ => l.length + 1 - st.1.toNat) ⟨0, by omega, rfl, h0⟩ ?_
  rintro ⟨x, ⟨⟩⟩ W ⟨i, hi, rfl, hq⟩ next hnext
  obtain ⟨r0, hs⟩ := hC _ _ hq
  have hsl := hs.1
  simp only [Ld_eq, List.getElem?_cons_zero, LdV_some, dec_slice, r0.cell]
  by_cases hlt : 2 * i < l.length
  · have hlt' : (((2 * i : Nat) : Int) < (s.len : Int)) := by omega
    simp only [hlt', decide_true, cond_true]
    obtain ⟨a, ha, hc⟩ := hs.at_ (List.getElem?_eq_getElem hlt)
    refine ⟨a, ha, by omega, by omega, ?_⟩
    rw [Int.toNat_natCast]
    simp only [Nat.mul_one, LdV_some, dec_int, hc]
    refine ⟨by omega, ?_⟩
    have hb := l[2 * i].toNat_lt
    have fin : CallV Try.prog [.one .bool] (.func (.yield n) #[] #[]) [Value.int .i64 ((2 * i : Nat) : Int), Value.int .i64 ((wordAt l (2 * i) : Nat) : Int)] W (fun r11 w12 =>
        ∃ r13 : Bool, r11 = (Value.bool r13) ∧ (bif (!r13) then (Q ((l.length + 1) / 2) w12 ∨ D w12) else next ((IntKind.i64.wrap (((2 * i : Nat) : Int) + 2)), ()) w12)) := by
      refine callV_yield (hy i (((2 * i : Nat) : Int), ((wordAt l (2 * i) : Nat) : Int), ()) W _ (wB_get l hlt) hq ?_ ?_)
      · intro W' hq'
        refine ⟨true, rfl, ?_⟩
        simp only [Bool.not_true, cond_false]
        rw [wrap_i64 (by omega) (by omega)]
        exact hnext _ _ ⟨i + 1, by omega, by simp only; omega, hq'⟩ (by simp only; omega)
      · intro W' hd
        refine ⟨false, rfl, ?_⟩
        simp only [Bool.not_false, cond_true]
        exact .inr hd
    rw [wrap_i64 (n := ((2 * i : Nat) : Int) + 1) (by omega) (by omega), wrap_i64 (n := (l[2 * i].toNat : Int)) (by omega) (by omega)]
    by_cases hlt2 : 2 * i + 1 < l.length
    · have hlt2' : (((2 * i : Nat) : Int) + 1 < (s.len : Int)) := by omega
      simp only [hlt2', decide_true, cond_true]
      obtain ⟨a', ha', hc'⟩ := hs.at_ (List.getElem?_eq_getElem hlt2)
      refine ⟨a', ha', by omega, by omega, ?_⟩
      rw [show (((2 * i : Nat) : Int) + 1).toNat = 2 * i + 1 by omega]
      simp only [Nat.mul_one, LdV_some, dec_int, hc']
      have hb' := l[2 * i + 1].toNat_lt
      rw [wrap_i64 (n := (l[2 * i + 1].toNat : Int)) (by omega) (by omega), or_shift (by omega) (by omega)]
      have e : wordAt l (2 * i) = l[2 * i].toNat * 256 + l[2 * i + 1].toNat := by
        unfold wordAt
        rw [List.getElem?_eq_getElem hlt, List.getElem?_eq_getElem hlt2]; rfl
      rw [e] at fin
      exact fin
    · have hlt2' : ¬ (((2 * i : Nat) : Int) + 1 < (s.len : Int)) := by omega
      simp only [hlt2', decide_false, cond_false]
      have e0 : shlI .i64 (l[2 * i].toNat : Int) 8 = ((l[2 * i].toNat * 256 : Nat) : Int) := by
        have := shl_i64 (a := l[2 * i].toNat) (k := 8) (by omega) (by omega)
        simpa using this
      rw [e0]
      have e : wordAt l (2 * i) = l[2 * i].toNat * 256 := by
        unfold wordAt
        rw [List.getElem?_eq_getElem hlt, List.getElem?_eq_none (by omega)]; simp
      rw [e] at fin
      exact fin
  · have hlt' : ¬ (((2 * i : Nat) : Int) < (s.len : Int)) := by omega
    simp only [hlt', decide_false, cond_false]
    have : i = (l.length + 1) / 2 := by omega
    subst this
    exact .inl hq

/-- A row of slices that read as these lists of bytes. -/
def Parts (w : World) (s : SliceV) (ps : List (SliceV × List UInt8)) : Prop :=
  s.len = ps.length ∧ (∀ i p, ps[i]? = some p → ∃ b o, s.a = some ⟨b, o, none⟩ ∧ w.cell? ⟨b, o + i, none⟩ = some (.slice p.1.a p.1.len p.1.cap) ∧ SlB w p.1 p.2)

theorem Parts.fr {w w' : World} {s : SliceV} {ps : List (SliceV × List UInt8)} (h : Parts w s ps) (hf : Ext w w') : Parts w' s ps :=
  ⟨h.1, fun i p hi => by obtain ⟨b, o, h1, h2, h3⟩ := h.2 i p hi; exact ⟨b, o, h1, cell_ext h2 hf, h3.ext hf⟩⟩

def totP (ps : List (SliceV × List UInt8)) : Nat := (ps.map fun p => tot p.2).foldr (· + ·) 0

theorem totP_take {ps : List (SliceV × List UInt8)} {i : Nat} {p : SliceV × List UInt8} (h : ps[i]? = some p) : totP (ps.take (i + 1)) = totP (ps.take i) + tot p.2 := by
  have hlt := (List.getElem?_eq_some_iff.1 h).1
  rw [List.take_succ_eq_append_getElem hlt]
  have : ps[i] = p := by rw [List.getElem?_eq_getElem hlt] at h; simpa using h
  rw [this]
  unfold totP
  generalize ps.take i = q
  induction q with
  | nil => simp
  | cons x q ih => simp only [List.map_append, List.cons_append, List.map_cons, List.foldr_cons, List.foldr_append] at ih ⊢; simp at ih ⊢; omega

theorem totP_le {ps : List (SliceV × List UInt8)} {n : Nat} (h : ∀ p ∈ ps, p.2.length ≤ n) : totP ps ≤ ps.length * (65535 * n) := by
  unfold totP
  induction ps with
  | nil => simp
  | cons p ps ih =>
    simp only [List.map_cons, List.foldr_cons, List.length_cons]
    have h1 := tot_le p.2
    have h2 := h p (List.mem_cons_self ..)
    have h3 := ih fun q hq => h q (List.mem_cons_of_mem _ hq)
    have h4 : 65535 * p.2.length ≤ 65535 * n := Nat.mul_le_mul_left _ h2
    rw [Nat.add_mul]; omega

theorem total_ok {w : World} {s : SliceV} {ps : List (SliceV × List UInt8)} (hs : Parts w s ps) (hn : ps.length ≤ 64) (hl : ∀ p ∈ ps, p.2.length ≤ 2 ^ 40) :
    c_sum_total s w fun r w' => r = (totP ps : Int) ∧ Ext w w' := by
  apply ok_sum_total
  unfold s_sum_total
  refine Al_e fun a w1 r1 e1 z1 f1 => ?_
  refine St_row r1 rfl (by simp) fun w2 r2 f2 z2 => ?_
  have hsl := hs.1
  have x2 : Ext w w2 := f1.new (f2 (· = a) rfl) fun b hb e => by omega
  have hlt0 : ∀ i, totP (ps.take i) ≤ 2 ^ 62 := fun i => by
    have h1 := totP_le (ps := ps.take i) (n := 2 ^ 40) fun p hp => hl p (List.mem_of_mem_take hp)
    have h2 : (ps.take i).length ≤ 64 := by simp; omega
    have h3 : (ps.take i).length * (65535 * 2 ^ 40) ≤ 64 * (65535 * 2 ^ 40) := Nat.mul_le_mul_right _ h2
    omega
  refine LoopP_inv (fun st W => ∃ i : Nat, i ≤ ps.length ∧ st.1.1 = i ∧ Row W a [.int .i64 (totP (ps.take i) : Int)] ∧ Ext w W ∧ (∀ d ∈ st.2, w2.heap.size ≤ d ∧ d < W.heap.size ∧ W.heap[d]? = some (.deferred (some []))) ∧ st.2.Nodup ∧ w2.heap.size ≤ W.heap.size)
    (fun st _ => ps.length - st.1.1.toNat) ⟨0, by omega, rfl, by simpa [totP] using r2, x2, by simp, by simp, Nat.le_refl _⟩ ?_
  rintro ⟨⟨x, ⟨⟩⟩, ds⟩ W ⟨i, hi, rfl, h1, h2, h3, h4, h5⟩ next hnext
  by_cases hlt : i < ps.length
  · have hlt' : ((i : Int) < (s.len : Int)) := by omega
    simp only [hlt', decide_true, cond_true]
    obtain ⟨b, o, ha, hc, hb⟩ := (hs.fr h2).2 i _ (List.getElem?_eq_getElem hlt)
    refine ⟨_, ha, by omega, by omega, ?_⟩
    simp only [Int.toNat_natCast, Nat.mul_one, Ld_eq, LdV_some, dec_slice, add_mk, hc]
    generalize hp : ps[i] = p at hc hb
    have hpm : ps[i]? = some p := by rw [List.getElem?_eq_getElem hlt, hp]
    have hpl := hl p (List.mem_of_getElem? hpm)
    apply ok_be_Words
    unfold s_be_Words
    refine ⟨rfl, Al_e fun c w3 r3 e3 z3 f3 => ?_⟩
    have htl : ∀ j, tot (p.2.take j) ≤ 2 ^ 60 := fun j => by
      have := tot_le (p.2.take j)
      have e : (p.2.take j).length ≤ 2 ^ 40 := by simp; omega
      have : 65535 * (p.2.take j).length ≤ 65535 * 2 ^ 40 := Nat.mul_le_mul_left _ e
      omega
    have haw : a < w2.heap.size := by omega
    have hla : lAt none w3 = w3.heap.size + 1 := rfl
    have hsz := h2.size
    have hbw : ∀ a', p.1.a = some a' → 0 < p.2.length → a'.block < w.heap.size := fun a' h h' => by
      obtain ⟨b', o', _, _, hb'⟩ := hs.2 i p hpm
      exact hb'.lt h h'
    refine rng_iter (words_iter (s := p.1) (l := p.2) (by omega)) (fun j W' => Row W' a [.int .i64 ((totP (ps.take i) + tot (p.2.take (2 * j)) : Nat) : Int)] ∧ Fr8 w3 W' (· = a) ∧ w3.heap.size + 2 ≤ W'.heap.size)
      (fun _ _ => False) (by simp) ?_ ?_ ?_ (by intro e W W' h; exact h.elim) (by intro e W h; exact h.elim) ?_ ?_ (by intro W h; exact h.elim) (by intro id W h; exact h.elim)
    · intro w4 f4 z4
      exact ⟨by simpa [tot] using (h1.ext f3).ext f4, f4 _, by omega⟩
    · exact fun j W' h => ⟨r3.fr h.2.1 (by omega), (hb.ext f3).fr h.2.1 fun a' ha' hl' e => by have := hbw a' ha' hl'; omega⟩
    · rintro j W' W'' ⟨g1, g5, g6⟩ hf
      exact ⟨g1.fr hf (by omega), g5.trans hf fun b hb e => by omega, by have := hf.size; omega⟩
    · intro j x W' Kb hx ⟨g1, g5, g6⟩ hlt3 hnorm _
      refine ⟨by trivial, ?_⟩
      have hj : 2 * j < p.2.length := by
        have := (List.getElem?_eq_some_iff.1 hx).1
        rw [wB_len] at this; omega
      rw [wB_get _ hj] at hx
      simp only [Option.some.injEq] at hx
      subst hx
      have fb := Fr8.busyW W' (lAt none w3)
      have g1' := g1.fr fb (by omega)
      simp only [List.getElem?_cons_zero, LdV_some, dec_int, g1'.cell]
      refine St_row g1' rfl (by simp) fun w5 r5 f5 z5 => ?_
      refine hnorm w5 (· = a) (f5 _ rfl) (fun b hb1 hb2 e => by omega) ⟨?_, (g5.trans fb fun b hb e => by omega).trans (f5 (· = a) rfl) fun b hb e => e, by simp [busyW] at z5; omega⟩
      simp only [List.set_cons_zero] at r5
      have := hlt0 i
      have := htl (2 * j)
      have := wordAt_lt p.2 (2 * j)
      rw [wrap_i64 (by omega) (by omega)] at r5
      rw [tot_take _ hj]
      have e : ((totP (ps.take i) + tot (p.2.take (2 * j)) : Nat) : Int) + ((wordAt p.2 (2 * j) : Nat) : Int) = ((totP (ps.take i) + (tot (p.2.take (2 * j)) + wordAt p.2 (2 * j)) : Nat) : Int) := by omega
      rw [e] at r5
      exact r5
    · rintro W' ⟨g1, g5, g6⟩ hm
      have hmk := hm rfl
      rw [wB_len, List.take_of_length_le (l := p.2) (by omega)] at g1
      rw [wrap_i64 (by omega) (by omega)]
      have hx : Ext w W' := (h2.trans f3).new g5 fun b hb e => by omega
      refine hnext _ _ ⟨i + 1, by omega, by simp, by rw [totP_take hpm]; exact g1, hx, ?_, ?_, by omega⟩ (by simp only; omega)
      · intro d hd
        rcases List.mem_cons.1 hd with rfl | hd
        · exact ⟨by omega, by omega, hmk⟩
        · obtain ⟨q1, q2, q3⟩ := h3 d hd
          refine ⟨q1, by omega, ?_⟩
          rw [g5.same d (by omega) (by omega), (f3 fun _ => False).same d (by omega) (by simp)]
          exact q3
      · refine List.nodup_cons.2 ⟨fun hd => ?_, h4⟩
        have := (h3 _ hd).2.1
        omega
  · have hlt' : ¬ ((i : Int) < (s.len : Int)) := by omega
    simp only [hlt', decide_false, cond_false]
    have : i = ps.length := by omega
    subst this
    rw [List.take_length] at h1
    simp only [Ld_eq, List.getElem?_cons_zero, LdV_some, dec_int, h1.cell]
    refine closeP_ok (n := w2.heap.size) ds W (fun d hd => ⟨(h3 d hd).1, (h3 d hd).2.2⟩) h4 fun w6 f6 z6 => ⟨by trivial, h2.new f6 fun b hb e => by omega⟩



theorem fold_ok {m : Nat} (hm : m < 2 ^ 62) (w : World) : c_sum_Fold (m : Int) w fun r w' => r = (fold m : Int) ∧ w' = w := by
  apply ok_sum_Fold
  unfold s_sum_Fold
  have h0 : ¬ ((0 : Int) > (m : Int)) := by omega
  simp only [h0, if_false]
  refine LoopP_inv (fun st W => W = w ∧ ∃ x : Nat, x < 2 ^ 62 ∧ st.1 = (x : Int) ∧ fold x = fold m) (fun st _ => st.1.toNat) ⟨rfl, m, hm, rfl, rfl⟩ ?_
  rintro ⟨x, ⟨⟩⟩ W ⟨rfl, n, hn, rfl, hf⟩ next hnext
  by_cases hlt : 65535 < n
  · have hlt' : ((n : Int) > 65535) := by omega
    simp only [hlt', decide_true, cond_true]
    refine ⟨by omega, ?_⟩
    have e1 : andI .i64 (n : Int) 65535 = ((n % 65536 : Nat) : Int) := by
      have := and_i64 (a := n) (b := 65535) (by omega) (by omega)
      rw [show (65535 : Nat) = 2 ^ 16 - 1 by decide, and_low] at this
      exact this
    have e2 : shrI .i64 (n : Int) 16 = ((n / 65536 : Nat) : Int) := shr_i64 (a := n) (k := 16) (by omega)
    rw [e1, e2, wrap_i64 (by omega) (by omega)]
    exact hnext _ _ ⟨rfl, n % 65536 + n / 65536, by omega, by simp only; omega, by rw [fold_step hlt, hf]⟩ (by simp only; omega)
  · have hlt' : ¬ ((n : Int) > 65535) := by omega
    simp only [hlt', decide_false, cond_false]
    exact ⟨by rw [← hf, fold_small (by omega)], by trivial⟩

theorem rfold_ok {m : Nat} (hm : m < 2 ^ 62) (w : World) : c_ref02_Fold (m : Int) w fun r w' => r = (fold m : Int) ∧ w' = w := by
  apply ok_ref02_Fold
  unfold s_ref02_Fold
  have h0 : ¬ ((m : Int) < 0) := by omega
  simp only [h0, decide_false, cond_false]
  refine LoopP_inv (fun st W => W = w ∧ ∃ x : Nat, x < 2 ^ 62 ∧ st.1 = (x : Int) ∧ fold x = fold m) (fun st _ => st.1.toNat) ⟨rfl, m, hm, rfl, rfl⟩ ?_
  rintro ⟨x, ⟨⟩⟩ W ⟨rfl, n, hn, rfl, hf⟩ next hnext
  by_cases hlt : 65535 < n
  · have hlt' : ((n : Int) > 65535) := by omega
    simp only [hlt', decide_true, cond_true]
    refine ⟨by omega, by omega, ?_⟩
    rw [Int.tmod_eq_emod_of_nonneg (by omega), Int.tdiv_eq_ediv_of_nonneg (by omega), wrap_i64 (n := (n : Int) / 65536) (by omega) (by omega), wrap_i64 (by omega) (by omega)]
    exact hnext _ _ ⟨rfl, n % 65536 + n / 65536, by omega, by simp only; omega, by rw [fold_step hlt, hf]⟩ (by simp only; omega)
  · have hlt' : ¬ ((n : Int) > 65535) := by omega
    simp only [hlt', decide_false, cond_false]
    exact ⟨by rw [← hf, fold_small (by omega)], by trivial⟩

theorem totP_lt {ps : List (SliceV × List UInt8)} (hn : ps.length ≤ 64) (hl : ∀ p ∈ ps, p.2.length ≤ 2 ^ 40) (i : Nat) : totP (ps.take i) < 2 ^ 62 := by
  have h1 := totP_le (ps := ps.take i) (n := 2 ^ 40) fun p hp => hl p (List.mem_of_mem_take hp)
  have h2 : (ps.take i).length ≤ 64 := by simp; omega
  have h3 : (ps.take i).length * (65535 * 2 ^ 40) ≤ 64 * (65535 * 2 ^ 40) := Nat.mul_le_mul_right _ h2
  omega

theorem totP_lt' {ps : List (SliceV × List UInt8)} (hn : ps.length ≤ 64) (hl : ∀ p ∈ ps, p.2.length ≤ 2 ^ 40) : totP ps < 2 ^ 62 := by
  have := totP_lt hn hl ps.length
  rwa [List.take_length] at this

theorem add_ok {w : World} {s : SliceV} {ps : List (SliceV × List UInt8)} (hs : Parts w s ps) (hn : ps.length ≤ 64) (hl : ∀ p ∈ ps, p.2.length ≤ 2 ^ 40) :
    c_sum_Add s w fun r w' => r = (fold (totP ps) : Int) ∧ Ext w w' := by
  apply ok_sum_Add
  unfold s_sum_Add
  refine cm_sum_total (total_ok hs hn hl) ?_
  rintro _ w1 ⟨rfl, f1⟩
  refine cm_sum_Fold (fold_ok (totP_lt' hn hl) w1) ?_
  rintro _ _ ⟨rfl, rfl⟩
  exact ⟨by trivial, f1⟩

theorem of_ok {w : World} {s : SliceV} {ps : List (SliceV × List UInt8)} (hs : Parts w s ps) (hn : ps.length ≤ 64) (hl : ∀ p ∈ ps, p.2.length ≤ 2 ^ 40) :
    c_sum_Of s w fun r w' => r = ((65535 - fold (totP ps) : Nat) : Int) ∧ Ext w w' := by
  apply ok_sum_Of
  unfold s_sum_Of
  refine cm_sum_Add (add_ok hs hn hl) ?_
  rintro _ w1 ⟨rfl, f1⟩
  have := fold_lt (totP ps)
  exact ⟨by rw [wrap_i64 (by omega) (by omega)]; omega, f1⟩

theorem parts_one {w : World} {b : Nat} {s : SliceV} {l : List UInt8} (h : Row w b [.slice s.a s.len s.cap]) (hs : SlB w s l) : Parts w ⟨some ⟨b, 0, none⟩, 1, 1⟩ [(s, l)] := by
  refine ⟨rfl, fun i p hi => ?_⟩
  cases i with
  | zero =>
    simp at hi
    subst hi
    exact ⟨b, 0, rfl, by rw [h.cell]; rfl, hs⟩
  | succ i => simp at hi

theorem totP_one (s : SliceV) (l : List UInt8) : totP [(s, l)] = tot l := by simp [totP]

theorem word_ok {w : World} {s : SliceV} {l : List UInt8} (h : SlB w s l) (hl : l.length ≤ 2 ^ 46) {j : Nat} (hj : j < l.length) : c_ref01_Word s (j : Int) w fun r w' => r = (wordAt l j : Int) ∧ Ext w w' := by
  apply ok_ref01_Word
  unfold s_ref01_Word
  have hsl := h.1
  rw [wrap_i64 (n := (j : Int) + 1) (by omega) (by omega)]
  obtain ⟨a, ha, hc⟩ := h.at_ (List.getElem?_eq_getElem hj)
  have hb := l[j].toNat_lt
  by_cases h2 : j + 1 < l.length
  · have h2' : ((j : Int) + 1 < (s.len : Int)) := by omega
    simp only [h2', decide_true, cond_true]
    obtain ⟨a', ha', hc'⟩ := h.at_ (List.getElem?_eq_getElem h2)
    have hb' := l[j + 1].toNat_lt
    refine ⟨a, ha, by omega, by omega, ?_⟩
    rw [Int.toNat_natCast]
    simp only [Nat.mul_one, Ld_eq]
    rw [show w.drew.cell? (a.add j) = w.cell? (a.add j) from rfl, hc]
    simp only [LdV_some, dec_int]
    refine ⟨a', ha', by omega, by omega, ?_⟩
    rw [show ((j : Int) + 1).toNat = j + 1 by omega]
    simp only [Nat.mul_one]
    rw [show w.drew.cell? (a'.add (j + 1)) = w.cell? (a'.add (j + 1)) from rfl, hc']
    simp only [LdV_some, dec_int]
    refine ⟨?_, Ext.drew w⟩
    unfold wordAt
    rw [List.getElem?_eq_getElem hj, List.getElem?_eq_getElem h2]
    simp only [Option.getD_some]
    rw [wrap_i64 (n := (l[j].toNat : Int)) (by omega) (by omega), wrap_i64 (n := (l[j + 1].toNat : Int)) (by omega) (by omega), wrap_i64 (n := (l[j].toNat : Int) * 256) (by omega) (by omega), wrap_i64 (by omega) (by omega)]
    omega
  · have h2' : ¬ ((j : Int) + 1 < (s.len : Int)) := by omega
    simp only [h2', decide_false, cond_false]
    refine ⟨a, ha, by omega, by omega, ?_⟩
    rw [Int.toNat_natCast]
    simp only [Nat.mul_one, Ld_eq, LdV_some, dec_int, hc]
    refine ⟨?_, Ext.refl w⟩
    unfold wordAt
    rw [List.getElem?_eq_getElem hj, List.getElem?_eq_none (by omega)]
    rw [wrap_i64 (n := (l[j].toNat : Int)) (by omega) (by omega), wrap_i64 (by omega) (by omega)]
    simp

theorem radd_ok {w : World} {s : SliceV} {ps : List (SliceV × List UInt8)} (hs : Parts w s ps) (hn : ps.length ≤ 64) (hl : ∀ p ∈ ps, p.2.length ≤ 2 ^ 40) :
    c_ref02_Add s w fun r w' => r = (fold (totP ps) : Int) ∧ Ext w w' := by
  apply ok_ref02_Add
  unfold s_ref02_Add
  have hsl := hs.1
  refine LoopP_inv (fun st W => ∃ i : Nat, i ≤ ps.length ∧ st.2.1 = i ∧ st.1 = (totP (ps.take i) : Int) ∧ Ext w W) (fun st _ => ps.length - st.2.1.toNat) ⟨0, by omega, rfl, by simp [totP], Ext.refl _⟩ ?_
  rintro ⟨n, x, ⟨⟩⟩ W ⟨i, hi, rfl, rfl, hx⟩ next hnext
  by_cases hlt : i < ps.length
  · have hlt' : ((i : Int) < (s.len : Int)) := by omega
    simp only [hlt', decide_true, cond_true]
    generalize hp : ps[i] = p
    have hpm : ps[i]? = some p := by rw [List.getElem?_eq_getElem hlt, hp]
    have hpl := hl p (List.mem_of_getElem? hpm)
    have h0 := totP_lt hn hl i
    have h0' := totP_lt hn hl (i + 1)
    have hsx := hs.fr hx
    refine LoopP_inv (fun st W' => ∃ j : Nat, j ≤ (p.2.length + 1) / 2 ∧ st.2.1 = ((2 * j : Nat) : Int) ∧ st.1 = ((totP (ps.take i) + tot (p.2.take (2 * j)) : Nat) : Int) ∧ Ext w W') (fun st _ => p.2.length + 1 - st.2.1.toNat) ⟨0, by omega, rfl, by simp [tot], hx⟩ ?_
    rintro ⟨n, x, ⟨⟩⟩ W' ⟨j, hj, rfl, rfl, hx'⟩ next' hnext'
    obtain ⟨b, o, ha, hc, hb⟩ := (hs.fr hx').2 i p hpm
    refine ⟨_, ha, by omega, by omega, ?_⟩
    have hpl2 := hb.1
    simp only [Int.toNat_natCast, Nat.mul_one, Ld_eq, LdV_some, dec_slice, add_mk, hc]
    by_cases hlt2 : 2 * j < p.2.length
    · have hlt2' : (((2 * j : Nat) : Int) < (p.1.len : Int)) := by omega
      simp only [hlt2', decide_true, cond_true]
      refine ⟨_, ha, by omega, by omega, ?_⟩
      simp only [Int.toNat_natCast, Nat.mul_one, LdV_some, dec_slice, add_mk, hc]
      refine cm_ref01_Word (word_ok hb (by omega) hlt2) ?_
      rintro _ w2 ⟨rfl, f2⟩
      have := wordAt_lt p.2 (2 * j)
      have h3 := tot_le (p.2.take (2 * j))
      have h4 : 65535 * (p.2.take (2 * j)).length ≤ 65535 * 2 ^ 40 := Nat.mul_le_mul_left _ (by simp; omega)
      rw [wrap_i64 (n := _ + _) (by omega) (by omega), wrap_i64 (by omega) (by omega)]
      refine hnext' _ _ ⟨j + 1, by omega, by simp only; omega, ?_, hx'.trans f2⟩ (by simp only; omega)
      rw [tot_take _ hlt2]
      simp only; omega
    · have hlt2' : ¬ (((2 * j : Nat) : Int) < (p.1.len : Int)) := by omega
      simp only [hlt2', decide_false, cond_false]
      rw [wrap_i64 (by omega) (by omega), List.take_of_length_le (l := p.2) (by omega)]
      exact hnext _ _ ⟨i + 1, by omega, by simp, by rw [totP_take hpm], hx'⟩ (by simp only; omega)
  · have hlt' : ¬ ((i : Int) < (s.len : Int)) := by omega
    simp only [hlt', decide_false, cond_false]
    have : i = ps.length := by omega
    subst this
    rw [List.take_length]
    refine cm_ref02_Fold (rfold_ok (totP_lt' hn hl) W) ?_
    rintro _ _ ⟨rfl, rfl⟩
    exact ⟨by trivial, hx⟩

theorem rof_ok {w : World} {s : SliceV} {ps : List (SliceV × List UInt8)} (hs : Parts w s ps) (hn : ps.length ≤ 64) (hl : ∀ p ∈ ps, p.2.length ≤ 2 ^ 40) :
    c_ref02_Of s w fun r w' => r = ((65535 - fold (totP ps) : Nat) : Int) ∧ Ext w w' := by
  apply ok_ref02_Of
  unfold s_ref02_Of
  refine cm_ref02_Add (radd_ok hs hn hl) ?_
  rintro _ w1 ⟨rfl, f1⟩
  have := fold_lt (totP ps)
  exact ⟨by rw [wrap_i64 (by omega) (by omega)]; omega, f1⟩

theorem rright_ok {w : World} {s : SliceV} {ps : List (SliceV × List UInt8)} (hs : Parts w s ps) (hn : ps.length ≤ 64) (hl : ∀ p ∈ ps, p.2.length ≤ 2 ^ 40) :
    c_ref02_Right s w fun r w' => r = decide (fold (totP ps) = 65535) ∧ Ext w w' := by
  apply ok_ref02_Right
  unfold s_ref02_Right
  refine cm_ref02_Add (radd_ok hs hn hl) ?_
  rintro _ w1 ⟨rfl, f1⟩
  refine ⟨?_, f1⟩
  by_cases h : fold (totP ps) = 65535
  · simp [h]
  · simp [h]; omega

/-! ### Addresses -/

theorem four_right (n : Int) (w : World) : c_four_Right n w fun r w' => r = decide (rightP n) ∧ w' = w := by
  apply ok_four_Right
  unfold s_four_Right
  by_cases h1 : n ≥ 0
  · have h1' : 0 ≤ n := h1
    simp [h1', rightP]
  · have h1' : ¬ 0 ≤ n := h1
    simp [h1', rightP]

theorem ref03_right (n : Int) (w : World) : c_ref03_Right n w fun r w' => r = decide (rightP n) ∧ w' = w := by
  apply ok_ref03_Right
  unfold s_ref03_Right
  by_cases h1 : n ≥ 0
  · have h1' : 0 ≤ n := h1
    simp [h1', rightP]
  · have h1' : ¬ 0 ≤ n := h1
    simp [h1', rightP]

/-! ### The document's numbers in bytes -/

theorem pow_ok (k : Nat) (hk : k ≤ 7) (w : World) : c_ref01_pow (k : Int) w fun r w' => r = ((256 ^ k : Nat) : Int) ∧ w' = w := by
  apply ok_ref01_pow
  unfold s_ref01_pow
  refine LoopP_inv (fun st W => W = w ∧ ∃ i : Nat, i ≤ k ∧ st.2.1 = i ∧ st.1 = ((256 ^ i : Nat) : Int)) (fun st _ => k - st.2.1.toNat) ⟨rfl, 0, by omega, rfl, rfl⟩ ?_
  rintro ⟨n, j, ⟨⟩⟩ W ⟨rfl, i, hi, rfl, rfl⟩ next hnext
  by_cases hlt : i < k
  · have hlt' : ((i : Int) < (k : Int)) := by omega
    simp only [hlt', decide_true, cond_true]
    have hp : (256 : Nat) ^ (i + 1) ≤ 256 ^ 7 := Nat.pow_le_pow_right (by omega) (by omega)
    have e : (256 : Nat) ^ 7 = 72057594037927936 := by decide
    have e2 : ((256 ^ i : Nat) : Int) * 256 = ((256 ^ (i + 1) : Nat) : Int) := by rw [Nat.pow_succ, Int.natCast_mul]; rfl
    rw [e2]
    have hnx := hnext (((256 ^ (i + 1) : Nat) : Int), ((i + 1 : Nat) : Int), ()) W ⟨rfl, i + 1, by omega, rfl, rfl⟩ (by simp only; omega)
    generalize 256 ^ (i + 1) = q at hp hnx ⊢
    rw [wrap_i64 (by omega) (by omega), wrap_i64 (by omega) (by omega)]
    exact hnx
  · have hlt' : ¬ ((i : Int) < (k : Int)) := by omega
    simp only [hlt', decide_false, cond_false]
    have : i = k := by omega
    subst this
    exact ⟨by trivial, by trivial⟩

theorem rfits_ok (n k : Int) (w : World) : c_ref01_Fits n k w fun r w' => r = decide (fitsP n k) ∧ w' = w := by
  apply ok_ref01_Fits
  unfold s_ref01_Fits
  by_cases h1 : k ≥ 1
  · by_cases h2 : k ≤ 4
    · by_cases h3 : n ≥ 0
      · simp only [h1, h2, h3, decide_true, cond_true]
        obtain ⟨m, rfl⟩ : ∃ m : Nat, k = (m : Int) := ⟨k.toNat, by omega⟩
        refine cm_ref01_pow (pow_ok m (by omega) w) ?_
        rintro r w' ⟨rfl, rfl⟩
        have hs : sizeOk (m : Int) := ⟨h1, h2⟩
        refine ⟨?_, by trivial⟩
        have h3' : 0 ≤ n := h3
        simp [fitsP, hs, h3']
      · have : ¬ fitsP n k := fun h => h3 h.2.1
        simp [h1, h2, h3, this]
    · have : ¬ fitsP n k := fun h => h2 h.1.2
      simp [h1, h2, this]
  · have : ¬ fitsP n k := fun h => h1 h.1.1
    simp [h1, this]

theorem rget_ok {w : World} {s : SliceV} {l : List UInt8} (h : SlB w s l) (hl : l.length ≤ 2 ^ 62) (at_ k : Int) : c_ref01_Get s at_ k w fun n e w' => w' = w ∧ getR l at_ k n e := by
  apply ok_ref01_Get
  unfold s_ref01_Get getR
  have hlen := h.1
  by_cases h1 : k < 1
  · have c : ¬ sizeOk k ∨ at_ < 0 := .inl fun x => by have := x.1; omega
    simp only [h1, decide_true, cond_true]
    exact ⟨by trivial, by rw [if_pos c]; exact ⟨by trivial, by trivial⟩⟩
  by_cases h2 : k > 4
  · have c : ¬ sizeOk k ∨ at_ < 0 := .inl fun x => by have := x.2; omega
    simp only [h1, h2, decide_true, decide_false, cond_true, cond_false]
    exact ⟨by trivial, by rw [if_pos c]; exact ⟨by trivial, by trivial⟩⟩
  by_cases h3 : at_ < 0
  · have c : ¬ sizeOk k ∨ at_ < 0 := .inr h3
    simp only [h1, h2, decide_false, cond_true, cond_false]
    rw [show decide (at_ < 0) = true by simp [h3]]
    simp only [cond_true]
    exact ⟨by trivial, by rw [if_pos c]; exact ⟨by trivial, by trivial⟩⟩
  have hk : sizeOk k := ⟨by omega, by omega⟩
  have c : ¬ (¬ sizeOk k ∨ at_ < 0) := by rintro (h | h) <;> contradiction
  simp only [if_neg c]
  rw [show decide (k < 1) = false by simp [h1], show decide (k > 4) = false by simp [h2], show decide (at_ < 0) = false by simp [h3]]
  simp only [cond_false]
  rw [wrap_i64 (n := (s.len : Int) - k) (by omega) (by omega)]
  by_cases h4 : at_ > (s.len : Int) - k
  · rw [show decide (at_ > (s.len : Int) - k) = true by simp [h4]]
    simp only [cond_true]
    exact ⟨by trivial, by rw [if_pos (by omega)]; exact ⟨by trivial, by trivial⟩⟩
  rw [show decide (at_ > (s.len : Int) - k) = false by simp [h4]]
  simp only [cond_false]
  obtain ⟨m, rfl⟩ : ∃ m : Nat, k = (m : Int) := ⟨k.toNat, by omega⟩
  obtain ⟨o, rfl⟩ : ∃ o : Nat, at_ = (o : Int) := ⟨at_.toNat, by omega⟩
  simp only [Int.toNat_natCast]
  refine LoopP_inv (fun st W => W = w ∧ ∃ i : Nat, i ≤ m ∧ st.2.1 = i ∧ st.1 = (numBE ((l.drop o).take i) : Int)) (fun st _ => m - st.2.1.toNat) ⟨rfl, 0, by omega, rfl, rfl⟩ ?_
  rintro ⟨n, j, ⟨⟩⟩ W ⟨rfl, i, hi, rfl, rfl⟩ next hnext
  by_cases hlt : i < m
  · have hlt' : ((i : Int) < (m : Int)) := by omega
    simp only [hlt', decide_true, cond_true]
    rw [wrap_i64 (n := (o : Int) + (i : Int)) (by omega) (by omega)]
    have hol : o + i < l.length := by omega
    obtain ⟨a, ha, hc⟩ := h.at_ (List.getElem?_eq_getElem hol)
    refine ⟨a, ha, by omega, by omega, ?_⟩
    have eo : ((o : Int) + (i : Int)).toNat * 1 = o + i := by omega
    rw [eo]
    simp only [Ld_eq, LdV_some, dec_int, hc]
    have hb := l[o + i].toNat_lt
    have hdl : i < (l.drop o).length := by simp; omega
    have hn2 : numBE ((l.drop o).take i) < 2 ^ 32 := numBE_lt40 (by simp; omega)
    rw [wrap_i64 (n := (numBE ((l.drop o).take i) : Int) * 256) (by omega) (by omega), wrap_i64 (n := ((l[o + i].toNat : Nat) : Int)) (by omega) (by omega), wrap_i64 (by omega) (by omega), wrap_i64 (by omega) (by omega)]
    refine hnext _ _ ⟨rfl, i + 1, by omega, by simp, ?_⟩ (by simp only; omega)
    have e := numBE_snoc (l.drop o) hdl
    rw [List.getElem_drop] at e
    simp only [e]
    omega
  · have hlt' : ¬ ((i : Int) < (m : Int)) := by omega
    simp only [hlt', decide_false, cond_false]
    have : i = m := by omega
    subst this
    exact ⟨by trivial, by rw [if_neg (by omega)]; exact ⟨by trivial, by trivial⟩⟩

theorem beN_snoc {k n i : Nat} (h : i < k) : (beN k n).take (i + 1) = (beN k n).take i ++ [UInt8.ofNat (n / 256 ^ (k - 1 - i))] := by
  have hl : i < (beN k n).length := by rw [beN_len]; exact h
  rw [List.take_succ_eq_append_getElem hl]
  have := beN_get k n i h
  rw [List.getElem?_eq_getElem hl] at this
  simp at this
  rw [this]

theorem rput_ok {w : World} {s : SliceV} {l : List UInt8} (hs : SlB w s l) (hl : l.length + 4 ≤ 2 ^ 46) (n k : Int) (hn : n < 2 ^ 62) :
    c_ref01_Put s n k w fun r w' => Buf w' r (bytesV (putL l n k)) ∧ Ext w w' ∧ (∀ b, SliceV.at r b → w.heap.size ≤ b) := by
  apply ok_ref01_Put
  unfold s_ref01_Put
  refine AppSl_bytes (l := []) Buf.nil hs (by simp; omega) fun r w1 b1 f1 n1 _ => ?_
  have x1 : Ext w w1 := f1.new fun b _ ⟨o, h⟩ => by cases h
  have y1 : ∀ b, SliceV.at r b → w.heap.size ≤ b := fun b hb => by
    rcases n1 b hb with ⟨o, h⟩ | h
    · cases h
    · exact h
  rw [List.nil_append] at b1
  refine cm_ref01_Fits (rfits_ok n k w1) ?_
  rintro _ _ ⟨rfl, rfl⟩
  by_cases hf : fitsP n k
  · simp only [hf, decide_true, Bool.not_true, cond_false]
    obtain ⟨hk1, hk2⟩ := hf.1
    have hn0 := hf.2.1
    obtain ⟨m, rfl⟩ : ∃ m : Nat, k = (m : Int) := ⟨k.toNat, by omega⟩
    obtain ⟨z, rfl⟩ : ∃ z : Nat, n = (z : Int) := ⟨n.toNat, by omega⟩
    refine LoopP_inv (fun st W => ∃ i : Nat, i ≤ m ∧ st.2.1 = (m : Int) - 1 - i ∧ Buf W st.1 (bytesV (l ++ (beN m z).take i)) ∧ Ext w W ∧ (∀ b, SliceV.at st.1 b → w.heap.size ≤ b)) (fun st _ => (st.2.1 + 1).toNat)
      ⟨0, by omega, by rw [wrap_i64 (by omega) (by omega)]; simp, by simpa using b1, x1, y1⟩ ?_
    rintro ⟨t, x, ⟨⟩⟩ W ⟨i, hi, hx, h1, h2, h3⟩ next hnext
    simp only at hx h1 h3
    by_cases hlt : i < m
    · have hx0 : x ≥ 0 := by omega
      simp only [hx0, decide_true, cond_true]
      obtain ⟨j, rfl⟩ : ∃ j : Nat, x = (j : Int) := ⟨x.toNat, by omega⟩
      have hj : j = m - 1 - i := by omega
      refine cm_ref01_pow (pow_ok j (by omega) W) ?_
      rintro _ _ ⟨rfl, rfl⟩
      have hp : 0 < 256 ^ j := Nat.pow_pos (by omega)
      refine ⟨by omega, by omega, Al_e fun c w3 r3 e3 z3 f3 => ?_⟩
      have e : IntKind.u8.wrap (Int.tmod (IntKind.i64.wrap (Int.tdiv (z : Int) ((256 ^ j : Nat) : Int))) 256) = (((UInt8.ofNat (z / 256 ^ j)).toNat : Nat) : Int) := by
        rw [Int.tdiv_eq_ediv_of_nonneg (by omega), ← Int.natCast_ediv]
        have : z / 256 ^ j ≤ z := Nat.div_le_self _ _
        generalize z / 256 ^ j = q at this ⊢
        rw [wrap_i64 (by omega) (by omega), Int.tmod_eq_emod_of_nonneg (by omega), IntKind.wrap_u8]
        simp
      rw [e] at r3
      have hx3 : SlB w3 ⟨some ⟨c, 0, none⟩, 1, 1⟩ [UInt8.ofNat (z / 256 ^ j)] := .of_buf (SlB.row (l := [UInt8.ofNat (z / 256 ^ j)]) (by simpa [bytesV] using r3))
      refine AppSl_bytes (h1.ext f3) hx3 (by simp; omega) fun s' w4 b4 f4 p4 _ => ?_
      rw [wrap_i64 (by omega) (by omega)]
      refine hnext _ _ ⟨i + 1, by omega, by simp only; omega, ?_, (h2.trans f3).new f4 fun b hb h => by have := h3 b h; omega, fun b hb => ?_⟩ (by simp only; omega)
      · rw [beN_snoc hlt, ← hj, ← List.append_assoc]
        exact b4
      · have := h2.size
        have := f3.size
        rcases p4 b hb with h | h
        · exact h3 b h
        · omega
    · have hx0 : ¬ x ≥ 0 := by omega
      simp only [hx0, decide_false, cond_false]
      have : i = m := by omega
      subst this
      rw [List.take_of_length_le (by rw [beN_len]; omega)] at h1
      exact ⟨by simpa [putL, hf] using h1, h2, h3⟩
  · simp only [hf, decide_false, Bool.not_false, cond_true]
    exact ⟨by simpa [putL, hf] using b1, x1, y1⟩

/-! ### Bools -/

theorem all_ok {w : World} {b : Nat} {l : List Bool} {vs : List Value} (h : Row w b vs) (hv : vs = l.map Value.bool) (n : Nat) (hn : n = l.length) (hl : l.length ≤ 100) : c_v4_all ⟨some ⟨b, 0, none⟩, n, n⟩ w fun r w' => r = l.all id ∧ w' = w := by
  subst hv
  apply ok_v4_all
  unfold s_v4_all
  apply ok_slices_Contains_bool_bool
  unfold s_slices_Contains_bool_bool
  apply ok_slices_Index_bool_bool
  unfold s_slices_Index_bool_bool
  subst hn
  refine LoopP_inv (fun st W => W = w ∧ ∃ i : Nat, i ≤ l.length ∧ st.1 = (i : Int) ∧ (l.take i).all id = true) (fun st _ => l.length - st.1.toNat) ⟨rfl, 0, by omega, rfl, rfl⟩ ?_
  rintro ⟨x, ⟨⟩⟩ W ⟨rfl, i, hi, rfl, hp⟩ next hnext
  by_cases hlt : i < l.length
  · have hlt' : ((i : Int) < (l.length : Int)) := by omega
    simp only [hlt', decide_true, cond_true]
    simp only [Ld_eq, LdV_some, dec_bool, AtIx_some, add_mk, Nat.zero_add, h.cell, Int.toNat_natCast, Nat.mul_one, List.getElem?_map, List.getElem?_eq_getElem hlt, Option.map_some]
    refine ⟨by omega, by trivial, ?_⟩
    cases hb : l[i] with
    | true =>
      simp only [show (false == true) = false from rfl, cond_false]
      rw [wrap_i64 (by omega) (by omega)]
      refine hnext _ _ ⟨rfl, i + 1, by omega, by simp, ?_⟩ (by simp only; omega)
      rw [List.take_succ_eq_append_getElem hlt, List.all_append, hp, hb]; rfl
    | false =>
      simp only [show (false == false) = true from rfl, cond_true]
      refine ⟨?_, by trivial⟩
      have : l.all id = false := by
        apply Bool.eq_false_iff.2
        intro h
        have := List.all_eq_true.1 h false (hb ▸ List.getElem_mem hlt)
        cases this
      rw [this]
      simp
  · have hlt' : ¬ ((i : Int) < (l.length : Int)) := by omega
    simp only [hlt', decide_false, cond_false]
    have : i = l.length := by omega
    subst this
    rw [List.take_length] at hp
    exact ⟨by rw [hp]; rfl, by trivial⟩

end Go.Proofs
