import Derived.Test.YtgnlnicmgnkliaaG24
import Derived.Test.YtgnlnicmgnkliaaBytes
import Derived.Test.YtgnlnicmgnkliaaV4Pure
/- Numbers put behind bytes. -/
namespace Go.Proofs
open Gp Gp.V4
set_option maxRecDepth 100000

theorem clone_aux {e : TypeId} {w : World} {x : SliceV} {m : List UInt8} (hx : SlB w x m) (hl : m.length ≤ 2 ^ 46) {K : SliceV → World → Prop}
    (hK : ∀ r w', Buf w' r (bytesV m) → (r.a = none ↔ x.a = none) → Ext w w' → (∀ b, SliceV.at r b → w.heap.size ≤ b) → K r w') :
    (bif (Option.isNone x.a) then K ⟨none, 0, 0⟩ w else Al w (.cells ⟨[]⟩ e) fun a3 w2 => AppSl e 1 1 [(Value.int .u8 0)] ⟨(some a3), 0, 0⟩ x w2 K) := by
  cases hxa : x.a with
  | none =>
    simp only [Option.isNone_none, cond_true]
    have := hx.empty hxa
    subst this
    exact hK _ _ Buf.nil (by simp [hxa]) (Ext.refl _) fun b ⟨o, h⟩ => by cases h
  | some a =>
    simp only [Option.isNone_some, cond_false]
    refine Al_e fun b w2 r2 e2 _ f2 => ?_
    have hx2 := hx.ext f2
    refine AppSl_bytes (l := []) ⟨rfl, .inr ⟨b, [], rfl, rfl, by simpa [bytesV] using r2⟩⟩ hx2 (by simpa using hl) fun s' w' h1 h2 h3 h4 => ?_
    refine hK _ _ (by simpa using h1) (by rw [hxa]; exact ⟨fun h => by have := (h4 h).2; simp at this, fun h => by simp at h⟩) (Fr8.new (Ext.fr f2 h2) ?_) (fun c hc => ?_)
    · rintro y hy ⟨o, e⟩
      cases e; omega
    · rcases h3 c hc with ⟨o, e⟩ | h
      · cases e; omega
      · have := (f2 fun _ => False).size; omega

theorem clone_ok {w : World} {x : SliceV} {m : List UInt8} (hx : SlB w x m) (hl : m.length ≤ 2 ^ 46) :
    c_slices_Clone_byte_byte x w fun r w' => Buf w' r (bytesV m) ∧ (r.a = none ↔ x.a = none) ∧ Ext w w' ∧ ∀ b, SliceV.at r b → w.heap.size ≤ b := by
  apply ok_slices_Clone_byte_byte
  unfold s_slices_Clone_byte_byte
  exact clone_aux (K := fun r w' => Buf w' r (bytesV m) ∧ (r.a = none ↔ x.a = none) ∧ Ext w w' ∧ ∀ b, SliceV.at r b → w.heap.size ≤ b) hx hl fun r w' h1 h2 h3 h4 => ⟨h1, h2, h3, h4⟩

theorem right_ok (k : Int) (w : World) : c_be_right k w fun r w' => r = decide (sizeOk k) ∧ w' = w := by
  apply ok_be_right
  unfold s_be_right
  by_cases h1 : k ≥ 1
  · by_cases h2 : k ≤ 4
    · have : sizeOk k := ⟨h1, h2⟩
      simp [h1, h2, this]
    · have : ¬ sizeOk k := fun h => h2 h.2
      simp [h1, h2, this]
  · have : ¬ sizeOk k := fun h => h1 h.1
    simp [h1, this]

theorem shr8 {n : Int} {i : Nat} (hi : i ≤ 7) (hn : 0 ≤ n) : shrI .i64 n (IntKind.i64.wrap (8 * (i : Int))) = ((n.toNat / 256 ^ i : Nat) : Int) := by
  rw [wrap_i64 (by omega) (by omega)]
  unfold shrI
  have e : (2 : Int) ^ (min ((8 : Int) * (i : Int)).toNat (IntKind.bits .i64)) = ((256 ^ i : Nat) : Int) := by
    have : i = 0 ∨ i = 1 ∨ i = 2 ∨ i = 3 ∨ i = 4 ∨ i = 5 ∨ i = 6 ∨ i = 7 := by omega
    rcases this with rfl | rfl | rfl | rfl | rfl | rfl | rfl | rfl <;> decide
  rw [e, Int.fdiv_eq_ediv_of_nonneg _ (Int.natCast_nonneg _), Int.natCast_ediv, Int.toNat_of_nonneg hn]

theorem shr_zero {n k : Int} (hk : sizeOk k) (hn : 0 ≤ n) : (shrI .i64 n (IntKind.i64.wrap (8 * k)) == 0) = decide (n < 256 ^ k.toNat) := by
  obtain ⟨h1, h2⟩ := hk
  obtain ⟨m, rfl⟩ : ∃ m : Nat, k = (m : Int) := ⟨k.toNat, by omega⟩
  rw [shr8 (by omega) hn]
  have hp : 0 < 256 ^ m := Nat.pow_pos (by omega)
  obtain ⟨x, rfl⟩ : ∃ x : Nat, n = (x : Int) := ⟨n.toNat, by omega⟩
  have e : ((256 : Int) ^ (m : Int).toNat) = ((256 ^ m : Nat) : Int) := by simp
  rw [e]
  simp only [Int.toNat_natCast]
  by_cases h : x < 256 ^ m
  · have : x / 256 ^ m = 0 := Nat.div_eq_of_lt h
    have h' : ((x : Int) < ((256 ^ m : Nat) : Int)) := by omega
    rw [this]; simp only [h', decide_true]; rfl
  · have : 1 ≤ x / 256 ^ m := (Nat.le_div_iff_mul_le hp).2 (by omega)
    have h' : ¬ ((x : Int) < ((256 ^ m : Nat) : Int)) := by omega
    simp only [h', decide_false, beq_eq_false_iff_ne, ne_eq]
    omega

theorem fits_ok (n k : Int) (w : World) : c_be_Fits n k w fun r w' => r = decide (fitsP n k) ∧ w' = w := by
  apply ok_be_Fits
  unfold s_be_Fits
  refine cm_be_right (right_ok k w) ?_
  rintro r w1 ⟨rfl, rfl⟩
  by_cases hk : sizeOk k
  · by_cases hn : n ≥ 0
    · simp only [hk, hn, decide_true, cond_true]
      refine ⟨by have := hk.1; have := hk.2; rw [wrap_i64 (by omega) (by omega)]; omega, ?_, by trivial⟩
      rw [shr_zero hk hn]
      simp [fitsP, hk, hn]
    · simp only [hk, hn, decide_true, decide_false, cond_true, cond_false]
      have : ¬ fitsP n k := fun h => hn h.2.1
      exact ⟨by simp [this], by trivial⟩
  · simp only [hk, decide_false, cond_false]
    exact ⟨by simp [fitsP, hk], by trivial⟩

def yB (l : List UInt8) : List (DenR [.one (.int .u8)]) := l.map fun b => ((b.toNat : Int), ())

theorem yB_get (l : List UInt8) (i : Nat) : (yB l)[i]? = (l[i]?).map fun b => ((b.toNat : Int), ()) := by simp [yB]

theorem beN_get : ∀ (k n i : Nat), i < k → (beN k n)[i]? = some (UInt8.ofNat (n / 256 ^ (k - 1 - i)))
  | 0, _, _, h => by omega
  | k + 1, n, 0, _ => by simp [beN]
  | k + 1, n, i + 1, h => by
    simp only [beN, List.getElem?_cons_succ]
    rw [beN_get k n i (by omega), show k + 1 - 1 - (i + 1) = k - 1 - i by omega]

theorem digits_iter {n : Int} {k f0 f1 : Nat} (hk : k ≤ 4) (hn : 0 ≤ n) :
    IterFn Try.prog [.one (.int .u8)] (Value.func (.func n_be_digits_1) #[] #[(Value.pointer (some ⟨f0, 0, none⟩)), (Value.pointer (some ⟨f1, 0, none⟩))])
      (fun W => Row W f0 [.int .i64 (k : Int)] ∧ Row W f1 [.int .i64 n]) (yB (beN k n.toNat)) := by
  refine ⟨by kernel_rfl, fun l Q D hC hQ hD hy w h0 => ?_⟩
  refine Calls.mono (ok_be_digits_1 (a0 := .func (.yield l) #[] #[]) (f0 := ⟨f0, 0, none⟩) (f1 := ⟨f1, 0, none⟩) (K := fun w' => Q (yB (beN k n.toNat)).length w' ∨ D w') ?_) (fun e w' h => h)
  have hlen : (yB (beN k n.toNat)).length = k := by simp [yB, beN_len]
  unfold s_be_digits_1
  obtain ⟨r0, _⟩ := hC _ _ h0
  simp only [Ld_eq, List.getElem?_cons_zero, LdV_some, dec_int, r0.cell]
  rw [hlen]
  refine LoopP_inv (fun st W => ∃ i : Nat, i ≤ k ∧ st.1 = (k : Int) - 1 - i ∧ Q i W) (fun st _ => (st.1 + 1).toNat) ⟨0, by omega, by rw [wrap_i64 (by omega) (by omega)]; simp, h0⟩ ?_
  rintro ⟨x, ⟨⟩⟩ W ⟨i, hi, hx, hq⟩ next hnext
  simp only at hx
  by_cases hlt : i < k
  · have hx0 : x ≥ 0 := by omega
    obtain ⟨_, r1⟩ := hC _ _ hq
    simp only [hx0, decide_true, cond_true, cond_true, List.getElem?_cons_zero, LdV_some, dec_int, r1.cell]
    refine ⟨by rw [wrap_i64 (by omega) (by omega)]; omega, ?_⟩
    obtain ⟨j, rfl⟩ : ∃ j : Nat, x = (j : Int) := ⟨x.toNat, by omega⟩
    rw [shr8 (by omega) hn]
    have hj : j = k - 1 - i := by omega
    have e : IntKind.u8.wrap ((n.toNat / 256 ^ j : Nat) : Int) = (((UInt8.ofNat (n.toNat / 256 ^ j)).toNat : Nat) : Int) := by
      rw [IntKind.wrap_u8]; simp
    rw [e]
    refine callV_yield (hy i ((((UInt8.ofNat (n.toNat / 256 ^ j)).toNat : Nat) : Int), ()) W _ ?_ hq ?_ ?_)
    · rw [yB_get, beN_get _ _ _ hlt, ← hj]; rfl
    · intro W' hq'
      refine ⟨true, rfl, ?_⟩
      simp only [Bool.not_true, cond_false]
      rw [wrap_i64 (by omega) (by omega)]
      exact hnext _ _ ⟨i + 1, by omega, by simp only; omega, hq'⟩ (by simp only; omega)
    · intro W' hd
      refine ⟨false, rfl, ?_⟩
      simp only [Bool.not_false, cond_true]
      exact .inr hd
  · have hx0 : ¬ x ≥ 0 := by omega
    simp only [hx0, decide_false, cond_false]
    have : i = k := by omega
    subst this
    exact .inl hq

/-- What yields these bytes, as long as nothing behind a place is touched. -/
def YieldsB (w0 w : World) (v : Value) (l : List UInt8) : Prop :=
  ∃ C, IterFn Try.prog [.one (.int .u8)] v C (yB l) ∧ ∀ W S, Fr8 w W S → (∀ b, w0.heap.size ≤ b → b < w.heap.size → ¬ S b) → C W

theorem digits_ok {n k : Int} (hk : sizeOk k) (hn : 0 ≤ n) (w : World) : c_be_digits n k w fun v w' => Ext w w' ∧ YieldsB w w' v (beN k.toNat n.toNat) := by
  apply ok_be_digits
  unfold s_be_digits
  refine ⟨rfl, Al_e fun a w1 r1 e1 z1 f1 => ⟨rfl, Al_e fun b w2 r2 e2 z2 f2 => ?_⟩⟩
  have r1' := r1.ext f2
  obtain ⟨m, rfl⟩ : ∃ m : Nat, k = (m : Int) := ⟨k.toNat, by have := hk.1; omega⟩
  refine ⟨f1.trans f2, _, digits_iter (by have := hk.2; omega) hn, fun W S hf hs => ⟨r2.fr hf (hs _ ?_ ?_), r1'.fr hf (hs _ ?_ ?_)⟩⟩ <;> omega

theorem appendSeq_ok {w0 w : World} {s : SliceV} {v : Value} {l m : List UInt8} (hs : Buf w s (bytesV l)) (hv : YieldsB w0 w v m) (hd : ∀ b, SliceV.at s b → ¬ (w0.heap.size ≤ b ∧ b < w.heap.size)) (hl : l.length + m.length ≤ 2 ^ 46) :
    c_slices_AppendSeq_byte_byte s v w fun r w' => Buf w' r (bytesV (l ++ m)) ∧ Fr8 w w' (SliceV.at s) ∧ (∀ b, SliceV.at r b → SliceV.at s b ∨ w.heap.size ≤ b) ∧ (r.a = none → l ++ m = [] ∧ s.a = none) := by
  obtain ⟨C, hi, hC⟩ := hv
  apply ok_slices_AppendSeq_byte_byte
  unfold s_slices_AppendSeq_byte_byte
  refine ⟨rfl, Al_e fun a w1 r1 e1 z1 f1 => ?_⟩
  have hlen : (yB m).length = m.length := by simp [yB]
  have hat : ∀ b, SliceV.at s b → b < w.heap.size := fun b hb => hs.lt hb
  refine rng_iter hi (fun i W => ∃ t : SliceV, Row W a [.slice t.a t.len t.cap] ∧ Buf W t (bytesV (l ++ m.take i)) ∧ Fr8 w W (SliceV.at s) ∧ (∀ b, SliceV.at t b → SliceV.at s b ∨ (w.heap.size ≤ b ∧ b ≠ a ∧ b ≠ lAt none w1 ∧ b ≠ w1.heap.size)) ∧ (t.a = none → l ++ m.take i = [] ∧ s.a = none) ∧ lAt none w1 < W.heap.size)
    (fun _ _ => False) (by simp) ?_ ?_ ?_ (by intro e W W' h; exact h.elim) (by intro e W h; exact h.elim) ?_ ?_ (by intro W h; exact h.elim) (by intro id W h; exact h.elim)
  · intro w2 f2 z2
    refine ⟨s, r1.ext f2, by simpa using (hs.ext f1).ext f2, (f1.trans f2) _, fun b hb => .inl hb, ?_, by omega⟩
    simp only [List.take_zero, List.append_nil]
    intro ha
    obtain ⟨_, ⟨_, h2, _⟩ | ⟨c, pad, h2, _⟩⟩ := hs
    · exact ⟨by simpa [bytesV] using h2, ha⟩
    · rw [ha] at h2; cases h2
  · rintro i W ⟨t, _, _, hf, _⟩
    exact hC W _ hf fun b h1 h2 h3 => hd b h3 ⟨h1, h2⟩
  · rintro i W W' ⟨t, h1, h2, h3, h4, h5, h6⟩ hf
    have hla : lAt none w1 = w1.heap.size + 1 := rfl
    refine ⟨t, h1.fr hf (by omega), h2.fr hf fun b hb e => ?_, h3.trans hf (fun b hb e => by omega), h4, h5, by have := hf.size; omega⟩
    rcases h4 b hb with h | h
    · have := hat b h; omega
    · omega
  · intro i x W Kb hx ⟨t, h1, h2, h3, h4, h5, h6⟩ hlt hnorm _
    refine ⟨rfl, ?_⟩
    have hla : lAt none w1 = w1.heap.size + 1 := rfl
    rw [yB_get] at hx
    cases hb : m[i]? with
    | none => rw [hb] at hx; simp at hx
    | some y =>
    rw [hb] at hx
    simp only [Option.map_some, Option.some.injEq] at hx
    subst hx
    have fb := Fr8.busyW W (lAt none w1)
    have h1' := h1.fr fb (by omega)
    have h2' : Buf (busyW W (lAt none w1)) t (bytesV (l ++ m.take i)) := h2.fr fb fun b hb e => by
      rcases h4 b hb with h | h
      · have := hat b h; omega
      · omega
    simp only [Ld_eq, List.getElem?_cons_zero, LdV_some, dec_slice, h1'.cell]
    have hil : i < m.length := (List.getElem?_eq_some_iff.1 hb).1
    refine Al_e fun c w3 r3 e3 z3 f3 => ?_
    have hz3 : w3.heap.size = W.heap.size + 1 := by rw [z3, e3]; simp [busyW]
    have hx3 : SlB w3 ⟨some ⟨c, 0, none⟩, 1, 1⟩ [y] := .of_buf (SlB.row (l := [y]) (by simpa [bytesV] using r3))
    have h2'' := h2'.ext f3
    refine AppSl_bytes h2'' hx3 (by simp; omega) fun s' w4 b4 f4 p4 n4 => ?_
    have hta : ¬ SliceV.at t a := fun h => by
      rcases h4 a h with h | h
      · have := hat a h; omega
      · exact h.2.1 rfl
    have h1'' := (h1'.ext f3).fr f4 hta
    refine St_row h1'' rfl (by simp) fun w5 r5 f5 z5 => ?_
    simp only [List.set_cons_zero] at r5
    have hbz : (busyW W (lAt none w1)).heap.size = W.heap.size := by simp [busyW]
    have hsa : ∀ b, SliceV.at s' b → b ≠ a := fun b hb e => by
      rcases p4 b hb with h | h
      · exact hta (e ▸ h)
      · have := h1.lt; omega
    refine hnorm w5 (fun b => SliceV.at t b ∨ b = a) ?_ ?_ ⟨s', r5, ?_, ?_, ?_, ?_, ?_⟩
    · exact ((f3 _).trans (f4.mono fun b h => .inl h) fun _ _ e => e).trans (f5 (fun b => SliceV.at t b ∨ b = a) (.inr rfl)) fun _ _ e => e
    · rintro b hb1 hb2 (h | h)
      · rcases h4 b h with h | h
        · have := hat b h; omega
        · rcases Nat.lt_or_ge b (lAt none w1) with hx | hx <;> omega
      · omega
    · have e : l ++ m.take (i + 1) = l ++ m.take i ++ [y] := by
        rw [List.take_succ_eq_append_getElem hil]
        have : m[i] = y := by rw [List.getElem?_eq_getElem hil] at hb; simpa using hb
        simp [this]
      rw [e]
      exact b4.fr (f5 (· = a) rfl) fun b hb e => hsa b hb e
    · refine ((h3.trans fb fun b hb e => by omega).ext f3).trans (S' := fun b => SliceV.at t b ∨ b = a) ((f4.mono fun b h => .inl h).trans (f5 (fun b => SliceV.at t b ∨ b = a) (.inr rfl)) fun _ _ e => e) ?_
      rintro b hb (h | h)
      · rcases h4 b h with h | h
        · exact h
        · omega
      · omega
    · intro b hb
      rcases p4 b hb with h | h
      · exact h4 b h
      · refine .inr ⟨by have := h3.size; omega, hsa b hb, ?_, ?_⟩ <;> omega
    · intro ha
      obtain ⟨h1, h2⟩ := n4 ha
      simp at h1
    · have := f4.size; omega
  · rintro W ⟨t, h1, h2, h3, h4, h5, h6⟩ hm
    have hla : lAt none w1 = w1.heap.size + 1 := rfl
    simp only [Ld_eq, List.getElem?_cons_zero, LdV_some, dec_slice, h1.cell]
    rw [hlen, List.take_length] at h2 h5
    refine ⟨hm rfl, ?_, ?_, ?_, h5⟩
    · exact h2.fr (Fr8.putDef _ _ _) fun b hb e => by
        rcases h4 b hb with h | h
        · have := hat b h; omega
        · omega
    · exact h3.trans (Fr8.putDef _ _ _) fun b hb e => by omega
    · intro b hb
      rcases h4 b hb with h | h
      · exact .inl h
      · exact .inr h.1

def putL (l : List UInt8) (n k : Int) : List UInt8 := if fitsP n k then l ++ beN k.toNat n.toNat else l

theorem put_ok {w : World} {s : SliceV} {l : List UInt8} (hs : SlB w s l) (hl : l.length + 4 ≤ 2 ^ 46) (n k : Int) :
    c_be_Put s n k w fun r w' => Buf w' r (bytesV (putL l n k)) ∧ Ext w w' ∧ (∀ b, SliceV.at r b → w.heap.size ≤ b) := by
  apply ok_be_Put
  unfold s_be_Put
  refine cm_slices_Clone_byte_byte (clone_ok hs (by omega)) ?_
  rintro r w1 ⟨b1, _, f1, n1⟩
  refine cm_be_Fits (fits_ok n k w1) ?_
  rintro _ _ ⟨rfl, rfl⟩
  by_cases hf : fitsP n k
  · simp only [hf, decide_true, Bool.not_true, cond_false]
    refine cm_be_digits (digits_ok hf.1 hf.2.1 _) ?_
    rintro v w2 ⟨f2, hv⟩
    have hk := hf.1
    refine cm_slices_AppendSeq_byte_byte (appendSeq_ok (b1.ext f2) hv (fun b hb h => by have := b1.lt hb; omega) (by rw [beN_len]; have := hk.2; omega)) ?_
    rintro r' w3 ⟨b3, f3, n3, _⟩
    refine ⟨by simpa [putL, hf] using b3, (f1.trans f2).new f3 fun b hb h => by have := n1 b h; omega, fun b hb => ?_⟩
    have := f1.size
    have := f2.size
    rcases n3 b hb with h | h
    · exact n1 b h
    · omega
  · simp only [hf, decide_false, Bool.not_false, cond_true]
    exact ⟨by simpa [putL, hf] using b1, f1, n1⟩

end Go.Proofs
