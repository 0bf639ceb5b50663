import Derived.Test.YtibalhhdladmbaaBe
import Derived.Test.YtibalhhdladmbaaBits
/- Numbers in bytes, sums, addresses, part two. -/
namespace Go.Proofs
open Gp Gp.V4
set_option maxRecDepth 100000

theorem collect_ok {w0 w : World} {v : Value} {m : List UInt8} (hv : YieldsB w0 w v m) (hl : m.length ≤ 2 ^ 46) :
    c_slices_Collect_byte v w fun r w' => Buf w' r (bytesV m) ∧ Ext w w' ∧ (∀ b, SliceV.at r b → w.heap.size ≤ b) := by
  apply ok_slices_Collect_byte
  unfold s_slices_Collect_byte
  refine cm_slices_AppendSeq_byte_byte (appendSeq_ok (l := []) Buf.nil hv (by rintro b ⟨o, h⟩; cases h) (by simpa using hl)) ?_
  rintro r w1 ⟨h1, f1, h2, _⟩
  refine ⟨by simpa using h1, f1.new ?_, fun b hb => ?_⟩
  · rintro b _ ⟨o, h⟩; cases h
  · rcases h2 b hb with ⟨o, h⟩ | h
    · cases h
    · exact h

def putL (l : List UInt8) (n k : Int) : List UInt8 := if fitsP n k then l ++ beN k.toNat n.toNat else l

theorem put_ok {w : World} {s : SliceV} {l : List UInt8} (hs : SlB w s l) (hl : l.length + 4 ≤ 2 ^ 46) (n k : Int) :
    c_be_Put s n k w fun r w' => Buf w' r (bytesV (putL l n k)) ∧ Ext w w' ∧ (∀ b, SliceV.at r b → w.heap.size ≤ b) := by
  apply ok_be_Put
  unfold s_be_Put
  refine cm_slices_Clone_byte_byte (clone_ok hs (by omega)) ?_
  rintro r w1 ⟨b1, _, f1, n1⟩
  refine cm_be_Fits (fits_ok n k w1) ?_
  rintro _ _ ⟨rfl, rfl⟩
  by_cases hf : fitsP n k
  · simp only [hf, decide_true, Bool.not_true, cond_false]
    refine cm_be_digits (digits_ok hf.1 hf.2.1 _) ?_
    rintro v w2 ⟨f2, hv⟩
    have hk := hf.1
    refine cm_slices_AppendSeq_byte_byte (appendSeq_ok (b1.ext f2) hv (fun b hb h => by have := b1.lt hb; omega) (by rw [beN_len]; have := hk.2; omega)) ?_
    rintro r' w3 ⟨b3, f3, n3, _⟩
    refine ⟨by simpa [putL, hf] using b3, (f1.trans f2).new f3 fun b hb h => by have := n1 b h; omega, fun b hb => ?_⟩
    have := f1.size
    have := f2.size
    rcases n3 b hb with h | h
    · exact n1 b h
    · omega
  · simp only [hf, decide_false, Bool.not_false, cond_true]
    exact ⟨by simpa [putL, hf] using b1, f1, n1⟩

theorem set_mid {α : Type} (A : List α) (ys : List α) (R : List α) {i : Nat} {y : α} (hi : ys[i]? = some y) (hR : 0 < R.length) :
    (A ++ ys.take i ++ R).set (A.length + i) y = A ++ ys.take (i + 1) ++ R.drop 1 := by
  have hlt := (List.getElem?_eq_some_iff.1 hi).1
  have e : (A ++ ys.take i).length = A.length + i := by simp; omega
  rw [List.set_append_right _ _ (by omega), e, Nat.sub_self]
  cases R with
  | nil => simp at hR
  | cons r R =>
    simp only [List.set_cons_zero, List.drop_succ_cons, List.drop_zero]
    rw [List.take_succ_eq_append_getElem hlt]
    have : ys[i] = y := by rw [List.getElem?_eq_getElem hlt] at hi; simpa using hi
    simp [this]

structure setR (l : List UInt8) (at_ n k : Int) (w : World) (r : SliceV) (e : Int) : Prop where
  out : if ¬ fitsP n k ∨ at_ < 0 then e = 1 ∧ r = ⟨none, 0, 0⟩ else if (l.length : Int) < at_ + k then e = 3 ∧ r = ⟨none, 0, 0⟩ else e = 0 ∧ Buf w r (bytesV (l.take at_.toNat ++ beN k.toNat n.toNat ++ l.drop (at_.toNat + k.toNat)))

theorem set_ok {w : World} {s : SliceV} {l : List UInt8} (hs : SlB w s l) (hl : l.length ≤ 2 ^ 46) (at_ n k : Int) :
    c_be_Set s at_ n k w fun r e w' => setR l at_ n k w' r e ∧ Ext w w' ∧ (∀ b, SliceV.at r b → w.heap.size ≤ b) := by
  apply ok_be_Set
  unfold s_be_Set
  refine cm_be_Fits (fits_ok n k w) ?_
  rintro _ _ ⟨rfl, rfl⟩
  by_cases hf : fitsP n k
  · simp only [hf, decide_true, Bool.not_true, cond_false]
    refine cm_slices_Clone_byte_byte (clone_ok hs (by omega)) ?_
    rintro r w1 ⟨b1, _, f1, n1⟩
    have hk := hf.1
    refine cm_be_window (window_ok (SlB.of_buf b1) (by omega) at_ k) ?_
    rintro r2 e w2 ⟨rfl, hr⟩
    by_cases c1 : at_ < 0
    · rw [if_pos (.inr c1)] at hr
      obtain ⟨rfl, rfl⟩ := hr
      refine ⟨?_, f1, by rintro b ⟨o, h⟩; cases h⟩
      refine ⟨?_⟩
      rw [if_pos (.inr c1)]
      exact ⟨rfl, rfl⟩
    have c1' : ¬ (¬ sizeOk k ∨ at_ < 0) := by rintro (h | h) <;> contradiction
    have c1'' : ¬ (¬ fitsP n k ∨ at_ < 0) := by rintro (h | h) <;> contradiction
    rw [if_neg c1'] at hr
    by_cases c2 : (l.length : Int) < at_ + k
    · rw [if_pos c2] at hr
      obtain ⟨rfl, rfl⟩ := hr
      refine ⟨?_, f1, by rintro b ⟨o, h⟩; cases h⟩
      refine ⟨?_⟩
      rw [if_neg c1'', if_pos c2]
      exact ⟨rfl, rfl⟩
    rw [if_neg c2] at hr
    obtain ⟨rfl, hr, ha⟩ := hr
    simp only [show ((0 : Int) != 0) = false from rfl, cond_false]
    refine cm_be_digits (digits_ok hk hf.2.1 _) ?_
    rintro v w3 ⟨f3, hv⟩
    refine cm_slices_Collect_byte (collect_ok hv (by rw [beN_len]; have := hk.2; omega)) ?_
    rintro q w4 ⟨b4, f4, n4⟩
    obtain ⟨m, rfl⟩ : ∃ m : Nat, k = (m : Int) := ⟨k.toNat, by have := hk.1; omega⟩
    obtain ⟨o, rfl⟩ : ∃ o : Nat, at_ = (o : Int) := ⟨at_.toNat, by omega⟩
    simp only [Int.toNat_natCast] at hr ha b4
    have hq := b4.1
    rw [bytesV_len, beN_len] at hq
    have hbl : (beN m n.toNat).length = m := beN_len _ _
    have hrl := hr.1
    simp only [List.length_take, List.length_drop] at hrl
    have hqr : ∀ b, SliceV.at q b → ¬ SliceV.at r b := fun b h1 h2 => by
      have := n4 b h1
      have := b1.lt h2
      have := f3.size
      omega
    refine LoopP_inv (fun st W => ∃ i : Nat, i ≤ m ∧ st.1 = i ∧ Buf W r (bytesV (l.take o ++ (beN m n.toNat).take i ++ l.drop (o + i))) ∧ Buf W q (bytesV (beN m n.toNat)) ∧ Fr8 w4 W (SliceV.at r))
      (fun st _ => m - st.1.toNat) ⟨0, by omega, rfl, by simpa using (b1.ext f3).ext f4, b4, Fr8.refl _ _⟩ ?_
    rintro ⟨x, ⟨⟩⟩ W ⟨i, hi, rfl, h1, h2, h3⟩ next hnext
    by_cases hlt : i < m
    · have hlt' : ((i : Int) < (q.len : Int)) := by omega
      simp only [hlt', decide_true, cond_true]
      have hy : (beN m n.toNat)[i]? = some (beN m n.toNat)[i] := List.getElem?_eq_getElem (by rw [hbl]; exact hlt)
      obtain ⟨a, haq, hc⟩ := (SlB.of_buf h2).at_ hy
      refine ⟨a, haq, by omega, by omega, ?_⟩
      simp only [Int.toNat_natCast, Nat.mul_one, Ld_eq, hc, LdV_some, dec_int]
      have hol : o + i < l.length := by omega
      obtain ⟨b, hb, hset⟩ := h1.set (i := o + i) (by simp [bytesV_len, hbl]; omega)
      have har := ha _ hb
      refine ⟨_, har, by omega, by omega, ?_⟩
      rw [addr_add2]
      simp only [Int.toNat_natCast, Nat.mul_one, add_mk, Nat.zero_add]
      refine hset _ _ rfl fun w5 b5 f5 z5 => ?_
      rw [wrap_i64 (by omega) (by omega)]
      refine hnext _ _ ⟨i + 1, by omega, by simp, ?_, h2.fr f5 (fun b hb h => hqr b hb h), h3.trans f5 fun _ _ h => h⟩ (by simp only; omega)
      have e := set_mid (l.take o) (beN m n.toNat) (l.drop (o + i)) hy (by simp; omega)
      rw [List.length_take, Nat.min_eq_left (by omega)] at e
      have e' : (bytesV (l.take o ++ (beN m n.toNat).take i ++ l.drop (o + i))).set (o + i) (.int .u8 (beN m n.toNat)[i].toNat) = bytesV (l.take o ++ (beN m n.toNat).take (i + 1) ++ l.drop (o + (i + 1))) := by
        rw [show l.drop (o + (i + 1)) = (l.drop (o + i)).drop 1 by rw [List.drop_drop]; rfl, ← e]
        unfold bytesV
        rw [List.map_set]
      rw [e'] at b5
      exact b5
    · have hlt' : ¬ ((i : Int) < (q.len : Int)) := by omega
      simp only [hlt', decide_false, cond_false]
      have : i = m := by omega
      subst this
      refine ⟨?_, ((f1.trans f3).trans f4).new h3 fun b hb h => by have := n1 b h; omega, n1⟩
      refine ⟨?_⟩
      rw [if_neg c1'', if_neg c2]
      refine ⟨rfl, ?_⟩
      rw [List.take_of_length_le (l := beN i n.toNat) (by omega)] at h1
      simpa using h1
  · simp only [hf, decide_false, Bool.not_false, cond_true]
    refine ⟨?_, Ext.refl _, by rintro b ⟨o, h⟩; cases h⟩
    refine ⟨?_⟩
    rw [if_pos (.inl hf)]
    exact ⟨rfl, rfl⟩

theorem setR_in {l : List UInt8} {at_ n k : Int} {w : World} {r : SliceV} {e : Int} (h1 : fitsP n k) (h2 : 0 ≤ at_) (h3 : at_ + k ≤ l.length) (h : setR l at_ n k w r e) : e = 0 ∧ Buf w r (bytesV (l.take at_.toNat ++ beN k.toNat n.toNat ++ l.drop (at_.toNat + k.toNat))) := by
  have := h.out
  rwa [if_neg (by rintro (h | h); exact h h1; omega), if_neg (by omega)] at this

/-! ### Sums -/
def wordAt (l : List UInt8) (j : Nat) : Nat := ((l[j]?).getD 0).toNat * 256 + ((l[j + 1]?).getD 0).toNat
def wB (l : List UInt8) : List (DenR [.one (.int .i64), .one (.int .i64)]) := (List.range ((l.length + 1) / 2)).map fun i => (((2 * i : Nat) : Int), ((wordAt l (2 * i) : Nat) : Int), ())

theorem wB_len (l : List UInt8) : (wB l).length = (l.length + 1) / 2 := by simp [wB]
theorem wB_get (l : List UInt8) {i : Nat} (h : 2 * i < l.length) : (wB l)[i]? = some (((2 * i : Nat) : Int), ((wordAt l (2 * i) : Nat) : Int), ()) := by
  simp only [wB, List.getElem?_map]
  rw [List.getElem?_range (by omega)]; rfl

theorem tot_take (l : List UInt8) {i : Nat} (h : 2 * i < l.length) : tot (l.take (2 * (i + 1))) = tot (l.take (2 * i)) + wordAt l (2 * i) := by
  have e : l.take (2 * (i + 1)) = l.take (2 * i) ++ (l.drop (2 * i)).take 2 := by
    rw [Nat.mul_add, List.take_add]
  rw [e, tot_append _ _ (by simp; omega)]
  congr 1
  unfold wordAt
  rw [← List.getElem?_drop, show l[2 * i]? = (l.drop (2 * i))[0]? by simp]
  match hd : l.drop (2 * i) with
  | [] => have h3 := congrArg List.length hd; rw [List.length_drop] at h3; simp only [List.length_nil] at h3; omega
  | [a] => simp [tot]
  | a :: b :: r => simp [tot]

theorem wordAt_lt (l : List UInt8) (j : Nat) : wordAt l j < 65536 := by
  unfold wordAt
  have h1 := ((l[j]?).getD 0).toNat_lt
  have h2 := ((l[j + 1]?).getD 0).toNat_lt
  omega

theorem words_iter {s : SliceV} {f0 : Nat} {l : List UInt8} (hl : l.length ≤ 2 ^ 46) :
    IterFn Try.prog [.one (.int .i64), .one (.int .i64)] (Value.func (.func n_be_Words_1) #[] #[(Value.pointer (some ⟨f0, 0, none⟩))])
      (fun W => Row W f0 [.slice s.a s.len s.cap] ∧ SlB W s l) (wB l) := by
  refine ⟨by kernel_rfl, fun n Q D hC hQ hD hy w h0 => ?_⟩
  refine Calls.mono (ok_be_Words_1 (a0 := .func (.yield n) #[] #[]) (f0 := ⟨f0, 0, none⟩) (K := fun w' => Q (wB l).length w' ∨ D w') ?_) (fun e w' h => h)
  unfold s_be_Words_1
  rw [wB_len]
  refine LoopP_inv (fun st W => ∃ i : Nat, i ≤ (l.length + 1) / 2 ∧ st.1 = ((2 * i : Nat) : Int) ∧ Q i W) (fun st _ => l.length + 1 - st.1.toNat) ⟨0, by omega, rfl, h0⟩ ?_
  rintro ⟨x, ⟨⟩⟩ W ⟨i, hi, rfl, hq⟩ next hnext
  obtain ⟨r0, hs⟩ := hC _ _ hq
  have hsl := hs.1
  simp only [Ld_eq, List.getElem?_cons_zero, LdV_some, dec_slice, r0.cell]
  by_cases hlt : 2 * i < l.length
  · have hlt' : (((2 * i : Nat) : Int) < (s.len : Int)) := by omega
    simp only [hlt', decide_true, cond_true]
    obtain ⟨a, ha, hc⟩ := hs.at_ (List.getElem?_eq_getElem hlt)
    refine ⟨a, ha, by omega, by omega, ?_⟩
    rw [Int.toNat_natCast]
    simp only [Nat.mul_one, LdV_some, dec_int, hc]
    refine ⟨by omega, ?_⟩
    have hb := l[2 * i].toNat_lt
    have fin : CallV Try.prog [.one .bool] (.func (.yield n) #[] #[]) [Value.int .i64 ((2 * i : Nat) : Int), Value.int .i64 ((wordAt l (2 * i) : Nat) : Int)] W (fun r11 w12 =>
        ∃ r13 : Bool, r11 = (Value.bool r13) ∧ (bif (!r13) then (Q ((l.length + 1) / 2) w12 ∨ D w12) else next ((IntKind.i64.wrap (((2 * i : Nat) : Int) + 2)), ()) w12)) := by
      refine callV_yield (hy i (((2 * i : Nat) : Int), ((wordAt l (2 * i) : Nat) : Int), ()) W _ (wB_get l hlt) hq ?_ ?_)
      · intro W' hq'
        refine ⟨true, rfl, ?_⟩
        simp only [Bool.not_true, cond_false]
        rw [wrap_i64 (by omega) (by omega)]
        exact hnext _ _ ⟨i + 1, by omega, by simp only; omega, hq'⟩ (by simp only; omega)
      · intro W' hd
        refine ⟨false, rfl, ?_⟩
        simp only [Bool.not_false, cond_true]
        exact .inr hd
    rw [wrap_i64 (n := ((2 * i : Nat) : Int) + 1) (by omega) (by omega), wrap_i64 (n := (l[2 * i].toNat : Int)) (by omega) (by omega)]
    by_cases hlt2 : 2 * i + 1 < l.length
    · have hlt2' : (((2 * i : Nat) : Int) + 1 < (s.len : Int)) := by omega
      simp only [hlt2', decide_true, cond_true]
      obtain ⟨a', ha', hc'⟩ := hs.at_ (List.getElem?_eq_getElem hlt2)
      refine ⟨a', ha', by omega, by omega, ?_⟩
      rw [show (((2 * i : Nat) : Int) + 1).toNat = 2 * i + 1 by omega]
      simp only [Nat.mul_one, LdV_some, dec_int, hc']
      have hb' := l[2 * i + 1].toNat_lt
      rw [wrap_i64 (n := (l[2 * i + 1].toNat : Int)) (by omega) (by omega), or_shift (by omega) (by omega)]
      have e : wordAt l (2 * i) = l[2 * i].toNat * 256 + l[2 * i + 1].toNat := by
        unfold wordAt
        rw [List.getElem?_eq_getElem hlt, List.getElem?_eq_getElem hlt2]; rfl
      rw [e] at fin
      exact fin
    · have hlt2' : ¬ (((2 * i : Nat) : Int) + 1 < (s.len : Int)) := by omega
      simp only [hlt2', decide_false, cond_false]
      have e0 : shlI .i64 (l[2 * i].toNat : Int) 8 = ((l[2 * i].toNat * 256 : Nat) : Int) := by
        have := shl_i64 (a := l[2 * i].toNat) (k := 8) (by omega) (by omega)
        simpa using this
      rw [e0]
      have e : wordAt l (2 * i) = l[2 * i].toNat * 256 := by
        unfold wordAt
        rw [List.getElem?_eq_getElem hlt, List.getElem?_eq_none (by omega)]; simp
      rw [e] at fin
      exact fin
  · have hlt' : ¬ (((2 * i : Nat) : Int) < (s.len : Int)) := by omega
    simp only [hlt', decide_false, cond_false]
    have : i = (l.length + 1) / 2 := by omega
    subst this
    exact .inl hq

/-- A row of slices that read as these lists of bytes. -/
def Parts (w : World) (s : SliceV) (ps : List (SliceV × List UInt8)) : Prop :=
  s.len = ps.length ∧ (∀ i p, ps[i]? = some p → ∃ b o, s.a = some ⟨b, o, none⟩ ∧ w.cell? ⟨b, o + i, none⟩ = some (.slice p.1.a p.1.len p.1.cap) ∧ SlB w p.1 p.2)

theorem Parts.fr {w w' : World} {s : SliceV} {ps : List (SliceV × List UInt8)} (h : Parts w s ps) (hf : Ext w w') : Parts w' s ps :=
  ⟨h.1, fun i p hi => by obtain ⟨b, o, h1, h2, h3⟩ := h.2 i p hi; exact ⟨b, o, h1, cell_ext h2 hf, h3.ext hf⟩⟩

def totP (ps : List (SliceV × List UInt8)) : Nat := (ps.map fun p => tot p.2).foldr (· + ·) 0

theorem totP_take {ps : List (SliceV × List UInt8)} {i : Nat} {p : SliceV × List UInt8} (h : ps[i]? = some p) : totP (ps.take (i + 1)) = totP (ps.take i) + tot p.2 := by
  have hlt := (List.getElem?_eq_some_iff.1 h).1
  rw [List.take_succ_eq_append_getElem hlt]
  have : ps[i] = p := by rw [List.getElem?_eq_getElem hlt] at h; simpa using h
  rw [this]
  unfold totP
  generalize ps.take i = q
  induction q with
  | nil => simp
  | cons x q ih => simp only [List.map_append, List.cons_append, List.map_cons, List.foldr_cons, List.foldr_append] at ih ⊢; simp at ih ⊢; omega

theorem totP_le {ps : List (SliceV × List UInt8)} {n : Nat} (h : ∀ p ∈ ps, p.2.length ≤ n) : totP ps ≤ ps.length * (65535 * n) := by
  unfold totP
  induction ps with
  | nil => simp
  | cons p ps ih =>
    simp only [List.map_cons, List.foldr_cons, List.length_cons]
    have h1 := tot_le p.2
    have h2 := h p (List.mem_cons_self ..)
    have h3 := ih fun q hq => h q (List.mem_cons_of_mem _ hq)
    have h4 : 65535 * p.2.length ≤ 65535 * n := Nat.mul_le_mul_left _ h2
    rw [Nat.add_mul]; omega

theorem total_ok {w : World} {s : SliceV} {ps : List (SliceV × List UInt8)} (hs : Parts w s ps) (hn : ps.length ≤ 64) (hl : ∀ p ∈ ps, p.2.length ≤ 2 ^ 40) :
    c_sum_total s w fun r w' => r = (totP ps : Int) ∧ Ext w w' := by
  apply ok_sum_total
  unfold s_sum_total
  refine Al_e fun a w1 r1 e1 z1 f1 => ?_
  refine St_row r1 rfl (by simp) fun w2 r2 f2 z2 => ?_
  have hsl := hs.1
  have x2 : Ext w w2 := f1.new (f2 (· = a) rfl) fun b hb e => by omega
  have hlt0 : ∀ i, totP (ps.take i) ≤ 2 ^ 62 := fun i => by
    have h1 := totP_le (ps := ps.take i) (n := 2 ^ 40) fun p hp => hl p (List.mem_of_mem_take hp)
    have h2 : (ps.take i).length ≤ 64 := by simp; omega
    have h3 : (ps.take i).length * (65535 * 2 ^ 40) ≤ 64 * (65535 * 2 ^ 40) := Nat.mul_le_mul_right _ h2
    omega
  refine LoopP_inv (fun st W => ∃ i : Nat, i ≤ ps.length ∧ st.1.1 = i ∧ Row W a [.int .i64 (totP (ps.take i) : Int)] ∧ Ext w W ∧ (∀ d ∈ st.2, w2.heap.size ≤ d ∧ d < W.heap.size ∧ W.heap[d]? = some (.deferred (some []))) ∧ st.2.Nodup ∧ w2.heap.size ≤ W.heap.size)
    (fun st _ => ps.length - st.1.1.toNat) ⟨0, by omega, rfl, by simpa [totP] using r2, x2, by simp, by simp, Nat.le_refl _⟩ ?_
  rintro ⟨⟨x, ⟨⟩⟩, ds⟩ W ⟨i, hi, rfl, h1, h2, h3, h4, h5⟩ next hnext
  by_cases hlt : i < ps.length
  · have hlt' : ((i : Int) < (s.len : Int)) := by omega
    simp only [hlt', decide_true, cond_true]
    obtain ⟨b, o, ha, hc, hb⟩ := (hs.fr h2).2 i _ (List.getElem?_eq_getElem hlt)
    refine ⟨_, ha, by omega, by omega, ?_⟩
    simp only [Int.toNat_natCast, Nat.mul_one, Ld_eq, LdV_some, dec_slice, add_mk, hc]
    generalize hp : ps[i] = p at hc hb
    have hpm : ps[i]? = some p := by rw [List.getElem?_eq_getElem hlt, hp]
    have hpl := hl p (List.mem_of_getElem? hpm)
    apply ok_be_Words
    unfold s_be_Words
    refine ⟨rfl, Al_e fun c w3 r3 e3 z3 f3 => ?_⟩
    have htl : ∀ j, tot (p.2.take j) ≤ 2 ^ 60 := fun j => by
      have := tot_le (p.2.take j)
      have e : (p.2.take j).length ≤ 2 ^ 40 := by simp; omega
      have : 65535 * (p.2.take j).length ≤ 65535 * 2 ^ 40 := Nat.mul_le_mul_left _ e
      omega
    have haw : a < w2.heap.size := by omega
    have hla : lAt none w3 = w3.heap.size + 1 := rfl
    have hsz := h2.size
    have hbw : ∀ a', p.1.a = some a' → 0 < p.2.length → a'.block < w.heap.size := fun a' h h' => by
      obtain ⟨b', o', _, _, hb'⟩ := hs.2 i p hpm
      exact hb'.lt h h'
    refine rng_iter (words_iter (s := p.1) (l := p.2) (by omega)) (fun j W' => Row W' a [.int .i64 ((totP (ps.take i) + tot (p.2.take (2 * j)) : Nat) : Int)] ∧ Fr8 w3 W' (· = a) ∧ w3.heap.size + 2 ≤ W'.heap.size)
      (fun _ _ => False) (by simp) ?_ ?_ ?_ (by intro e W W' h; exact h.elim) (by intro e W h; exact h.elim) ?_ ?_ (by intro W h; exact h.elim) (by intro id W h; exact h.elim)
    · intro w4 f4 z4
      exact ⟨by simpa [tot] using (h1.ext f3).ext f4, f4 _, by omega⟩
    · exact fun j W' h => ⟨r3.fr h.2.1 (by omega), (hb.ext f3).fr h.2.1 fun a' ha' hl' e => by have := hbw a' ha' hl'; omega⟩
    · rintro j W' W'' ⟨g1, g5, g6⟩ hf
      exact ⟨g1.fr hf (by omega), g5.trans hf fun b hb e => by omega, by have := hf.size; omega⟩
    · intro j x W' Kb hx ⟨g1, g5, g6⟩ hlt3 hnorm _
      refine ⟨by trivial, ?_⟩
      have hj : 2 * j < p.2.length := by
        have := (List.getElem?_eq_some_iff.1 hx).1
        rw [wB_len] at this; omega
      rw [wB_get _ hj] at hx
      simp only [Option.some.injEq] at hx
      subst hx
      have fb := Fr8.busyW W' (lAt none w3)
      have g1' := g1.fr fb (by omega)
      simp only [List.getElem?_cons_zero, LdV_some, dec_int, g1'.cell]
      refine St_row g1' rfl (by simp) fun w5 r5 f5 z5 => ?_
      refine hnorm w5 (· = a) (f5 _ rfl) (fun b hb1 hb2 e => by omega) ⟨?_, (g5.trans fb fun b hb e => by omega).trans (f5 (· = a) rfl) fun b hb e => e, by simp [busyW] at z5; omega⟩
      simp only [List.set_cons_zero] at r5
      have := hlt0 i
      have := htl (2 * j)
      have := wordAt_lt p.2 (2 * j)
      rw [wrap_i64 (by omega) (by omega)] at r5
      rw [tot_take _ hj]
      have e : ((totP (ps.take i) + tot (p.2.take (2 * j)) : Nat) : Int) + ((wordAt p.2 (2 * j) : Nat) : Int) = ((totP (ps.take i) + (tot (p.2.take (2 * j)) + wordAt p.2 (2 * j)) : Nat) : Int) := by omega
      rw [e] at r5
      exact r5
    · rintro W' ⟨g1, g5, g6⟩ hm
      have hmk := hm rfl
      rw [wB_len, List.take_of_length_le (l := p.2) (by omega)] at g1
      rw [wrap_i64 (by omega) (by omega)]
      have hx : Ext w W' := (h2.trans f3).new g5 fun b hb e => by omega
      refine hnext _ _ ⟨i + 1, by omega, by simp, by rw [totP_take hpm]; exact g1, hx, ?_, ?_, by omega⟩ (by simp only; omega)
      · intro d hd
        rcases List.mem_cons.1 hd with rfl | hd
        · exact ⟨by omega, by omega, hmk⟩
        · obtain ⟨q1, q2, q3⟩ := h3 d hd
          refine ⟨q1, by omega, ?_⟩
          rw [g5.same d (by omega) (by omega), (f3 fun _ => False).same d (by omega) (by simp)]
          exact q3
      · refine List.nodup_cons.2 ⟨fun hd => ?_, h4⟩
        have := (h3 _ hd).2.1
        omega
  · have hlt' : ¬ ((i : Int) < (s.len : Int)) := by omega
    simp only [hlt', decide_false, cond_false]
    have : i = ps.length := by omega
    subst this
    rw [List.take_length] at h1
    simp only [Ld_eq, List.getElem?_cons_zero, LdV_some, dec_int, h1.cell]
    refine closeP_ok (n := w2.heap.size) ds W (fun d hd => ⟨(h3 d hd).1, (h3 d hd).2.2⟩) h4 fun w6 f6 z6 => ⟨by trivial, h2.new f6 fun b hb e => by omega⟩
end Go.Proofs
