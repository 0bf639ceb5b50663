import Derived.Test.YtcnkafgimclghaaHashSrt
import Derived.Test.YtcnkafgimclghaaHash
import Derived.Test.YtcnkafgimclghaaIns
import Derived.Test.YtcnkafgimclghaaExt2
/- A table's entries as a list: copies, and what is taken out. -/
namespace Go.Proofs
open Gp Gp.Hash
set_option maxRecDepth 100000

abbrev eE (e : Ent) : List Value := [.string (eKey e), .int .i64 (eN e), .bool (eU e)]
theorem eE_len (t : Ent) : (eE t).length = 3 := rfl
theorem eE_one (t : Ent) : ∀ v ∈ eE t, isOne v = true := by
  intro v hv
  simp only [eE, List.mem_cons, List.not_mem_nil, or_false] at hv
  rcases hv with rfl | rfl | rfl <;> rfl

theorem callV_fn {f : FuncId} {cap : Array Value} {sh : List Shape} {args : List Value} {w : World} {K : Value → World → Prop} (hb : hasBody Try.prog f = true) (h : CallP Try.prog sh f (args ++ cap.toList) w K) :
    CallV Try.prog sh (.func (.func f) #[] cap) args w K := by
  unfold CallV
  simp only [hb, cond_true]
  exact h

theorem SlN_ix {α : Type} {n : Nat} {f : α → List Value} {w : World} {s : SliceV} {xs : List α} (hn : ∀ x, (f x).length = n) (hn0 : 0 < n) (h : SlN n f w s xs) {i : Int} {K : Addr → Prop} {x : α} (h0 : 0 ≤ i) (hx : xs[i.toNat]? = some x)
    (hK : ∀ a : Addr, (∀ j v, (f x)[j]? = some v → w.cell? (a.add j) = some v) → K a) : AtIx s n i K := by
  obtain ⟨a, ha, hc⟩ := h.at_ hn hn0 hx
  have hlt := (List.getElem?_eq_some_iff.1 hx).1
  obtain ⟨sa, sl, sc⟩ := s
  simp only at ha
  subst ha
  have hl : sl = xs.length := h.len
  refine (AtIx_some ..).2 ⟨h0, by omega, hK _ fun j v hj => ?_⟩
  rw [← hc j v hj]
  congr 1
  obtain ⟨b, o, t⟩ := a
  unfold Addr.add
  by_cases h1 : i.toNat * n = 0 <;> by_cases h2 : j = 0 <;> simp [h1, h2, Nat.add_assoc]

theorem SlN_E {w : World} {s : SliceV} {l : List Ent} (h : SlN 3 eE w s l) {k : Nat} {z : Ent} (hk : l[k]? = some z) {K : Addr → Prop} (hK : ∀ a, w.cell? (a.add 0) = some (.string (eKey z)) → w.cell? (a.add 1) = some (.int .i64 (eN z)) → w.cell? (a.add 2) = some (.bool (eU z)) → K a) : AtIx s 3 (k : Int) K :=
  SlN_ix eE_len (by omega) h (by omega) (by rw [Int.toNat_natCast]; exact hk) fun a hc => hK a (hc 0 _ rfl) (hc 1 _ rfl) (hc 2 _ rfl)

/-- Where a function value tells p of a timer. -/
def FnE (v : Value) (C : World → Prop) (p : Ent → Bool) : Prop := ∀ x W (K : Value → World → Prop), C W → (∀ W', Ext W W' → K (.bool (p x)) W') → CallV Try.prog [.one .bool] v [.agg ⟨eE x⟩] W K

theorem cloneE_ok {w : World} {s : SliceV} {xs : List Ent} (hs : SlN 3 eE w s xs) (hl : xs.length ≤ 2 ^ 30) :
    c_slices_Clone_hash_entry_hash_entry s w fun r w' => Ext w w' ∧ BufN 3 eE w' r xs ∧ ∀ b, SliceV.at r b → w.heap.size ≤ b := by
  apply ok_slices_Clone_hash_entry_hash_entry
  unfold s_slices_Clone_hash_entry_hash_entry
  have hlen := hs.len
  cases ha : s.a with
  | none =>
    have hc := hs.cells
    rw [ha] at hc
    have h0 : xs.flatMap eE = [] := hc
    have hfl := flat_len eE 3 eE_len xs
    rw [h0] at hfl
    have : xs = [] := by
      cases xs with
      | nil => rfl
      | cons _ _ => simp only [List.length_cons, List.length_nil] at hfl; omega
    subst this
    simp only [Option.isNone_none, cond_true]
    exact ⟨Ext.refl _, BufN.nil, fun b ⟨o, hb⟩ => by cases hb⟩
  | some a =>
    simp only [Option.isNone_some, cond_false]
    refine Al_e fun t w1 rt et zt f1 => ?_
    have hb : BufN 3 eE w1 ⟨some ⟨t, 0, none⟩, 0, 0⟩ ([] : List Ent) := BufN.row (xs := []) rt
    refine AppSl_bufN eE_len hb (hs.ext f1) rfl (by omega) eE_one (by simp only [List.length_nil]; omega) (by simp only [List.length_nil]; omega) fun s' w' h1 h2 h3 => ?_
    refine ⟨f1.new h2 fun b hb ⟨o, he⟩ => by cases he; omega, h1, fun b hb => ?_⟩
    rcases h3 b hb with ⟨o, he⟩ | h
    · cases he; omega
    · omega

theorem indexE {w : World} {s : SliceV} {xs : List Ent} {v : Value} {p : Ent → Bool} {C : World → Prop} (hs : SlN 3 eE w s xs) (hl : xs.length ≤ 2 ^ 30) (hp : FnE v C p) (hC : ∀ W, Ext w W → C W) :
    c_slices_IndexFunc_hash_entry_hash_entry s v w fun r w' => ((r = -1 ∧ xs.any p = false) ∨ ∃ j : Nat, r = (j : Int) ∧ j < xs.length ∧ (xs.take j).any p = false ∧ (xs.take (j + 1)).filter (fun x => !p x) = xs.take j) ∧ Ext w w' := by
  apply ok_slices_IndexFunc_hash_entry_hash_entry
  unfold s_slices_IndexFunc_hash_entry_hash_entry
  have hlen := hs.len
  refine LoopP_inv (fun st W => ∃ j : Nat, j ≤ xs.length ∧ st.1 = (j : Int) ∧ Ext w W ∧ (xs.take j).any p = false) (fun st _ => (s.len - st.1).toNat) ⟨0, by omega, rfl, Ext.refl _, by simp⟩ ?_
  rintro ⟨i, ⟨⟩⟩ W ⟨j, hj, hi, hx, hm⟩ next hnext
  simp only at hi
  subst hi
  by_cases hlt : (j : Int) < (s.len : Int)
  · simp only [hlt, decide_true, cond_true]
    have hxj := List.getElem?_eq_getElem (show j < xs.length by omega)
    generalize xs[j] = x at hxj
    have htk : xs.take (j + 1) = xs.take j ++ [x] := by rw [List.take_add_one, hxj]; rfl
    refine SlN_E (hs.ext hx) hxj fun a c0 c1 c2 => ?_
    simp only [Ld_eq, LdV_some, dec_int, dec_bool, dec_str, c0, c1, c2]
    refine hp x W _ (hC W hx) fun W' hf => ⟨p x, rfl, ?_⟩
    cases he : p x
    · simp only [cond_false]
      rw [wrap_i64 (by omega) (by omega)]
      refine hnext _ _ ⟨j + 1, by omega, by simp, hx.trans hf, ?_⟩ (by simp only; omega)
      rw [htk, List.any_append, hm, List.any_cons, he, List.any_nil]; rfl
    · simp only [cond_true]
      refine ⟨.inr ⟨j, rfl, by omega, hm, ?_⟩, hx.trans hf⟩
      rw [htk, List.filter_append, List.filter_eq_self.2 (fun y hy => by have := List.any_eq_false.1 hm y hy; simpa using this)]
      simp [he]
  · simp only [hlt, decide_false, cond_false]
    rw [List.take_of_length_le (by omega)] at hm
    exact ⟨.inl ⟨by trivial, hm⟩, hx⟩

theorem ClearSl_E {w : World} {b o n c : Nat} {L : List Value} {K : World → Prop} (hr : Row w b L) (ho : o + n * 3 ≤ L.length) (hK : ∀ w', Row w' b (spl L o (repCells [.string (bs []), .int .i64 0, .bool false] n)) → Fr8 w w' (· = b) → K w') : ClearSl [.string (bs []), .int .i64 0, .bool false] ⟨some ⟨b, o, none⟩, n, c⟩ w K := by
  have hrl : (repCells [Value.string (bs []), Value.int .i64 0, Value.bool false] n).length = n * 3 := by rw [repCells_len]; rfl
  refine ⟨?_, by intro v hv; simp only [List.mem_cons, List.not_mem_nil, or_false] at hv; rcases hv with rfl | rfl | rfl <;> rfl, ?_⟩
  · rintro a ha
    cases ha
    intro j hj
    simp only [List.length_cons, List.length_nil] at hj
    rw [add_mk, hr.cell]
    exact ⟨by simp; omega, hr.frozen _⟩
  · obtain ⟨r, f⟩ := setCells_row (repCells [Value.string (bs []), Value.int .i64 0, Value.bool false] n) w L o 0 hr (by omega)
    refine hK _ ?_ (f (· = b) rfl)
    simpa [spl] using r

theorem delE_ok {w : World} {s : SliceV} {xs : List Ent} {v : Value} {p : Ent → Bool} {C : World → Prop} (hs : BufN 3 eE w s xs) (hl : xs.length ≤ 2 ^ 30) (hp : FnE v C p) (hC : ∀ W, Fr8 w W (SliceV.at s) → C W) :
    c_slices_DeleteFunc_hash_entry_hash_entry s v w fun r w' => BufN 3 eE w' r (xs.filter fun x => !p x) ∧ Fr8 w w' (SliceV.at s) ∧ ∀ b, SliceV.at r b → SliceV.at s b := by
  apply ok_slices_DeleteFunc_hash_entry_hash_entry
  unfold s_slices_DeleteFunc_hash_entry_hash_entry
  have hlen := hs.len
  have hsl := hs.sl eE_len (by omega)
  have hcap := hsl.cap
  refine cm_slices_IndexFunc_hash_entry_hash_entry (indexE hsl hl hp fun W hx => hC W (hx _)) ?_
  rintro r w1 ⟨h, x1⟩
  have hs1 := hs.ext x1
  rcases h with ⟨rfl, hno⟩ | ⟨i0, rfl, hi0, hany, hfil⟩
  · rw [show ((-1 : Int) == -1) = true from rfl, cond_true]
    refine ⟨?_, x1 _, fun b hb => hb⟩
    rw [List.filter_eq_self.2 (fun y hy => by have := List.any_eq_false.1 hno y hy; simpa using this)]
    exact hs1
  rw [show ((i0 : Int) == -1) = false from beq_eq_false_iff_ne.2 (by omega), cond_false]
  obtain ⟨b, pad, ha, hc, hr⟩ : ∃ b pad, s.a = some ⟨b, 0, none⟩ ∧ s.cap * 3 = xs.length * 3 + pad.length ∧ Row w1 b (xs.flatMap eE ++ pad) := by
    rcases hs1.mem with ⟨_, h, _⟩ | h
    · rw [h] at hi0; simp at hi0
    · exact h
  obtain ⟨sa, sl, sc⟩ := s
  simp only at ha hc hlen hcap
  subst ha
  subst hlen
  rw [wrap_i64 (n := (i0 : Int) + 1) (by omega) (by omega)]
  have hat : ∀ {W}, Fr8 w1 W (· = b) → Fr8 w W (SliceV.at ⟨some ⟨b, 0, none⟩, xs.length, sc⟩) := fun hf => (x1 _).trans (hf.mono fun c hc => ⟨0, by rw [hc]⟩) fun _ _ h => h
  have fl3 : ∀ ys : List Ent, (ys.flatMap eE).length = ys.length * 3 := fun ys => flat_len eE 3 eE_len ys
  refine LoopP_inv (fun st W => ∃ j : Nat, j ≤ xs.length ∧ st.2.1 = (j : Int) ∧ st.1 = (((xs.take j).filter fun x => !p x).length : Int) ∧ ((xs.take j).filter fun x => !p x).length < j ∧ Fr8 w1 W (· = b) ∧ ∃ mid, mid.length = (j - ((xs.take j).filter fun x => !p x).length) * 3 ∧ Row W b (((xs.take j).filter fun x => !p x).flatMap eE ++ (mid ++ ((xs.drop j).flatMap eE ++ pad))))
    (fun st _ => (xs.length - st.2.1).toNat) ⟨i0 + 1, by omega, by simp, by rw [hfil, List.length_take, Nat.min_eq_left (by omega)], by rw [hfil, List.length_take]; omega, Fr8.refl _ _, ?_⟩ ?_
  · rw [hfil, List.length_take, Nat.min_eq_left (by omega)]
    refine ⟨eE xs[i0], by rw [eE_len]; omega, ?_⟩
    have : xs.flatMap eE = (xs.take i0).flatMap eE ++ (eE xs[i0] ++ (xs.drop (i0 + 1)).flatMap eE) := by
      conv => lhs; rw [← List.take_append_drop i0 xs, List.drop_eq_getElem_cons hi0, List.flatMap_append, List.flatMap_cons]
    rw [this] at hr
    simpa only [List.append_assoc] using hr
  rintro ⟨i', j', ⟨⟩⟩ W ⟨j, hj, hj1, hi1, hij, hf, mid, hmid, hrW⟩ next hnext
  simp only at hj1 hi1
  subst hj1 hi1
  generalize hkp : (xs.take j).filter (fun x => !p x) = kp at *
  by_cases hlt : (j : Int) < (xs.length : Int)
  · rw [decide_eq_true hlt, cond_true]
    intro J
    have hx := List.getElem?_eq_getElem (show j < xs.length by omega)
    have hdr := List.drop_eq_getElem_cons (show j < xs.length by omega)
    generalize xs[j] = x at hx hdr
    have htk : xs.take (j + 1) = xs.take j ++ [x] := by rw [List.take_add_one, hx]; rfl
    rw [hdr, List.flatMap_cons] at hrW
    have hcell : ∀ m, m < 3 → W.cell? ⟨b, j * 3 + m, none⟩ = (eE x)[m]? := by
      intro m hm
      rw [hrW.cell, List.getElem?_append_right (by rw [fl3]; omega), List.getElem?_append_right (by rw [fl3]; omega), fl3, hmid, show j * 3 + m - kp.length * 3 - (j - kp.length) * 3 = m by omega, List.append_assoc, List.getElem?_append_left (by rw [eE_len]; omega)]
    have q0 := hcell 0 (by omega)
    have q1 := hcell 1 (by omega)
    have q2 := hcell 2 (by omega)
    simp only [Nat.add_zero, eE, List.getElem?_cons_zero, List.getElem?_cons_succ] at q0 q1 q2
    refine (AtIx_some _ xs.length sc _ (j : Int) _).2 ⟨by omega, by omega, ?_⟩
    rw [add_mk, Nat.zero_add, Int.toNat_natCast]
    simp -zeta only [Ld_eq, LdV_some, dec_int, dec_bool, dec_str, AtIx_some, add_mk, Nat.zero_add, Nat.add_zero, q0, q1, q2]
    refine Al_f rfl rfl fun z w2 r2 e2 z2 f2 => ?_
    simp -zeta only [List.getElem?_cons_zero, List.getElem?_cons_succ, LdV_some, dec_int, dec_bool, dec_str, add_mk, Nat.zero_add, Nat.add_zero, r2.cell]
    have hf2 := hf.ext f2
    refine hp x w2 _ (hC w2 (hat hf2)) fun w3 f3 => ⟨p x, rfl, ?_⟩
    have hf3 := hf2.ext f3
    have r3 := r2.ext f3
    have hrW3 := (hrW.ext f2).ext f3
    cases he : p x
    · rw [Bool.not_false, cond_true]
      simp -zeta only [List.getElem?_cons_zero, List.getElem?_cons_succ, LdV_some, dec_int, dec_bool, dec_str, r3.cell]
      have hfl : (xs.take (j + 1)).filter (fun x => !p x) = kp ++ [x] := by rw [htk, List.filter_append, hkp]; simp [he]
      refine ⟨by omega, by omega, ?_⟩
      rw [Int.toNat_natCast]
      refine StN_row (eE x) w3 _ (kp.length * 3) 0 hrW3 (eE_one x) (by simp only [List.length_append, fl3, eE_len]; omega) fun W2 rr2 g2 zz2 => ?_
      obtain ⟨m0, m1, hms, hm0⟩ : ∃ m0 m1, mid = m0 ++ m1 ∧ m0.length = 3 := ⟨mid.take 3, mid.drop 3, (List.take_append_drop ..).symm, by rw [List.length_take]; omega⟩
      subst hms
      have hsp : ∀ (A B C D : List Value), B.length = 3 → A.length = kp.length * 3 → (A ++ (B ++ C ++ D)).take (kp.length * 3 + 0) ++ eE x ++ (A ++ (B ++ C ++ D)).drop (kp.length * 3 + 0 + (eE x).length) = A ++ (eE x ++ (C ++ D)) := by
        intro A B C D hB hA
        rw [Nat.add_zero, ← hA, List.take_left' rfl, eE_len, ← hB, ← List.drop_drop, List.drop_left' rfl, List.append_assoc B, List.drop_left' rfl, List.append_assoc]
      rw [hsp _ _ _ _ hm0 (fl3 kp)] at rr2
      simp only [J]
      rw [wrap_i64 (by omega) (by omega), wrap_i64 (by omega) (by omega)]
      rw [List.length_append, hm0] at hmid
      refine hnext _ _ ⟨j + 1, by omega, by simp, by rw [hfl]; simp, by rw [hfl]; simp; omega, hf3.trans (g2 (· = b) rfl) fun _ _ e => e, m1 ++ eE x, by rw [hfl, List.length_append, eE_len, List.length_append, List.length_singleton]; omega, ?_⟩ (by simp only; omega)
      rw [hfl, List.flatMap_append]
      simpa [List.append_assoc] using rr2
    · rw [Bool.not_true, cond_false]
      have hfl : (xs.take (j + 1)).filter (fun x => !p x) = kp := by rw [htk, List.filter_append, hkp]; simp [he]
      simp only [J]
      rw [wrap_i64 (by omega) (by omega)]
      refine hnext _ _ ⟨j + 1, by omega, by simp, by rw [hfl], by rw [hfl]; omega, hf3, mid ++ eE x, by rw [hfl, List.length_append, eE_len]; omega, ?_⟩ (by simp only; omega)
      rw [hfl]
      simpa only [List.append_assoc] using hrW3
  · rw [decide_eq_false hlt, cond_false]
    have hje : j = xs.length := by omega
    subst hje
    rw [List.take_length] at hkp
    rw [List.drop_length, List.flatMap_nil, List.nil_append] at hrW
    refine ⟨by (try simp only); omega, by (try simp only); omega, by (try simp only); omega, ?_⟩
    simp only [Int.toNat_natCast]
    have hne : sc ≠ kp.length := by omega
    have hsub : subA (some (⟨b, 0, none⟩ : Addr)) sc kp.length 3 = some ⟨b, kp.length * 3, none⟩ := by
      unfold subA
      rw [if_neg hne, Option.map_some, add_mk, Nat.zero_add]
    rw [hsub]
    refine ClearSl_E hrW (by simp only [List.length_append, fl3]; omega) fun W2 r2 g2 => ?_
    have hrl : (repCells [Value.string (bs []), Value.int .i64 0, Value.bool false] (xs.length - kp.length)).length = (xs.length - kp.length) * 3 := by rw [repCells_len]; rfl
    have hspl : spl (kp.flatMap eE ++ (mid ++ pad)) (kp.length * 3) (repCells [Value.string (bs []), Value.int .i64 0, Value.bool false] (xs.length - kp.length)) = kp.flatMap eE ++ (repCells [Value.string (bs []), Value.int .i64 0, Value.bool false] (xs.length - kp.length) ++ pad) := by
      have := spl_mid (A := kp.flatMap eE) (B := mid) (C := pad) (vs := repCells [Value.string (bs []), Value.int .i64 0, Value.bool false] (xs.length - kp.length)) (by omega)
      rw [fl3] at this
      exact this
    rw [hspl] at r2
    refine ⟨by (try simp only); omega, by (try simp only); omega, by (try simp only); omega, ?_⟩
    have hsub0 : subA (some (⟨b, 0, none⟩ : Addr)) sc 0 3 = some ⟨b, 0, none⟩ := by
      unfold subA
      split <;> simp [Addr.add]
    simp only [Int.toNat_natCast, Int.toNat_zero, Nat.sub_zero, hsub0]
    refine ⟨⟨by rw [hkp], .inr ⟨b, repCells [Value.string (bs []), Value.int .i64 0, Value.bool false] (xs.length - kp.length) ++ pad, rfl, ?_, ?_⟩⟩, hat (hf.trans g2 fun _ _ e => e), fun c hc => ?_⟩
    · rw [hkp, List.length_append, hrl]; simp only; omega
    · rw [hkp]; exact r2
    · obtain ⟨o, e⟩ := hc
      exact ⟨o, e⟩
end Go.Proofs
