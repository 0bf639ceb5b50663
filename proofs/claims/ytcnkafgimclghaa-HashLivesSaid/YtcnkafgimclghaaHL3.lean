import Derived.Test.YtcnkafgimclghaaHL2
/- A table's keys, rising; and whether the library is awake. -/
namespace Go.Proofs
open Gp Gp.Hash
set_option maxRecDepth 100000

theorem hlen_ok {w : World} {b s : Nat} {L : List Ent} {most : Int} {M : ByteArray → Option Int} (h : TB w b s L most M) : c_hash_Table_Len (some ⟨b, 0, none⟩) w fun n w' => n = (cnt L : Int) ∧ w' = w := by
  apply ok_hash_Table_Len
  unfold s_hash_Table_Len
  refine cm_hash_Table_ready (hready_ok h.ht) ?_
  rintro r w2 ⟨rfl, hw⟩
  subst hw
  simp only [Bool.not_true, cond_false, ex_some, Ld_eq, List.getElem?_cons_zero, List.getElem?_cons_succ, LdV_some, dec_int, add_mk, Nat.zero_add, h.ht.hd.cell]
  exact ⟨by trivial, by trivial⟩

/-- A table that was made behind w0. -/
structure Own (w0 w : World) (b : Nat) (c : Nat) (most : Int) (M : ByteArray → Option Int) : Prop where
  ex : ∃ s L, TB w b s L most M ∧ w0.heap.size ≤ s ∧ cnt L = c
  lb : w0.heap.size ≤ b
  fr : ∀ S, Fr8 w0 w S

theorem Own.frn {w0 w w' : World} {b c : Nat} {most : Int} {M : ByteArray → Option Int} (h : Own w0 w b c most M) (hf : ∀ S, Fr8 w w' S) : Own w0 w' b c most M := by
  obtain ⟨⟨s, L, ht, hs, hc⟩, hb, hfr⟩ := h
  exact ⟨⟨s, L, ht.frn hf, hs, hc⟩, hb, fun S => (hfr S).trans (hf S) fun _ _ e => e⟩

theorem put_own {w0 w : World} {b c : Nat} {most : Int} {M : ByteArray → Option Int} (h : Own w0 w b c most M) (k : ByteArray) (n : Int) (hk : k.size ≤ 2 ^ 63 - 1) :
    c_hash_Table_Put (some ⟨b, 0, none⟩) k n w fun e w' =>
      (e = 0 ∧ (M k = none → (c : Int) < most) ∧ Own w0 w' b (if (M k).isSome then c else c + 1) most (upd M k (some n))) ∨ (e = 7 ∧ M k = none ∧ most ≤ (c : Int) ∧ Own w0 w' b c most M) := by
  obtain ⟨⟨s, L, ht, hs, rfl⟩, hb, hfr⟩ := h
  have hz := (hfr fun _ => False).size
  refine cm_hash_Table_Put (hput_ok ht k n hk) ?_
  rintro e w' (⟨rfl, h1, s', L', ht', hc', hf, hs'⟩ | ⟨rfl, h1, h2, hf⟩)
  · exact .inl ⟨rfl, h1, ⟨⟨s', L', ht', by rcases hs' with h | h <;> omega, hc'⟩, hb, fun S => (hfr S).trans hf fun x hx e => by omega⟩⟩
  · exact .inr ⟨rfl, h1, h2, ⟨⟨s, L, ht.frn hf, hs, rfl⟩, hb, fun S => (hfr S).trans (hf S) fun _ _ e => e⟩⟩

theorem delete_own {w0 w : World} {b c : Nat} {most : Int} {M : ByteArray → Option Int} (h : Own w0 w b c most M) (k : ByteArray) (hk : k.size ≤ 2 ^ 63 - 1) :
    c_hash_Table_Delete (some ⟨b, 0, none⟩) k w fun r w' => r = (M k).isSome ∧ ∃ c', c' + (if (M k).isSome then 1 else 0) = c ∧ Own w0 w' b c' most (upd M k none) := by
  obtain ⟨⟨s, L, ht, hs, rfl⟩, hb, hfr⟩ := h
  refine cm_hash_Table_Delete (hdelete_ok ht k hk) ?_
  rintro r w' ⟨rfl, ⟨L', ht', hc'⟩, hf⟩
  exact ⟨rfl, _, hc', ⟨s, L', ht', hs, rfl⟩, hb, fun S => (hfr S).trans hf fun x hx e => by omega⟩

theorem get_own {w0 w : World} {b c : Nat} {most : Int} {M : ByteArray → Option Int} (h : Own w0 w b c most M) (k : ByteArray) (hk : k.size ≤ 2 ^ 63 - 1) :
    c_hash_Table_Get (some ⟨b, 0, none⟩) k w fun n t w' => t = (M k).isSome ∧ n = (M k).getD 0 ∧ Own w0 w' b c most M := by
  have h0 := h
  obtain ⟨⟨s, L, ht, hs, rfl⟩, hb, hfr⟩ := h
  refine cm_hash_Table_Get (hget_ok ht k hk) ?_
  rintro n t w' ⟨hf, h1, h2⟩
  exact ⟨h1, h2, h0.frn hf⟩

theorem len_own {w0 w : World} {b c : Nat} {most : Int} {M : ByteArray → Option Int} (h : Own w0 w b c most M) :
    c_hash_Table_Len (some ⟨b, 0, none⟩) w fun n w' => n = (c : Int) ∧ w' = w := by
  obtain ⟨⟨s, L, ht, hs, rfl⟩, hb, hfr⟩ := h
  exact hlen_ok ht

theorem new_own (n : Int) (w0 w : World) (h0 : ∀ S, Fr8 w0 w S) : c_hash_New n w fun p e w' =>
    (0 ≤ n ∧ n ≤ 65536 ∧ e = 0 ∧ ∃ b, p = some ⟨b, 0, none⟩ ∧ Own w0 w' b 0 n fun _ => none) ∨ ((n < 0 ∨ 65536 < n) ∧ e = 1 ∧ p = none ∧ ∀ S, Fr8 w0 w' S) := by
  refine cm_hash_New (hnew_ok n w) ?_
  have hz := (h0 fun _ => False).size
  rintro p e w' ⟨hf, ⟨h1, h2, rfl, b, rfl, hb, ht⟩ | ⟨h1, rfl, rfl⟩⟩
  · exact .inl ⟨h1, h2, rfl, b, rfl, ⟨b, [], ht, by omega, rfl⟩, by omega, fun S => (h0 S).trans (hf S) fun _ _ e => e⟩
  · exact .inr ⟨h1, rfl, rfl, fun S => (h0 S).trans (hf S) fun _ _ e => e⟩

theorem ne_of_size {a b : ByteArray} (h : a.size ≠ b.size) : a ≠ b := fun e => h (by rw [e])

theorem hawake_ok (w : World) : c_law18_awake w fun r w' => r = true ∧ ∀ S, Fr8 w w' S := by
  apply ok_law18_awake
  unfold s_law18_awake
  have ab : (bs [98]) ≠ (bs [97]) := by intro h; simp [bs] at h
  refine cm_hash_New (new_own 1 w w fun S => Fr8.refl _ _) ?_
  rintro p e w1 (⟨_, _, rfl, b, rfl, h⟩ | ⟨h, _⟩)
  case inr => omega
  simp only [bne_self_eq_false, Option.isNone_some, cond_false]
  refine cm_hash_Table_Put (put_own h (bs [97]) 1 (by decide)) ?_
  rintro e w2 (⟨rfl, _, h2⟩ | ⟨rfl, _, hx, _⟩)
  case inr => omega
  simp only [bne_self_eq_false, cond_false]
  refine cm_hash_Table_Put (put_own h2 (bs [98]) 2 (by decide)) ?_
  rintro e w3 (⟨rfl, hx, _⟩ | ⟨rfl, _, _, h3⟩)
  · have := hx (by simp [upd, ab])
    simp at this
  simp only [bne_self_eq_false, cond_false]
  refine cm_hash_Table_Get (get_own h3 (bs [97]) (by decide)) ?_
  rintro n t w4 ⟨rfl, rfl, h4⟩
  simp only [upd, if_true, Option.isSome_some, Option.getD_some, beq_self_eq_true, cond_true]
  refine cm_hash_Table_Delete (delete_own h4 (bs [97]) (by decide)) ?_
  rintro r w5 ⟨rfl, c', hc, h5⟩
  simp only [upd, if_true, Option.isSome_some, Option.isSome_none, cond_true] at hc ⊢
  refine cm_hash_Table_Len (len_own h5) ?_
  rintro n w6 ⟨rfl, rfl⟩
  have : c' = 0 := by simpa using hc
  subst this
  exact ⟨rfl, h5.fr⟩


theorem eU_full (L : List Ent) : (L.filter fun x => !!eU x) = L.filter full := by
  refine congrArg (fun p => L.filter p) (funext fun x => ?_)
  cases x <;> rfl
theorem kn_e (e : Ent) : kn e = (eKey e, eN e) := by cases e <;> rfl

theorem HT.sl {w : World} {b s : Nat} {L : List Ent} {many most : Int} (h : HT w b s L many most) : SlN 3 eE w ⟨slA s L, L.length, L.length⟩ L := by
  by_cases hn : L = []
  · subst hn
    exact ⟨rfl, rfl, Nat.le_refl _⟩
  · have hr := h.row hn
    have hb : BufN 3 eE w ⟨some ⟨s, 0, none⟩, L.length, L.length⟩ L := BufN.row hr
    have := hb.sl eE_len (by omega)
    rw [show slA s L = some ⟨s, 0, none⟩ by simp [slA, hn]]
    exact this

abbrev yA : List Shape := [.one .str, .one (.int .i64)]
def yH (l : List KN) : List (DenR yA) := l.map fun x => (x.1, x.2, ())

theorem unused_fn : FnE (Value.func (.func 81) #[] #[]) (fun _ => True) (fun x => !eU x) := by
  intro x W K _ hK
  refine callV_fn (by kernel_rfl) ?_
  refine ok_hash_Table_All_1_1 (a0_0 := eKey x) (a0_1 := eN x) (a0_2 := eU x) (K := fun r w => K (.bool r) w) ?_
  unfold s_hash_Table_All_1_1
  refine Al_e fun a w1 r1 e1 z1 f1 => ?_
  simp only [Ld_eq, List.getElem?_cons_zero, List.getElem?_cons_succ, LdV_some, dec_bool, add_mk, Nat.zero_add, r1.cell]
  exact hK w1 f1

theorem all_iter {b s f0 : Nat} {L : List Ent} {most : Int} {M : ByteArray → Option Int} {R : List KN} (hR : Rep R M) :
    IterFn2 Try.prog yA (Value.func (.func 78) #[] #[(Value.pointer (some ⟨f0, 0, none⟩))])
      (fun W => Row W f0 [.pointer (some ⟨b, 0, none⟩)] ∧ TB W b s L most M) (yH R) := by
  refine ⟨by kernel_rfl, fun n w Q D hC hQ hD hy h0 => ?_⟩
  refine Calls.mono (ok_hash_Table_All_1 (a0 := .func (.yield n) #[] #[]) (f0 := ⟨f0, 0, none⟩) (K := fun w' => Q (yH R).length w' ∨ D w') ?_) (fun e w' h => h)
  unfold s_hash_Table_All_1
  have up : ∀ {i W W'}, Q i W → Ext W W' → Q i W' := fun hq hx => hQ _ _ _ hq (hx _)
  obtain ⟨r0, h⟩ := hC _ _ h0
  have hsz := h.sz
  simp only [Ld_eq, List.getElem?_cons_zero, LdV_some, dec_ptr, r0.cell]
  refine cm_hash_Table_ready (hready_ok h.ht) ?_
  rintro _ w2 ⟨rfl, hw⟩
  subst hw
  simp only [Bool.not_true, cond_false, ex_some, List.getElem?_cons_zero, LdV_some, dec_slice, dec_ptr, r0.cell, h.ht.hd.cell]
  refine cm_slices_Clone_hash_entry_hash_entry (cloneE_ok h.ht.sl (by omega)) ?_
  rintro s3 w3 ⟨f3, b3, n3⟩
  have q3 := up h0 f3
  have z3 := f3.size
  refine cm_slices_DeleteFunc_hash_entry_hash_entry (delE_ok b3 (by omega) unused_fn fun _ _ => trivial) ?_
  rintro s4 w4 ⟨b4, f4, n4⟩
  have n4' : ∀ c, SliceV.at s4 c → w2.heap.size ≤ c := fun c hc => n3 c (n4 c hc)
  have q4 : Q 0 w4 := hQ _ _ _ q3 (f4.mono fun c hc => n3 c hc)
  have z4 := f4.size
  rw [eU_full] at b4
  have hfl : (L.filter full).length ≤ L.length := List.length_filter_le _ _
  refine cm_slices_SortFunc_hash_entry_hash_entry (sortE_ok b4 (by omega)) ?_
  rintro w5 ⟨f5, ys, hp, hs, b5⟩
  have q5 : Q 0 w5 := hQ _ _ _ q4 (f5.mono fun c hc => n4' c hc)
  have hys : ys.map kn = R := sorted_is h.t.dist h.m hR hp (hs.imp fun {a b} hab => by rw [kn_e, kn_e]; exact hab)
  have hyl : (yH R).length = ys.length := by simp [yH, ← hys]
  have l5 := b5.len
  have hpl := hp.length_eq
  rw [hyl]
  refine LoopP_inv (fun st W => ∃ i : Nat, i ≤ ys.length ∧ st.1 = (i : Int) ∧ Q i W ∧ BufN 3 eE W s4 ys ∧ w2.heap.size ≤ W.heap.size) (fun st _ => ys.length - st.1.toNat) ⟨0, by omega, rfl, q5, b5, by have := f5.size; omega⟩ ?_
  rintro ⟨x, ⟨⟩⟩ W ⟨i, hi, rfl, hq, hb, hz⟩ next hnext
  by_cases hlt : i < ys.length
  · have hlt' : ((i : Int) < (s4.len : Int)) := by omega
    have hS : ys[i]? = some ys[i] := List.getElem?_eq_getElem hlt
    generalize ys[i] = y at hS
    have hv : (yH R)[i]? = some (eKey y, eN y, ()) := by
      rw [yH, ← hys, List.map_map, List.getElem?_map, hS]
      simp only [Option.map_some, Function.comp, kn_e]
    rw [decide_eq_true hlt', cond_true]
    refine SlN_E (hb.sl eE_len (by omega)) hS fun a c0 c1 c2 => ?_
    simp only [LdV_some, dec_int, dec_bool, dec_str, c0, c1, c2]
    refine Al_e fun p w6 r6 e6 z6 f6 => ?_
    refine StN_full r6 rfl rfl fun w7 r7 f7 z7 => ?_
    have x7 : Ext W w7 := f6.new (f7 (· = p) rfl) fun c hc e => by omega
    simp only [List.getElem?_cons_zero, List.getElem?_cons_succ, LdV_some, dec_int, dec_str, add_mk, Nat.zero_add, r7.cell]
    refine callV_yield (hy i (eKey y, eN y, ()) w7 _ hv (up hq x7) ?_ ?_)
    · intro W' hq' hf
      refine ⟨true, rfl, ?_⟩
      simp only [Bool.not_true, cond_false]
      rw [wrap_i64 (by omega) (by omega)]
      refine hnext _ _ ⟨i + 1, by omega, by simp, hq', (hb.ext x7).fr hf fun c hc => ?_, by have := x7.size; have := hf.size; omega⟩ (by simp only; omega)
      have := n4' c hc
      omega
    · intro W' hd hf
      refine ⟨false, rfl, ?_⟩
      simp only [Bool.not_false, cond_true]
      exact .inr hd
  · have hlt' : ¬ ((i : Int) < (s4.len : Int)) := by omega
    rw [decide_eq_false hlt', cond_false]
    have : i = ys.length := by omega
    subst this
    exact .inl hq
end Go.Proofs
