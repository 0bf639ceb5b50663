import Derived.Test.YtcoolonmnjacfaaJN10
/- There are never more bytes, nor more buffers, than are allowed; behind the wait nothing is left. -/
namespace Go.Proofs
open Gp Gp.Hol Gp.Jn
set_option maxRecDepth 100000
set_option maxHeartbeats 2000000

theorem mem_upJ {l : JT} {k : Key} {v : Bf} {x : Key × Bf} (h : x ∈ upF l k v) : x = (k, v) ∨ x ∈ l := by
  induction l with
  | nil => exact .inl (List.mem_singleton.1 h)
  | cons y l ih =>
    rw [upF_cons] at h
    by_cases hk : k = y.1
    · rw [if_pos hk] at h
      rcases List.mem_cons.1 h with h | h
      · exact .inl h
      · exact .inr (List.mem_cons_of_mem _ h)
    · rw [if_neg hk] at h
      rcases List.mem_cons.1 h with h | h
      · exact .inr (by rw [h]; exact List.mem_cons_self ..)
      · exact (ih h).imp id (List.mem_cons_of_mem _)

theorem lk_memJ {l : JT} {k : Key} {v : Bf} (h : lkF l k = some v) : (k, v) ∈ l := by
  induction l with
  | nil => simp [lkF] at h
  | cons y l ih =>
    rw [lkF_cons] at h
    by_cases hk : k = y.1
    · rw [if_pos hk] at h
      cases h
      rw [hk]; exact List.mem_cons_self ..
    · rw [if_neg hk] at h
      exact List.mem_cons_of_mem _ (ih h)

/-- What comes at one time has that time. -/
theorem jadd_since {l : JT} {many bytes : Int} (h : ∀ x ∈ l, x.2.since = 5) (k : Key) (off : Int) (more : Bool) (b : List UInt8) (head : ByteArray) :
    ∀ x ∈ (jadd many bytes l k off more b head 5).l, x.2.since = 5 := by
  unfold jadd
  split
  · exact h
  rename_i x hx
  have hxs : x.since = 5 := by
    unfold jopen at hx
    split at hx
    · rename_i y hy
      cases hx
      exact h _ (lk_memJ hy)
    · split at hx
      · cases hx
      · cases hx; rfl
  have hd : ∀ x ∈ delF l k, x.2.since = 5 := fun x hx => h x ((del_sub l k).subset hx)
  unfold jput
  split
  · exact h
  split
  · exact hd
  split
  · exact hd
  · intro y hy
    rcases mem_upJ hy with rfl | g
    · simp only [begin_since]; exact hxs
    · exact h y g

section
variable {w : World} {t m : Nat} {many bytes : Int}

/-- A table that is newer than a world. -/
structure JW (w0 w : World) (t m : Nat) (many bytes wait : Int) (N : Nat) (l : JT) : Prop where
  at_ : ∃ rs, JAt w t m many bytes wait rs ∧ jtab rs = l ∧ (∀ x ∈ rs, x.2.1.l.length ≤ N) ∧ ∀ x ∈ rs, ∀ z, fpR x.2.1 z → w0.heap.size ≤ z
  sum : jsum l ≤ bytes
  len : (l.length : Int) ≤ many
  t0 : w0.heap.size ≤ t
  m0 : w0.heap.size ≤ m
  ext : Ext w0 w

theorem JW.more {w0 w w' : World} {wait : Int} {N : Nat} {l : JT} (h : JW w0 w t m many bytes wait N l) (hf : Ext w w') : JW w0 w' t m many bytes wait N l := by
  obtain ⟨rs, h1, h2, h3, h4⟩ := h.at_
  exact ⟨⟨rs, h1.ext hf, h2, h3, h4⟩, h.sum, h.len, h.t0, h.m0, h.ext.trans hf⟩

theorem wadd_ok {w0 w : World} {wait : Int} {N : Nat} {l : JT} (h : JW w0 w t m many bytes wait N l) (hb0 : 0 ≤ bytes) (hb1 : bytes ≤ 2 ^ 30) (hN : N < 2 ^ 19) {s : SliceV} {b : List UInt8} (hs : SlB w s b) (hbl : b.length ≤ 2 ^ 30) (k : Key) (off : Int) (more : Bool) (head : ByteArray) (now : Int) :
    c_join_Table_Add (some ⟨t, 0, none⟩) k off more s head now w fun _ _ _ _ w' => JW w0 w' t m many bytes wait (N + 1) (jadd many bytes l k off more b head now).l := by
  obtain ⟨rs, h1, rfl, h3, h4⟩ := h.at_
  refine cm_join_Table_Add (jadd_ok h1 hb0 hb1 h.sum hN h3 hs hbl k off more head now) ?_
  rintro hd all done e w' ⟨⟨rs', r1, r2, r3, r4⟩, _, _, _, hf⟩
  obtain ⟨q1, q2⟩ := jadd_bounds h.sum h.len k off more b head now
  have hsz := h.ext.size
  refine ⟨⟨rs', r1, r2, r3, fun x hx z hz => ?_⟩, q1, q2, h.t0, h.m0, h.ext.new hf fun z hz e => ?_⟩
  · rcases r4 x hx z hz with ⟨y, hy, hz'⟩ | g
    · exact h4 y hy z hz'
    · omega
  · rcases e with e | ⟨y, hy, hz'⟩
    · have := h.m0; omega
    · have := h4 y hy z hz'; omega

theorem wbytes_ok {w0 w : World} {wait : Int} {N : Nat} {l : JT} (h : JW w0 w t m many bytes wait N l) (hb1 : bytes ≤ 2 ^ 30) : c_join_Table_Bytes (some ⟨t, 0, none⟩) w fun n w' => n = jsum l ∧ JW w0 w' t m many bytes wait N l := by
  obtain ⟨rs, h1, rfl, h3, h4⟩ := h.at_
  have := h.sum
  refine cm_join_Table_Bytes (jbytes_ok h1 (by omega)) ?_
  rintro n w' ⟨rfl, hf⟩
  exact ⟨rfl, h.more hf⟩

theorem wbufs_ok {w0 w : World} {wait : Int} {N : Nat} {l : JT} (h : JW w0 w t m many bytes wait N l) : c_join_Table_Bufs (some ⟨t, 0, none⟩) w fun n w' => n = (l.length : Int) ∧ w' = w := by
  obtain ⟨rs, h1, rfl, h3, h4⟩ := h.at_
  refine cm_join_Table_Bufs (jbufs_ok h1) ?_
  rintro n w' ⟨rfl, hf⟩
  exact ⟨by unfold jtab; rw [List.length_map], hf⟩

theorem wkeys_ok {w0 w : World} {wait : Int} {N : Nat} {l : JT} (h : JW w0 w t m many bytes wait N l) (hl : l.length ≤ 2 ^ 29) : c_join_Table_Keys (some ⟨t, 0, none⟩) w fun r w' => BufN 1 eK w' r (jkeys l) ∧ JW w0 w' t m many bytes wait N l ∧ ∀ b, SliceV.at r b → w.heap.size ≤ b := by
  obtain ⟨rs, h1, rfl, h3, h4⟩ := h.at_
  refine cm_join_Table_Keys (keys_ok h1 (by unfold jtab at hl; rwa [List.length_map] at hl)) ?_
  rintro r w' ⟨hf, hb, hn⟩
  exact ⟨hb, h.more hf, hn⟩

theorem jsum_sub {l l' : JT} (h : l'.Sublist l) : jsum l' ≤ jsum l := by
  induction h with
  | slnil => exact Int.le_refl _
  | cons a _ ih => rw [jsum_cons]; have := sum_nonneg a.2.L; omega
  | cons_cons a _ ih => rw [jsum_cons, jsum_cons]; omega

theorem jexpire_sub (wait now : Int) (l : JT) : (jexpire wait now l).2.Sublist l := by
  unfold jexpire
  split
  · exact List.Sublist.refl _
  · exact List.filter_sublist

theorem wexpire_ok {w0 w : World} {wait : Int} {N : Nat} {l : JT} (h : JW w0 w t m many bytes wait N l) (hl : l.length ≤ 2 ^ 29) (hw1 : 1 ≤ wait) {now : Int} (hnow : now ≤ 9223372036854775807) :
    c_join_Table_Expire (some ⟨t, 0, none⟩) now w fun r w' => BufN 1 eK w' r (jexpire wait now l).1 ∧ JW w0 w' t m many bytes wait N (jexpire wait now l).2 ∧ Fr8 w w' (· = m) ∧ ∀ b, SliceV.at r b → w.heap.size ≤ b := by
  obtain ⟨rs, h1, rfl, h3, h4⟩ := h.at_
  refine cm_join_Table_Expire (expire_ok h1 (by unfold jtab at hl; rwa [List.length_map] at hl) hw1 hnow) ?_
  rintro r w' ⟨⟨rs', r1, r2, r3⟩, hb, hf, hn⟩
  have hsub := jexpire_sub wait now (jtab rs)
  have := h.sum
  have := h.len
  have := jsum_sub hsub
  have := hsub.length_le
  exact ⟨hb, ⟨⟨rs', r1, r2, fun x hx => h3 x (r3.subset hx), fun x hx => h4 x (r3.subset hx)⟩, by omega, by omega, h.t0, h.m0, h.ext.new hf fun z hz e => by have := h.m0; omega⟩, hf, hn⟩

theorem wnew_ok (a b c : Int) (hok : newOk a b c) (w0 w : World) (hf : Ext w0 w) : c_join_New a b c w fun t e w' => e = 0 ∧ ∃ t' m, t = some ⟨t', 0, none⟩ ∧ JW w0 w' t' m a b c 0 [] := by
  refine cm_join_New (jnew_ok a b c w) ?_
  rintro t e w' (⟨h, _⟩ | ⟨_, rfl, t', m, rfl, hj, h1, h2, h3⟩)
  · exact absurd hok h
  · have := hf.size
    obtain ⟨⟨a1, a2⟩, ⟨b1, b2⟩, _⟩ := hok
    exact ⟨rfl, t', m, rfl, ⟨⟨[], hj, rfl, fun x hx => by simp at hx, fun x hx => by simp at hx⟩, b1, a1, by omega, by omega, hf.trans h3⟩⟩

theorem bounds_ok {w : World} {a0 a1 : Int} (g0 : IntKind.i64.wrap a0 = a0 ∧ 0 ≤ a0 ∧ a0 ≤ 255) (g1 : IntKind.i64.wrap a1 = a1 ∧ 0 ≤ a1 ∧ a1 ≤ 255) {s : SliceV} {xs : List Dc} (hs : DosAt w s xs) :
    c_law16_JoinBounds a0 a1 s w fun r w' => r = true ∧ Ext w w' := by
  apply ok_law16_JoinBounds
  unfold s_law16_JoinBounds
  obtain ⟨e0, l0, u0⟩ := g0
  obtain ⟨e1, l1, u1⟩ := g1
  rw [e0, e1]
  refine cm_law16_far (jfar_ok hs) ?_
  rintro r w1 ⟨f1, hfar⟩
  cases r with
  | true =>
    rw [cond_true]
    refine cm_law16_awake (awake16_ok _) ?_
    rintro r w2 ⟨rfl, f2⟩
    exact ⟨rfl, f1.trans f2⟩
  | false =>
  obtain ⟨hn60, hbl⟩ := hfar rfl
  rw [cond_false]
  refine cm_join_New (wnew_ok a0 a1 60 ⟨by omega, by omega, by omega⟩ w w1 f1) ?_
  rintro t e w2 ⟨rfl, t', m, rfl, hJ⟩
  intro J
  rw [Option.isNone_some, cond_false]
  rw [show ((0 : Int) != 0) = false from rfl]
  simp -zeta only [J, cond_false]
  clear J
  have hlen := hs.sl.len
  refine LoopP_inv (fun st W => ∃ j : Nat, j ≤ xs.length ∧ st.1 = (j : Int) ∧ ∃ l, JW w W t' m a0 a1 60 j l) (fun st _ => (xs.length - st.1).toNat) ⟨0, by omega, rfl, [], hJ⟩ ?_
  rintro ⟨i, ⟨⟩⟩ W ⟨j, hj, hi, l, hW⟩ next hnext
  simp only at hi
  subst hi
  by_cases hlt : (j : Int) < (s.len : Int)
  · rw [decide_eq_true hlt, cond_true]
    have hx := List.getElem?_eq_getElem (show j < xs.length by omega)
    generalize xs[j] = x at hx
    have hxb := hbl x (List.mem_of_getElem? hx)
    refine do_ix (hs.ext hW.ext) hx fun u W1 ru hb eu fu => ?_
    simp -zeta only [Ld_eq, List.getElem?_cons_zero, List.getElem?_cons_succ, LdV_some, dec_slice, dec_int, dec_bool, dec_str, add_mk, Nat.zero_add, ru.cell]
    refine cm_join_Table_Add (wadd_ok (hW.more fu) (by omega) (by omega) (by omega) hb (by omega) _ _ _ _ _) ?_
    rintro _ _ _ _ w3 hW3
    intro J
    have hJF : ∀ w', JW w w' t' m a0 a1 60 (j + 1) (jadd a0 a1 l x.1.key x.1.off x.1.more x.1.b x.1.head x.1.now).l → J false w' := by
      intro w' hw'
      simp -zeta only [J, cond_false]
      rw [wrap_i64 (n := (j : Int) + 1) (by omega) (by omega)]
      exact hnext _ _ ⟨j + 1, by omega, by simp, _, hw'⟩ (by simp only; omega)
    clear_value J
    refine cm_join_Table_Bytes (wbytes_ok hW3 (by omega)) ?_
    rintro n w4 ⟨rfl, hW4⟩
    rw [decide_eq_false (show ¬ _ > a1 from Int.not_lt.2 hW3.sum), cond_false]
    refine cm_join_Table_Bufs (wbufs_ok hW4) ?_
    rintro n w0 ⟨rfl, hw⟩
    subst hw
    rw [decide_eq_false (show ¬ _ > a0 from Int.not_lt.2 hW3.len), cond_false]
    refine cm_join_Table_Bufs (wbufs_ok hW4) ?_
    rintro n w0 ⟨rfl, hw⟩
    subst hw
    have := hW3.len
    refine cm_join_Table_Keys (wkeys_ok hW4 (by omega)) ?_
    rintro r w5 ⟨hbk, hW5, _⟩
    have hl5 := hbk.len
    rw [jkeys_len] at hl5
    rw [hl5, show ((((jadd a0 a1 l x.1.key x.1.off x.1.more x.1.b x.1.head x.1.now).l.length : Nat) : Int) != _) = false from bne_self_eq_false _]
    exact hJF _ hW5
  · rw [decide_eq_false hlt, cond_false]
    refine cm_law16_awake (awake16_ok _) ?_
    rintro r w2 ⟨rfl, f2⟩
    exact ⟨rfl, hW.ext.trans f2⟩

theorem gone_ok {w : World} {s : SliceV} {xs : List Dc} (hs : DosAt w s xs) :
    c_law16_JoinGone s w fun r w' => r = true ∧ Ext w w' := by
  apply ok_law16_JoinGone
  unfold s_law16_JoinGone
  refine cm_law16_far (jfar_ok hs) ?_
  rintro r w1 ⟨f1, hfar⟩
  cases r with
  | true =>
    rw [cond_true]
    refine cm_law16_awake (awake16_ok _) ?_
    rintro r w2 ⟨rfl, f2⟩
    exact ⟨rfl, f1.trans f2⟩
  | false =>
  obtain ⟨hn60, hbl⟩ := hfar rfl
  rw [cond_false]
  refine cm_join_New (wnew_ok 100 100000 60 ⟨by omega, by omega, by omega⟩ w w1 f1) ?_
  rintro t e w2 ⟨rfl, t', m, rfl, hJ⟩
  intro J
  rw [Option.isNone_some, cond_false]
  rw [show ((0 : Int) != 0) = false from rfl]
  simp -zeta only [J, cond_false]
  clear J
  have hlen := hs.sl.len
  refine LoopP_inv (fun st W => ∃ j : Nat, j ≤ xs.length ∧ st.1 = (j : Int) ∧ ∃ l, JW w W t' m 100 100000 60 j l ∧ ∀ x ∈ l, x.2.since = 5) (fun st _ => (xs.length - st.1).toNat) ⟨0, by omega, rfl, [], hJ, fun x hx => by simp at hx⟩ ?_
  rintro ⟨i, ⟨⟩⟩ W ⟨j, hj, hi, l, hW, h5⟩ next hnext
  simp only at hi
  subst hi
  by_cases hlt : (j : Int) < (s.len : Int)
  · rw [decide_eq_true hlt, cond_true]
    have hx := List.getElem?_eq_getElem (show j < xs.length by omega)
    generalize xs[j] = x at hx
    have hxb := hbl x (List.mem_of_getElem? hx)
    refine do_ix (hs.ext hW.ext) hx fun u W1 ru hb eu fu => ?_
    simp -zeta only [Ld_eq, List.getElem?_cons_zero, List.getElem?_cons_succ, LdV_some, dec_slice, dec_int, dec_bool, dec_str, add_mk, Nat.zero_add, ru.cell]
    refine cm_join_Table_Add (wadd_ok (hW.more fu) (by omega) (by omega) (by omega) hb (by omega) _ _ _ _ _) ?_
    rintro _ _ _ _ w3 hW3
    rw [wrap_i64 (n := (j : Int) + 1) (by omega) (by omega)]
    exact hnext _ _ ⟨j + 1, by omega, by simp, _, hW3, jadd_since h5 _ _ _ _ _⟩ (by simp only; omega)
  rw [decide_eq_false hlt, cond_false]
  have hln := hW.len
  refine cm_join_Table_Bufs (wbufs_ok hW) ?_
  rintro n w0 ⟨rfl, hw⟩
  subst hw
  have x64 : jexpire 60 64 l = ([], l) := by
    unfold jexpire
    rw [if_neg (by omega)]
    have h1 : l.filter (over 60 64) = [] := List.filter_eq_nil_iff.2 fun x hx => by unfold over; rw [h5 x hx]; decide
    have h2 : (l.filter fun x => !over 60 64 x) = l := List.filter_eq_self.2 fun x hx => by unfold over; rw [h5 x hx]; decide
    rw [h1, h2]; rfl
  have x65 : jexpire 60 65 l = (sortK (l.map (·.1)), []) := by
    unfold jexpire
    rw [if_neg (by omega)]
    have h1 : l.filter (over 60 65) = l := List.filter_eq_self.2 fun x hx => by unfold over; rw [h5 x hx]; decide
    have h2 : (l.filter fun x => !over 60 65 x) = [] := List.filter_eq_nil_iff.2 fun x hx => by unfold over; rw [h5 x hx]; decide
    rw [h1, h2]
  intro J
  refine cm_join_Table_Expire (wexpire_ok hW (by omega) (by omega) (by omega)) ?_
  rintro r w2 ⟨hr, hW2, _, _⟩
  rw [x64] at hr hW2
  have hr0 : r.len = 0 := hr.len
  rw [hr0, show (((0 : Nat) : Int) != 0) = false from rfl, cond_false]
  refine cm_join_Table_Bufs (wbufs_ok hW2) ?_
  rintro n w0 ⟨rfl, hw⟩
  subst hw
  rw [bne_self_eq_false]
  simp -zeta only [J, cond_false]
  clear J
  intro J2
  refine cm_join_Table_Expire (wexpire_ok hW2 (by simp only; omega) (by omega) (by omega)) ?_
  rintro r w3 ⟨hr, hW3, _, _⟩
  simp only at hr hW3
  rw [x65] at hr hW3
  have hrl : r.len = l.length := by
    have := hr.len
    simp only at this
    rw [this]
    exact jkeys_len l
  rw [hrl, beq_self_eq_true, cond_true]
  refine cm_join_Table_Bufs (wbufs_ok hW3) ?_
  rintro n w0 ⟨rfl, hw⟩
  subst hw
  simp -zeta only [List.length_nil, show (((0 : Nat) : Int) == 0) = true from rfl, cond_true]
  refine cm_join_Table_Bytes (wbytes_ok hW3 (by omega)) ?_
  rintro n w4 ⟨rfl, hW4⟩
  simp -zeta only [show (jsum (60, ([] : JT)).2 == 0) = true from rfl, cond_true]
  refine cm_law16_awake (awake16_ok _) ?_
  rintro r w5 ⟨rfl, f5⟩
  simp only [J2]
  exact ⟨by trivial, hW4.ext.trans f5⟩
end
end Go.Proofs
